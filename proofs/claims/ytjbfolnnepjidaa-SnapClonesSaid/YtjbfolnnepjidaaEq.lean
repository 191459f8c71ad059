/-
  Equality of structs, for the generated walks of this claim.
-/
import Derived.Test.YtjbfolnnepjidaaMore
set_option linter.unusedVariables false
set_option linter.unusedSimpArgs false
namespace Go.Proofs.Ytjbfolnnepjidaa.Tw
open Go

def eqD : TypeDesc → Value → Value → Option Bool
  | .int _, .int k a, .int k' b => if k = k' then some (a == b) else none
  | .bool, .bool a, .bool b => some (a == b)
  | .string, .string a, .string b => some (a == b)
  | _, _, _ => none
theorem run_eqD {P : Program} {t : TypeId} {d : TypeDesc} {x y : Value} {b : Bool} (n : Nat) (w : World) (hd : P.underlying t = some d) (h : eqD d x y = some b) : (Op.equalIn (n + 1) t x y).run P w = .ok b w := by
  cases d <;> cases x <;> cases y <;> simp only [eqD, reduceCtorEq] at h
  · simp only [Option.some.injEq] at h; subst h
    simp [Op.equalIn, Sem.run_bind, run_underlying hd]
  · split at h
    · rename_i hk; simp only [Option.some.injEq] at h; subst h; subst hk
      simp [Op.equalIn, Sem.run_bind, run_underlying hd]
    · cases h
  · simp only [Option.some.injEq] at h; subst h
    simp [Op.equalIn, Sem.run_bind, run_underlying hd]
def eqL : List (Nat × TypeDesc) → Array Value → Array Value → Option Bool
  | [], _, _ => some true
  | (off, d) :: fs, xs, ys => match xs[off]?, ys[off]? with
    | some x, some y => (eqD d x y).bind fun q => (eqL fs xs ys).bind fun r => some (q && r)
    | _, _ => none
structure EqT (P : Program) (T : TypeId) (l : List (Nat × TypeDesc)) : Prop where
  out : ∃ fs : Array Field, P.underlying T = some (.struct fs) ∧ (fs.toList.mapM fun f => (P.underlying f.type).bind fun d => if d.isRow = false ∧ f.name ≠ "_" then some (f.offset, d) else none) = some l ∧ P.stoodInHeld T = false ∧ P.eqGuardType P.depth T = false
theorem run_eqFields {P : Program} {xs ys : Array Value} (n : Nat) (w : World) : ∀ (L : List Field) (l : List (Nat × TypeDesc)) (b : Bool), (L.mapM fun f => (P.underlying f.type).bind fun d => if d.isRow = false ∧ f.name ≠ "_" then some (f.offset, d) else none) = some l → eqL l xs ys = some b →
    Sem.run P (forIn L ((none, ()) : Option Bool × Unit) fun f __s => if f.name ≠ "_" then do
        let __do_lift ← part f.type xs f.offset
        let __do_lift_1 ← part f.type ys f.offset
        let __do_lift ← Op.equalIn (n + 1) f.type __do_lift __do_lift_1
        if (!__do_lift) = true then pure (ForInStep.done (some false, ())) else pure (ForInStep.yield (none, ()))
      else pure (ForInStep.yield (none, ()))) w = .ok (if b then none else some false, ()) w
  | [], l, b, hm, h => by
    simp at hm; subst hm
    simp only [eqL, Option.some.injEq] at h; subst h
    simp [Sem.run_pure]
  | f :: L, l, b, hm, h => by
    simp only [List.mapM_cons] at hm
    cases hd : P.underlying f.type with
    | none => simp [hd] at hm
    | some d =>
      by_cases hc : d.isRow = false ∧ f.name ≠ "_"
      · cases hr : (L.mapM fun f => (P.underlying f.type).bind fun d => if d.isRow = false ∧ f.name ≠ "_" then some (f.offset, d) else none) with
        | none => simp [hd, hc, hr] at hm
        | some l' =>
          simp only [hd, Option.bind_some, if_pos hc, hr, Option.pure_def, Option.bind_eq_bind, Option.some.injEq] at hm
          subst hm
          simp only [eqL] at h
          cases hx : xs[f.offset]? with
          | none => simp [hx] at h
          | some x =>
            cases hy : ys[f.offset]? with
            | none => simp [hx, hy] at h
            | some y =>
              simp only [hx, hy] at h
              have ho : One P f.type := ⟨d, hd, hc.1⟩
              have p1 : (part f.type xs f.offset).run P w = .ok x w := by simp [part, Sem.run_bind, run_isAgg_one ho, hx]
              have p2 : (part f.type ys f.offset).run P w = .ok y w := by simp [part, Sem.run_bind, run_isAgg_one ho, hy]
              have ih := run_eqFields (P := P) (xs := xs) (ys := ys) n w L l'
              cases he : eqD d x y with
              | none => simp [he] at h
              | some q =>
                have hq := run_eqD n w hd he
                simp only [he, Option.bind_some] at h
                cases hrest : eqL l' xs ys with
                | none => simp [hrest] at h
                | some r =>
                  simp only [hrest, Option.bind_some, Option.some.injEq] at h
                  subst h
                  cases q with
                  | false =>
                    simp only [List.forIn_cons, Sem.run_bind, hc.2, ne_eq, not_false_eq_true, if_true, p1, p2, hq, Result.andThen_ok, Bool.not_false, Sem.run_pure]
                    simp
                  | true =>
                    have := ih r hr hrest
                    simp only [List.forIn_cons, Sem.run_bind, hc.2, ne_eq, not_false_eq_true, if_true, p1, p2, hq, Result.andThen_ok, Bool.not_true, Bool.false_eq_true, if_false, Sem.run_pure, Bool.true_and]
                    exact this
      · simp [hd, hc] at hm
theorem run_eqS {P : Program} {T : TypeId} {l : List (Nat × TypeDesc)} {xs ys : Array Value} {b : Bool} (n : Nat) (w : World) (hT : EqT P T l) (h : eqL l xs ys = some b) : (Op.equalIn (n + 1 + 1) T (.agg xs) (.agg ys)).run P w = .ok b w := by
  obtain ⟨fs, h1, h2, h3, _⟩ := hT
  rw [Op.equalIn]
  simp only [Sem.run_bind, run_underlying h1, Result.andThen_ok, program, Sem.run, h3, Bool.false_eq_true, if_false]
  rw [← Array.forIn_toList, run_eqFields n w fs.toList l b h2 h]
  cases b <;> rfl
section
variable {P : Program} {J : World → Prop} {o : Oper} {l : Slots}
theorem run_eqlS {T T' : TypeId} {x y : Operand} {L : List (Nat × TypeDesc)} {xs ys : Array Value} {b : Bool} (ho : o.op = .binOp .eql T x y T') (hx : ev l x = some (.agg xs)) (hy : ev l y = some (.agg ys)) (hT : EqT P T L) (h : eqL L xs ys = some b) : RunV P J o l (.bool b) := fun ρ w ha _ => by
  have h1 : (Op.equal T (.agg xs) (.agg ys)).run P w = .ok b w := run_eqS 9998 w hT h
  obtain ⟨fs, _, _, _, hg⟩ := hT
  simp [execOp, ho, ha x _ hx, ha y _ hy, eqGuard, binOp, Sem.run_bind, hg, h1]
theorem run_neqS {T T' : TypeId} {x y : Operand} {L : List (Nat × TypeDesc)} {xs ys : Array Value} {b : Bool} (ho : o.op = .binOp .neq T x y T') (hx : ev l x = some (.agg xs)) (hy : ev l y = some (.agg ys)) (hT : EqT P T L) (h : eqL L xs ys = some b) : RunV P J o l (.bool (!b)) := fun ρ w ha _ => by
  have h1 : (Op.equal T (.agg xs) (.agg ys)).run P w = .ok b w := run_eqS 9998 w hT h
  obtain ⟨fs, _, _, _, hg⟩ := hT
  simp [execOp, ho, ha x _ hx, ha y _ hy, eqGuard, binOp, Sem.run_bind, hg, h1]
theorem run_nilS {x : Operand} {a : Option Addr} {n c : Nat} {T T' e : TypeId} (ho : o.op = .binOp .eql T x (.const (.slice none 0 0)) T') (hT : P.underlying T = some (.slice e)) (hx : ev l x = some (.slice a n c)) : RunV P J o l (.bool a.isNone) := fun ρ w ha _ => by
  have h1 : (Op.equal T (.slice a n c) (.slice none 0 0)).run P w = .ok a.isNone w := by
    show (Op.equalIn (9999 + 1) T _ _).run P w = _
    generalize 9999 = k
    rw [Op.equalIn]
    cases a <;> simp [Sem.run_bind, run_underlying hT]
  have hc : ρ (.const (.slice none 0 0)) = .slice none 0 0 := ha _ _ rfl
  simp [execOp, ho, ha x _ hx, hc, eqGuard, binOp, Sem.run_bind, h1]
theorem SRep.empty {α : Type} {M : Mem} {E : Enc α} {xs : List α} {a : Option Addr} {n c : Nat} (h : SRep M E xs a n c) (ha : a.isNone = true) : xs = [] := by
  rcases h.out with h | ⟨b, q, cs, t, fz, rfl, _⟩
  · exact h
  · cases ha
end
end Go.Proofs.Ytjbfolnnepjidaa.Tw
