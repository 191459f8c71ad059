/-
  The rules of the generated walks of this claim, each under a short name: steps are checked by computation.
-/
import Derived.Test.YtjbfolnnepjidaaEq
import Derived.Laws.BitsLemmas
set_option linter.unusedVariables false
set_option linter.unusedSimpArgs false
namespace Go.Proofs.Ytjbfolnnepjidaa.Tw
open Go

abbrev w64 (a : Int) : Int := IntKind.i64.wrap a
theorem Mem.le.t {A B C : Mem} (h : Mem.le A B) (k : Mem.le B C) : Mem.le A C := Mem.le_trans h k
theorem lr {A : Mem} : Mem.le A A := Mem.le_refl A

/-! ### Plain words -/
theorem bs {α β : Type} {x : Option α} {f : α → Option β} {r : β} {G : Prop} (hk : x.bind f = some r) (k : ∀ y, x = some y → f y = some r → G) : G :=
  let ⟨y, h1, h2⟩ := bind_some hk; k y h1 h2
theorem cs {α : Type} {b : Bool} {x y : Option α} {r : α} (hk : (bif b then x else y) = some r) : (b = true ∧ x = some r) ∨ (b = false ∧ y = some r) := by
  cases b with
  | true => exact .inl ⟨rfl, hk⟩
  | false => exact .inr ⟨rfl, hk⟩
theorem si {α : Type} {x y : α} (h : some x = some y) : y = x := (Option.some.inj h).symm
theorem tt {α : Type} (x : α) : some x = some x := rfl
theorem lt_of {n : Nat} {α : Type} {xs : List α} {i : Int} (hn : n = xs.length) (h : i < (xs.length : Int)) : i < (n : Int) := hn ▸ h
theorem andS (b c : Bool) : (bif b then some c else some false) = some (b && c) := by cases b <;> rfl
theorem orS (b c : Bool) : (bif b then some true else some c) = some (b || c) := by cases b <;> rfl

/-! ### Lists, brought out whole by computation -/
def takeK {α β : Type} : Nat → List α → (List α → Option β) → Option β
  | 0, _, k => k []
  | _ + 1, [], _ => none
  | n + 1, x :: xs, k => takeK n xs fun r => k (x :: r)
theorem takeK_eq {α β : Type} : ∀ {n : Nat} {xs : List α} {k : List α → Option β} {r : β}, takeK n xs k = some r → k (xs.take n) = some r ∧ n ≤ xs.length
  | 0, xs, k, r, h => ⟨h, Nat.zero_le _⟩
  | n + 1, [], k, r, h => by cases h
  | n + 1, x :: xs, k, r, h => let ⟨h1, h2⟩ := takeK_eq (n := n) (xs := xs) h; ⟨h1, by simpa using h2⟩
def dropO {α : Type} : Nat → List α → Option (List α)
  | 0, xs => some xs
  | _ + 1, [] => none
  | n + 1, _ :: xs => dropO n xs
theorem dropO_eq {α : Type} : ∀ {n : Nat} {xs r : List α}, dropO n xs = some r → xs.drop n = r
  | 0, xs, r, h => Option.some.inj h
  | n + 1, [], r, h => by cases h
  | n + 1, x :: xs, r, h => dropO_eq (n := n) (xs := xs) h
def nthO {α : Type} : Nat → List α → Option α
  | _, [] => none
  | 0, x :: _ => some x
  | n + 1, _ :: xs => nthO n xs
theorem nthO_eq {α : Type} : ∀ {n : Nat} {xs : List α}, nthO n xs = xs[n]?
  | _, [] => by simp [nthO]
  | 0, x :: xs => by simp [nthO]
  | n + 1, x :: xs => by simp [nthO, nthO_eq (n := n)]
def selK {β : Type} (H : List Ent) : List Nat → (List Ent → Option β) → Option β
  | [], k => k []
  | j :: js, k => match nthO j H with
    | none => none
    | some e => selK H js fun r => k (e :: r)
theorem selK_eq {β : Type} {H : List Ent} : ∀ {js : List Nat} {k : List Ent → Option β} {r : β}, selK H js k = some r → k (Tw.sel H js) = some r
  | [], k, r, h => h
  | j :: js, k, r, h => by
    simp only [selK] at h
    cases e : nthO j H with
    | none => simp [e] at h
    | some x =>
      simp only [e] at h
      have := selK_eq (js := js) h
      rw [nthO_eq] at e
      simp only [Tw.sel, e]; exact this
def nd : List Nat → Bool
  | [] => true
  | x :: xs => bif xs.any (Nat.beq x) then false else nd xs
theorem nd.out : ∀ {xs : List Nat}, nd xs = true → xs.Nodup
  | [], _ => List.nodup_nil
  | x :: xs, h => by
    simp only [nd] at h
    cases h1 : xs.any (Nat.beq x) with
    | true => simp [h1] at h
    | false =>
      simp only [h1, cond_false] at h
      refine List.nodup_cons.2 ⟨fun hm => ?_, nd.out h⟩
      have := List.any_eq_false.1 h1 x hm
      simp at this
def selN (H : List Ent) (js : List Nat) : Option (List Ent) := bif nd js then selK H js some else none
theorem selN_eq {H H' : List Ent} {js : List Nat} (h : selN H js = some H') : js.Nodup ∧ Tw.sel H js = H' := by
  unfold selN at h
  cases e : nd js with
  | false => simp [e] at h
  | true => simp only [e, cond_true] at h; exact ⟨nd.out e, Option.some.inj (selK_eq h)⟩
def setK {α β : Type} : List α → Nat → α → (List α → Option β) → Option β
  | [], _, _, _ => none
  | _ :: xs, 0, y, k => k (y :: xs)
  | x :: xs, n + 1, y, k => setK xs n y fun r => k (x :: r)
theorem setK_eq {α β : Type} : ∀ {xs : List α} {n : Nat} {y : α} {k : List α → Option β} {r : β}, setK xs n y k = some r → k (xs.set n y) = some r
  | [], _, _, _, _, h => by cases h
  | x :: xs, 0, y, k, r, h => h
  | x :: xs, n + 1, y, k, r, h => setK_eq (xs := xs) (n := n) h
def eraseK {α β : Type} : List α → Nat → (List α → Option β) → Option β
  | [], _, _ => none
  | _ :: xs, 0, k => k xs
  | x :: xs, n + 1, k => eraseK xs n fun r => k (x :: r)
theorem eraseK_eq {α β : Type} : ∀ {xs : List α} {n : Nat} {k : List α → Option β} {r : β}, eraseK xs n k = some r → k (xs.eraseIdx n) = some r
  | [], _, _, _, h => by cases h
  | x :: xs, 0, k, r, h => h
  | x :: xs, n + 1, k, r, h => eraseK_eq (xs := xs) (n := n) h
/-- Cells, some of which are others. -/
def putK {β : Type} : List Value → Nat → List Value → (List Value → Option β) → Option β
  | cs, 0, [], k => k cs
  | [], _, _, _ => none
  | c :: cs, 0, e :: es, k => putK cs 0 es fun r => k (e :: r)
  | c :: cs, n + 1, es, k => putK cs n es fun r => k (c :: r)
theorem putK_eq {β : Type} : ∀ {cs : List Value} {n : Nat} {es : List Value} {k : List Value → Option β} {r : β}, putK cs n es k = some r → k (cs.take n ++ es ++ cs.drop (n + es.length)) = some r
  | cs, 0, [], k, r, h => by
    have h : k cs = some r := by cases cs <;> exact h
    simpa using h
  | [], 0, e :: es, k, r, h => by cases h
  | [], n + 1, es, k, r, h => by cases es <;> cases h
  | c :: cs, 0, e :: es, k, r, h => by
    have := putK_eq (cs := cs) (n := 0) (es := es) (k := fun r => k (e :: r)) h
    simpa using this
  | c :: cs, n + 1, es, k, r, h => by
    have h : putK cs n es (fun r => k (c :: r)) = some r := by cases es <;> exact h
    have := putK_eq (cs := cs) (n := n) (es := es) (k := fun r => k (c :: r)) h
    have e : n + 1 + es.length = (n + es.length) + 1 := by omega
    rw [e]
    simpa using this
/-- Entries, behind a store into a block of theirs. -/
def storeK (H : List Ent) (j off : Nat) (es : List Value) : Option (List Ent) := match nthO j H with
  | some (some (b, .cells cs t fz)) => putK cs.toList off es fun r => setK H j (some (b, .cells r.toArray t fz)) some
  | _ => none
theorem storeK_eq {H H' : List Ent} {j off : Nat} {es : List Value} {b : Nat} {cs : Array Value} {t : TypeId} {fz : Nat × Nat} (hj : H[j]? = some (some (b, .cells cs t fz))) (h : storeK H j off es = some H') : H.set j (some (b, .cells (put cs off es) t fz)) = H' := by
  unfold storeK at h
  rw [nthO_eq, hj] at h
  exact Option.some.inj (setK_eq (putK_eq h))

/-! ### Checks -/
def bq : Bool → Bool → Bool
  | true, b => b
  | false, true => false
  | false, false => true
theorem bq_eq : ∀ {a b : Bool}, bq a b = true → a = b
  | true, true, _ => rfl
  | false, false, _ => rfl
noncomputable def gyes (ops : Array Oper) (l : Slots) : Option (Nat × Bool) → Bool
  | none => true
  | some (j, want) => match (ops[j]?).bind (·.dst) with
    | none => false
    | some t => match look t l with
      | some (.bool b) => bq b want
      | _ => false
theorem gyes.yes {ops : Array Oper} {l : Slots} : ∀ {g : Option (Nat × Bool)}, gyes ops l g = true → Yes ops l g
  | none, _ => trivial
  | some (j, want), h => by
    simp only [gyes] at h
    cases h1 : (ops[j]?).bind (·.dst) with
    | none => simp [h1] at h
    | some t =>
      simp only [h1] at h
      cases h2 : look t l with
      | none => simp [h2] at h
      | some v =>
        cases v <;> simp only [h2] at h <;> first | cases h | exact ⟨t, _, h1, h2, bq_eq h⟩
noncomputable def gno (ops : Array Oper) (l : Slots) : Option (Nat × Bool) → Bool
  | none => false
  | some (j, want) => match (ops[j]?).bind (·.dst) with
    | none => false
    | some t => match look t l with
      | none => false
      | some (.bool b) => bq b (!want)
      | some _ => true
theorem gno.no {ops : Array Oper} {l : Slots} : ∀ {g : Option (Nat × Bool)}, gno ops l g = true → No ops l g
  | none, h => by cases h
  | some (j, want), h => by
    simp only [gno] at h
    cases h1 : (ops[j]?).bind (·.dst) with
    | none => simp [h1] at h
    | some t =>
      simp only [h1] at h
      cases h2 : look t l with
      | none => simp [h2] at h
      | some v =>
        refine ⟨t, v, h1, h2, ?_⟩
        cases v <;> simp only [h2] at h <;> first | (intro e; cases e; done) | skip
        have := bq_eq h
        subst this
        intro e
        cases want <;> cases e
noncomputable def vok (ops : Array Oper) (l : Slots) (o : Oper) (N : Nat) : Option Nat :=
  match o.dst with
  | none => none
  | some d => bif Nat.blt d N && gyes ops l o.guard then some d else none
theorem vok.out {ops : Array Oper} {l : Slots} {o : Oper} {N d : Nat} (h : vok ops l o N = some d) : o.dst = some d ∧ Yes ops l o.guard ∧ Nat.blt d N = true := by
  unfold vok at h
  cases h1 : o.dst with
  | none => simp [h1] at h
  | some e =>
    simp only [h1] at h
    cases h2 : (Nat.blt e N && gyes ops l o.guard) with
    | false => simp [h2] at h
    | true =>
      simp only [h2, cond_true, Option.some.injEq] at h
      subst h
      rw [Bool.and_eq_true] at h2
      exact ⟨rfl, gyes.yes h2.2, h2.1⟩
noncomputable def vok0 (ops : Array Oper) (l : Slots) (o : Oper) : Bool :=
  match o.dst with
  | none => gyes ops l o.guard
  | some _ => false
theorem vok0.out {ops : Array Oper} {l : Slots} {o : Oper} (h : vok0 ops l o = true) : o.dst = none ∧ Yes ops l o.guard := by
  unfold vok0 at h
  cases h1 : o.dst with
  | none => simp only [h1] at h; exact ⟨rfl, gyes.yes h⟩
  | some e => simp [h1] at h

/-! ### Plain values, by computation -/
def kc : IntKind → Nat
  | .i8 => 0 | .i16 => 1 | .i32 => 2 | .i64 => 3 | .u8 => 4 | .u16 => 5 | .u32 => 6 | .u64 => 7
theorem kc_inj : ∀ {a b : IntKind}, Nat.beq (kc a) (kc b) = true → a = b := fun {a b} h => by
  cases a <;> cases b <;> first | rfl | exact absurd h (by decide)
noncomputable def evs (l : Slots) : List Operand → Option (List Value)
  | [] => some []
  | x :: xs => match ev l x with
    | none => none
    | some v => match evs l xs with
      | none => none
      | some vs => some (v :: vs)
theorem evs.out {l : Slots} : ∀ {xs : List Operand} {vs : List Value}, evs l xs = some vs → Evs l xs vs
  | [], vs, h => by simp only [evs, Option.some.injEq] at h; subst h; trivial
  | x :: xs, vs, h => by
    simp only [evs] at h
    cases h1 : ev l x with
    | none => simp [h1] at h
    | some v =>
      cases h2 : evs l xs with
      | none => simp [h1, h2] at h
      | some us =>
        simp only [h1, h2, Option.some.injEq] at h
        subst h
        exact ⟨h1, evs.out h2⟩
noncomputable def pval (l : Slots) : Op → Option Value
  | .move x => ev l x
  | .assign x => ev l x
  | .pick c x y => match ev l c with
    | some (.bool true) => ev l x
    | some (.bool false) => ev l y
    | _ => none
  | .binOp op _ x y _ => match ev l x, ev l y with
    | some (.int k a), some (.int k' b) => bif Nat.beq (kc k') (kc k) then ib op k a b else none
    | _, _ => none
  | .unOp .not _ x => match ev l x with
    | some (.bool b) => some (.bool (!b))
    | _ => none
  | .extract x i => match ev l x with
    | some (.tuple vs) => nthO i vs.toList
    | _ => none
  | .nilCheck x => match ev l x with
    | some (.pointer (some a)) => some (.pointer (some a))
    | _ => none
  | .makeFunc (.func f) first captured => match first.toList, evs l captured.toList with
    | [], some cs => some (.func (.func f) #[] cs.toArray)
    | _, _ => none
  | _ => none
theorem pval.run {P : Program} {J : World → Prop} {o : Oper} {l : Slots} {v : Value} (h : pval l o.op = some v) : RunV P J o l v := by
  cases ho : o.op <;> rw [ho] at h <;> simp only [pval, reduceCtorEq] at h
  · exact run_move ho h
  · exact run_assign ho h
  · rename_i c x y
    cases hc : ev l c with
    | none => simp [hc] at h
    | some u =>
      cases u <;> simp only [hc, reduceCtorEq] at h
      rename_i t
      cases t with
      | true =>
        intro ρ w ha _
        simp [execOp, ho, ha x v h, ha c _ hc, asBool]
      | false =>
        intro ρ w ha _
        simp [execOp, ho, ha y v h, ha c _ hc, asBool]
  · rename_i x
    cases hx : ev l x with
    | none => simp [hx] at h
    | some u =>
      cases u <;> simp only [hx, reduceCtorEq] at h
      rename_i a
      cases a with
      | none => simp at h
      | some a =>
        simp only [Option.some.injEq] at h
        subst h
        exact run_nilCheck ho hx
  · rename_i op T x y T'
    cases hx : ev l x with
    | none => simp [hx] at h
    | some u =>
      cases hy : ev l y with
      | none => cases u <;> simp [hx, hy] at h
      | some u' =>
        cases u <;> cases u' <;> simp only [hx, hy, reduceCtorEq] at h
        rename_i k a k' b
        cases hk : Nat.beq (kc k') (kc k) with
        | false => simp [hk] at h
        | true =>
          have := kc_inj hk
          subst this
          simp only [hk, cond_true] at h
          exact run_int ho hx hy h
  · rename_i op T x
    cases op <;> simp only [pval, reduceCtorEq] at h
    cases hx : ev l x with
    | none => simp [hx] at h
    | some u =>
      cases u <;> simp only [hx, reduceCtorEq, Option.some.injEq] at h
      subst h
      exact run_not ho hx
  · rename_i fn first captured
    cases fn <;> simp only [pval, reduceCtorEq] at h
    rename_i f
    cases h1 : first.toList with
    | cons a b => simp [h1] at h
    | nil =>
      cases h2 : evs l captured.toList with
      | none => simp [h1, h2] at h
      | some cs =>
        simp only [h1, h2, Option.some.injEq] at h
        subst h
        have e1 : first = #[] := by cases first; simp at h1; subst h1; rfl
        subst e1
        exact run_makeFunc (xs := captured.toList) (by simpa using ho) (evs.out h2)
  · rename_i x i
    cases hx : ev l x with
    | none => simp [hx] at h
    | some u =>
      cases u <;> simp only [hx, reduceCtorEq] at h
      rw [nthO_eq] at h
      exact run_tuple ho hx (by simpa using h)
/-- One plain step: it is passed over, or gives a value. -/
noncomputable def pstep (ops : Array Oper) (N : Nat) (o : Oper) (l : Slots) : Option Slots :=
  match o.dst with
  | none => none
  | some d => bif Nat.blt d N then (bif gyes ops l o.guard then (match pval l o.op with
      | none => none
      | some v => some ((d, v) :: l)) else bif gno ops l o.guard then some ((d, undef) :: l) else none) else none
noncomputable def psteps (ops : Array Oper) (N : Nat) : Nat → List Oper → Slots → Option (List Oper × Slots)
  | 0, os, l => some (os, l)
  | _ + 1, [], _ => none
  | n + 1, o :: os, l => match pstep ops N o l with
    | none => none
    | some l' => psteps ops N n os l'
section
variable {u : Bool} {C : Cx} {Q : Post} {ops : Array Oper} {rest rest' : List Oper} {M : Mem} {H : List Ent} {l l' : Slots} {i d : Nat} {o : Oper}
theorem pstep.go (h : pstep ops C.N o l = some l') (k : Ops u C Q ops rest M H l') : Ops u C Q ops (o :: rest) M H l := by
  unfold pstep at h
  cases h1 : o.dst with
  | none => simp [h1] at h
  | some d =>
    simp only [h1] at h
    cases h2 : Nat.blt d C.N with
    | false => simp [h2] at h
    | true =>
      simp only [h2, cond_true] at h
      cases h3 : gyes ops l o.guard with
      | true =>
        simp only [h3, cond_true] at h
        cases h4 : pval l o.op with
        | none => simp [h4] at h
        | some v =>
          simp only [h4, Option.some.injEq] at h
          subst h
          exact Ops.val h1 (gyes.yes h3) h2 (pval.run h4) k
      | false =>
        simp only [h3, cond_false] at h
        cases h4 : gno ops l o.guard with
        | false => simp [h4] at h
        | true =>
          simp only [h4, cond_true, Option.some.injEq] at h
          subst h
          exact Ops.pass h1 (gno.no h4) h2 k
/-- The next n steps. -/
theorem pn (n : Nat) (h : psteps ops C.N n rest l = some (rest', l')) (k : Ops u C Q ops rest' M H l') : Ops u C Q ops rest M H l := by
  induction n generalizing rest l with
  | zero => simp only [psteps, Option.some.injEq, Prod.mk.injEq] at h; obtain ⟨rfl, rfl⟩ := h; exact k
  | succ n ih =>
    cases rest with
    | nil => simp [psteps] at h
    | cons o os =>
      simp only [psteps] at h
      cases h1 : pstep ops C.N o l with
      | none => simp [h1] at h
      | some l1 =>
        simp only [h1] at h
        exact pstep.go h1 (ih h)
/-- A step that gives a value. -/
theorem va {v : Value} (hc : vok ops l o C.N = some d) (hr : RunV C.P (Rd M H) o l v) (k : Ops u C Q ops rest M H ((d, v) :: l)) : Ops u C Q ops (o :: rest) M H l :=
  let ⟨h1, h2, h3⟩ := vok.out hc; Ops.val h1 h2 h3 hr k
theorem Env.dup {N : Nat} {l : Slots} {a : Act} {t : Nat} {v v' : Value} (h : Env N l a) (hl : look t l = some v) (e : v = v') : Env N ((t, v') :: l) a := by
  subst e
  refine ⟨h.size, fun k u hk => ?_⟩
  by_cases e : t = k
  · subst e; rw [look_cons_same] at hk; cases hk; exact h.get _ _ hl
  · rw [look_cons_other _ _ e] at hk; exact h.get _ _ hk
/-- A test's outcome is known. -/
theorem kt {b : Bool} (t : Nat) (hb : b = true) (hl : look t l = some (.bool b)) (h : Ops u C Q ops rest M H ((t, .bool true) :: l)) : Ops u C Q ops rest M H l := fun a w ha => h a w ⟨ha.env.dup hl (by rw [hb]), ha.out⟩
theorem kf {b : Bool} (t : Nat) (hb : b = false) (hl : look t l = some (.bool b)) (h : Ops u C Q ops rest M H ((t, .bool false) :: l)) : Ops u C Q ops rest M H l := fun a w ha => h a w ⟨ha.env.dup hl (by rw [hb]), ha.out⟩
/-! ### Joins within a region -/
/-- A joined state within a region: what comes in behind `n` slots that are let go. -/
noncomputable def fresh (l : Slots) : Slots → Bool
  | [] => true
  | (t, _) :: m => bif (match look t l with | none => true | some _ => false) then fresh l m else false
theorem fresh.sub {l : Slots} : ∀ {m : Slots}, fresh l m = true → ∀ t v, look t l = some v → look t (m ++ l) = some v
  | [], _, _, _, h => h
  | (k, u) :: m, hf, t, v, h => by
    simp only [fresh] at hf
    cases hl : look k l with
    | some x => simp [hl] at hf
    | none =>
      simp only [hl, cond_true] at hf
      have hne : k ≠ t := fun e => by subst e; rw [hl] at h; cases h
      rw [List.cons_append, look_cons_other _ _ hne]
      exact fresh.sub hf t v h
theorem Here.letgo {a : Act} {w : World} {m : Slots} {v : Value} (ha : Here C M H ((d, v) :: (m ++ l)) a w) (hf : fresh l m = true) : Here C M H ((d, v) :: l) a w :=
  ⟨⟨ha.env.size, fun t u hu => ha.env.get t u (by
    by_cases e : d = t
    · subst e; rw [look_cons_same] at hu ⊢; exact hu
    · rw [look_cons_other _ _ e] at hu ⊢; exact fresh.sub hf t u hu)⟩, ha.out⟩
/-- A joined state: behind it (k), and the ways into it (h). -/
theorem jn {t : Nat} {v0 : Value} (d n : Nat) (hr : dropO n rest = some rest') (v : Value) (h : Ops u C Q ops rest' M H ((d, v) :: l) → Ops u C Q ops rest M H ((t, v0) :: l)) (k : Ops u C Q ops rest' M H ((d, v) :: l)) : Ops u C Q ops rest M H ((t, v0) :: l) := h k
theorem jA {t : Nat} {b : Bool} (d n : Nat) (hr : dropO n rest = some rest') (c : Bool) (h : Ops u C Q ops rest' M H ((d, .bool (b && c)) :: l) → (bif b then some c else some false) = some (b && c) → Ops u C Q ops rest M H ((t, .bool b) :: l))
    (k : Ops u C Q ops rest' M H ((d, .bool (b && c)) :: l)) : Ops u C Q ops rest M H ((t, .bool b) :: l) := h k (andS b c)
theorem jO {t : Nat} {b : Bool} (d n : Nat) (hr : dropO n rest = some rest') (c : Bool) (h : Ops u C Q ops rest' M H ((d, .bool (b || c)) :: l) → (bif b then some true else some c) = some (b || c) → Ops u C Q ops rest M H ((t, .bool b) :: l))
    (k : Ops u C Q ops rest' M H ((d, .bool (b || c)) :: l)) : Ops u C Q ops rest M H ((t, .bool b) :: l) := h k (orS b c)
/-- Into a joined state. -/
theorem ji {L L1 : Slots} {b b' : Bool} (n : Nat) (J : Ops u C Q ops rest M H ((d, .bool b') :: l)) (hL : L = (d, .bool b) :: L1) (hl : L1.drop n = l) (hf : fresh l (L1.take n) = true) (hv : some b = some b') : Ops u C Q ops rest M H L := by
  cases hv; subst hL
  have e : L1 = L1.take n ++ l := by rw [← hl, List.take_append_drop]
  intro a w ha
  rw [e] at ha
  exact J a w (ha.letgo hf)
end

/-! ### The shape of the code -/
section
variable {u : Bool} {C : Cx} {Q Q' : Post} {ops : Array Oper} {rest : List Oper} {M : Mem} {H : List Ent} {l l' : Slots}
theorem sq {x y : Code} (h : Cd C (Exit.then (y.wpIn C.F 0 C.P Q) Q) x M H l) : Cd C Q (.seq x y) M H l := Cd.seq h
theorem rg {id : Nat} {L : List Oper} (h : Ops false C Q L.toArray L M H l) : Cd C Q (.region id L.toArray false) M H l := Cd.region h
theorem nx {y : Code} (h : Cd C Q y M H l) : Ops u C (Exit.then (y.wpIn C.F 0 C.P Q) Q') ops [] M H l := Ops.nil (Ex.next h)
theorem on (h : Ex C Q .normal M H l) : Ops u C Q ops [] M H l := Ops.nil h
theorem sk (h : Ex C Q .normal M H l) : Cd C Q .skip M H l := Cd.skip h
theorem rt (h : Ex C Q .ret M H l) : Cd C Q .ret M H l := Cd.ret h
theorem ex {id : Nat} (h : Ex C Q (.exit id) M H l) : Cd C Q (.exit id) M H l := Cd.exit h
theorem lb {n : Nat} (h : Ex C Q .normal M H l) : Cd C Q (.label n) M H l := Cd.label h
theorem bk {id : Nat} {c : Code} (h : Cd C (Exit.inBlock id Q) c M H l) : Cd C Q (.block id c) M H l := Cd.block h
theorem cy {x : Operand} {c d : Code} {t : Bool} (hx : ev l x = some (.bool t)) (ht : t = true) (h : Cd C Q c M H l) : Cd C Q (.cond x c d) M H l := Cd.yes hx ht h
theorem cn {x : Operand} {c d : Code} {t : Bool} (hx : ev l x = some (.bool t)) (ht : t = false) (h : Cd C Q d M H l) : Cd C Q (.cond x c d) M H l := Cd.no hx ht h
theorem xn {y : Code} (h : Cd C Q y M H l) : Ex C (Exit.then (y.wpIn C.F 0 C.P Q) Q') .normal M H l := h
theorem xb {id : Nat} (h : Ex C Q .normal M H l) : Ex C (Exit.inBlock id Q) .normal M H l := h
theorem xe {id : Nat} (h : Ex C Q .normal M H l) : Ex C (Exit.inBlock id Q) (.exit id) M H l := Ex.blockE h
theorem xo {id j : Nat} (hne : Nat.beq j id = false) (h : Ex C Q (.exit j) M H l) : Ex C (Exit.inBlock id Q) (.exit j) M H l := Ex.blockO hne h
theorem xr {id : Nat} (h : Ex C Q .ret M H l) : Ex C (Exit.inBlock id Q) .ret M H l := h
theorem te {K : Act → World → Prop} {j : Nat} (h : Ex C Q (.exit j) M H l) : Ex C (Exit.then K Q) (.exit j) M H l := h
theorem tr {K : Act → World → Prop} (h : Ex C Q .ret M H l) : Ex C (Exit.then K Q) .ret M H l := h
end

/-! ### Operations -/
section
variable {P : Program} {J : World → Prop} {o : Oper} {l : Slots} {M : Mem} {H : List Ent}
theorem fd {S f off n : Nat} {x : Operand} {p : Option Addr} {es : List Value} {dst ty ps af g} (hf : Fld P S f off n) (hx : ev l x = some (.pointer p)) (hp : Pt M H p es) : RunV P (Rd M H) ⟨dst, .fieldAddr S x f, ty, ps, af, g⟩ l (.pointer (pa p off)) := run_field rfl hf hx hp
theorem ld {T : TypeId} {x : Operand} {p : Option Addr} {v : Value} {dst ty ps af g} (hT : One P T) (hx : ev l x = some (.pointer p)) (hp : Pt M H p [v]) : RunV P (Rd M H) ⟨dst, .load T x, ty, ps, af, g⟩ l v := run_load rfl hT hx hp
theorem lN {T n : Nat} {x : Operand} {p : Option Addr} {es : List Value} {dst ty ps af g} (hT : Rowy P T) (hs : Sz P T n) (hx : ev l x = some (.pointer p)) (hp : Pt M H p es) (hn : es.length = n) : RunV P (Rd M H) ⟨dst, .load T x, ty, ps, af, g⟩ l (.agg es.toArray) := run_loadN rfl hT hs hx hp hn
theorem ix {T e n : Nat} {x y : Operand} {a : Option Addr} {len c : Nat} {k : IntKind} {i : Int} {dst ty ps af g} (hT : Sl P T e n) (hx : ev l x = some (.slice a len c)) (hy : ev l y = some (.int k i)) (h0 : 0 ≤ i) (h1 : i < len) (hn : a ≠ none) :
    RunV P (Rd M H) ⟨dst, .indexAddr T x y, ty, ps, af, g⟩ l (.pointer (pa a (i.toNat * n))) := run_idx rfl hT hx hy h0 h1 hn
theorem cv {S T : TypeId} {x : Operand} {k k' : IntKind} {a : Int} {dst ty ps af g} (hx : ev l x = some (.int k a)) (hT : P.underlying T = some (.int k')) (hS : P.underlying S = some (.int k)) : RunV P J ⟨dst, .convert S T x, ty, ps, af, g⟩ l (.int k' (k'.wrap a)) := run_conv rfl hx hT hS
theorem ln {x : Operand} {a : Option Addr} {n c : Nat} {T e : TypeId} {dst ty ps af g} (hT : P.underlying T = some (.slice e)) (hx : ev l x = some (.slice a n c)) : RunV P J ⟨dst, .call { callee := .builtin .len, args := #[x], argTypes := #[T] }, ty, ps, af, g⟩ l (.int .i64 n) := run_len rfl hT hx
theorem lf {x : Operand} {α : Type} {xs : List α} {a : Option Addr} {n c : Nat} {T e : TypeId} {dst ty ps af g} (hT : P.underlying T = some (.slice e)) (hn : n = xs.length) (hx : ev l x = some (.slice a n c)) : RunV P J ⟨dst, .call { callee := .builtin .len, args := #[x], argTypes := #[T] }, ty, ps, af, g⟩ l (.int .i64 (xs.length : Int)) := hn ▸ run_len rfl hT hx
theorem sln {x : Operand} {s : ByteArray} {T : TypeId} {dst ty ps af g} (hT : P.underlying T = some .string) (hx : ev l x = some (.string s)) : RunV P J ⟨dst, .call { callee := .builtin .len, args := #[x], argTypes := #[T] }, ty, ps, af, g⟩ l (.int .i64 s.size) := run_slen rfl hT hx
theorem mi {x y : Operand} {k : IntKind} {a b : Int} {ts : Array TypeId} {dst ty ps af g} (hx : ev l x = some (.int k a)) (hy : ev l y = some (.int k b)) : RunV P J ⟨dst, .call { callee := .builtin .min, args := #[x, y], argTypes := ts }, ty, ps, af, g⟩ l (.int k (gmin a b)) := run_min rfl hx hy
theorem ma {x y : Operand} {k : IntKind} {a b : Int} {ts : Array TypeId} {dst ty ps af g} (hx : ev l x = some (.int k a)) (hy : ev l y = some (.int k b)) : RunV P J ⟨dst, .call { callee := .builtin .max, args := #[x, y], argTypes := ts }, ty, ps, af, g⟩ l (.int k (gmax a b)) := run_max rfl hx hy
theorem bS {S e T : Nat} {x : Operand} {xs : List Int} {a : Option Addr} {n c : Nat} {dst ty ps af g} (hx : ev l x = some (.slice a n c)) (hS : P.underlying S = some (.slice e)) (he : P.underlying e = some (.int .u8)) (hT : P.underlying T = some .string) (hr : Rds M H (eInt .u8) xs a n) :
    RunV P (Rd M H) ⟨dst, .convert S T x, ty, ps, af, g⟩ l (.string (strOfNums xs)) := by
  have hn := hr.len
  subst hn
  exact run_bytesStr rfl hx hS he hT hr
theorem bi {b : Nat} {cs : Array Value} {t : TypeId} {fz : Nat × Nat} (j : Nat) (h : nthO j H = some (some (b, .cells cs t fz))) {es : List Value} (he : cs.toList = es) : Pt M H (some ⟨b, 0, none⟩) es := Pt.box j (nthO_eq ▸ h) he
end
section
variable {u : Bool} {C : Cx} {Q : Post} {ops : Array Oper} {rest : List Oper} {M : Mem} {H : List Ent} {l : Slots} {d : Nat}
theorem al {T : TypeId} {z : Value} {ty ps af g dst} (hc : vok ops l ⟨dst, .alloc T, ty, ps, af, g⟩ C.N = some d) (hz : Zr C.P T z) (k : ∀ b, Ops u C Q ops rest M (some (b, .cells z.cells T (0, 0)) :: H) ((d, .pointer (some ⟨b, 0, none⟩)) :: l)) :
    Ops u C Q ops (⟨dst, .alloc T, ty, ps, af, g⟩ :: rest) M H l := by
  obtain ⟨h1, h2, h3⟩ := vok.out hc
  refine Ops.mem h1 h2 h3 (run_alloc rfl hz) ?_
  rintro _ _ _ - ⟨b, rfl, rfl, rfl⟩
  exact k b
theorem bx {T : TypeId} {x : Operand} {v : Value} {ty ps af g dst} (hc : vok ops l ⟨dst, .box T x, ty, ps, af, g⟩ C.N = some d) (hx : ev l x = some v) (k : ∀ b, Ops u C Q ops rest M (some (b, .cells v.cells T (0, 0)) :: H) ((d, .pointer (some ⟨b, 0, none⟩)) :: l)) :
    Ops u C Q ops (⟨dst, .box T x, ty, ps, af, g⟩ :: rest) M H l := by
  obtain ⟨h1, h2, h3⟩ := vok.out hc
  refine Ops.mem h1 h2 h3 (run_box rfl hx) ?_
  rintro _ _ _ - ⟨b, rfl, rfl, rfl⟩
  exact k b
/-- A store into an owned block. -/
theorem sr {H' : List Ent} {T n off : Nat} {x y : Operand} {b : Nat} {cs : Array Value} {t : TypeId} {v : Value} {ty ps af g dst} (j : Nat) (hc : vok0 ops l ⟨dst, .store T x y, ty, ps, af, g⟩ = true) (hs : Sz C.P T n) (hx : ev l x = some (.pointer (some ⟨b, off, none⟩))) (hy : ev l y = some v)
    (hj : nthO j H = some (some (b, .cells cs t (0, 0)))) (hn : (Nat.beq v.cells.size n && Nat.ble (off + n) cs.size && v.cells.toList.all (·.oneCell')) = true) (hs' : storeK H j off v.cells.toList = some H') (k : Ops u C Q ops rest M H' l) :
    Ops u C Q ops (⟨dst, .store T x y, ty, ps, af, g⟩ :: rest) M H l := by
  obtain ⟨h1, h2⟩ := vok0.out hc
  simp only [Bool.and_eq_true] at hn
  rw [nthO_eq] at hj
  rw [← storeK_eq hj hs'] at k
  exact Ops.sto h1 h2 (run_store rfl hs hx hy hj (Nat.eq_of_beq_eq_true hn.1.1) hn.1.2 hn.2) k
/-- An append. -/
theorem ap {H' : Ent → List Ent} {α : Type} {E : Enc α} {x y : Operand} {T e by_ m kk : Nat} {z : Value} {xs ys : List α} {a a2 : Option Addr} {c c2 : Nat} {ent : Ent} {un : Unit} {ty ps af g dst} (j : Nat) (hc : vok ops l ⟨dst, .call { callee := .builtin .append, args := #[x, y], argTypes := #[T, T] }, ty, ps, af, g⟩ C.N = some d)
    (hT : Sl C.P T e E.n) (hE : El C.P e E.n by_ z) (hx : ev l x = some (.slice a kk c)) (hy : ev l y = some (.slice a2 m c2)) (hD : OSl M E xs a kk c e ent) (hj : nthO j H = some ent) (hS : Rds M H E ys a2 m)
    (hlim : cap (xs.length + ys.length) = some un) (hby : (Nat.ble by_ 4096 && Nat.blt 0 E.n) = true)
    (hs : ∀ e', setK H j e' some = some (H' e')) (k : ∀ a n c e', OSl M E (xs ++ ys) a n c e e' → Ops u C Q ops rest M (H' e') ((d, .slice a n c) :: l)) :
    Ops u C Q ops (⟨dst, .call { callee := .builtin .append, args := #[x, y], argTypes := #[T, T] }, ty, ps, af, g⟩ :: rest) M H l := by
  obtain ⟨h1, h2, h3⟩ := vok.out hc
  rw [Bool.and_eq_true] at hby
  rw [nthO_eq] at hj
  refine Ops.mem h1 h2 h3 (run_append j rfl hT hE hx hy hD hj hS (cap_some hlim) hby.1 hby.2) ?_
  rintro _ _ _ - ⟨a, n, c, e', rfl, rfl, rfl, h⟩
  rw [Option.some.inj (setK_eq (hs e'))]
  exact k a n c e' h
theorem aS {H' : Ent → List Ent} {x y : Operand} {T U e kk : Nat} {xs : List Int} {s : ByteArray} {a : Option Addr} {c : Nat} {ent : Ent} {un : Unit} {ty ps af g dst} (j : Nat) (hc : vok ops l ⟨dst, .call { callee := .builtin .append, args := #[x, y], argTypes := #[T, U] }, ty, ps, af, g⟩ C.N = some d)
    (hT : Sl C.P T e 1) (hU : C.P.underlying U = some .string) (hE : El C.P e 1 1 (.int .u8 0)) (hx : ev l x = some (.slice a kk c)) (hy : ev l y = some (.string s)) (hD : OSl M (eInt .u8) xs a kk c e ent) (hj : nthO j H = some ent)
    (hlim : cap (xs.length + s.size) = some un) (hs : ∀ e', setK H j e' some = some (H' e')) (k : ∀ a n c e', OSl M (eInt .u8) (xs ++ bytesOf s) a n c e e' → Ops u C Q ops rest M (H' e') ((d, .slice a n c) :: l)) :
    Ops u C Q ops (⟨dst, .call { callee := .builtin .append, args := #[x, y], argTypes := #[T, U] }, ty, ps, af, g⟩ :: rest) M H l := by
  obtain ⟨h1, h2, h3⟩ := vok.out hc
  have hn := hD.len
  subst hn
  rw [nthO_eq] at hj
  refine Ops.mem h1 h2 h3 (run_appendStr j rfl hT hU hE hx hy hD hj (cap_some hlim)) ?_
  rintro _ _ _ - ⟨a, n, c, e', rfl, rfl, rfl, h⟩
  rw [Option.some.inj (setK_eq (hs e'))]
  exact k a n c e' h
/-- A bound of a cut. -/
def Bd (l : Slots) (d : Int) : Option Operand → Int → Prop
  | some y, i => ∃ k, ev l y = some (.int k i)
  | none, i => i = d
/-- A cut of a slice that is read. -/
theorem ct {α : Type} {E : Enc α} {T e n : Nat} {x : Operand} {lo hi : Option Operand} {a : Option Addr} {c : Nat} {xs ys : List α} {i j : Int} {ty ps af g dst} (hc : vok ops l ⟨dst, .slice T x lo hi none, ty, ps, af, g⟩ C.N = some d) (hT : Sl C.P T e E.n) (hx : ev l x = some (.slice a n c)) (hS : SRep M E xs a n c)
    (hlo : Bd l 0 lo i) (hhi : Bd l xs.length hi j) (hk : lcut xs i j = some ys)
    (k : ∀ a n c, SRep M E ys a n c → Ops u C Q ops rest M H ((d, .slice a n c) :: l)) : Ops u C Q ops (⟨dst, .slice T x lo hi none, ty, ps, af, g⟩ :: rest) M H l := by
  obtain ⟨h1, h2, h3⟩ := vok.out hc
  have hn := hS.len
  subst hn
  refine Ops.mem h1 h2 h3 (R := Cut M H E ys) (by cases lo <;> cases hi <;> exact run_cutS rfl hT hx hS hlo hhi hk) ?_
  rintro _ _ _ - ⟨a, c, rfl, rfl, rfl, h⟩
  exact k a _ c h
/-- A cut of a string. -/
theorem sc {x : Operand} {lo hi : Option Operand} {s t : ByteArray} {i j : Int} {T : TypeId} {P : Program} {J : World → Prop} {dst ty ps af g} (hT : P.underlying T = some .string) (hx : ev l x = some (.string s)) (hlo : Bd l 0 lo i) (hhi : Bd l s.size hi j) (hk : scut s i j = some t) :
    RunV P J ⟨dst, .slice T x lo hi none, ty, ps, af, g⟩ l (.string t) := by
  cases lo <;> cases hi <;> exact run_scut' rfl hT hx hlo hhi hk
/-- An empty literal slice. -/
theorem l0 {α : Type} (E : Enc α) {T e by_ : Nat} {z : Value} {ty ps af g dst} (hc : vok ops l ⟨dst, .buildSlice T 0 #[], ty, ps, af, g⟩ C.N = some d) (hT : Sl C.P T e E.n) (hE : El C.P e E.n by_ z)
    (k : ∀ b, OSl M E ([] : List α) (some ⟨b, 0, none⟩) 0 0 e (some (b, .cells #[] e (0, 0))) → Ops u C Q ops rest M (some (b, .cells #[] e (0, 0)) :: H) ((d, .slice (some ⟨b, 0, none⟩) 0 0) :: l)) : Ops u C Q ops (⟨dst, .buildSlice T 0 #[], ty, ps, af, g⟩ :: rest) M H l := by
  obtain ⟨h1, h2, h3⟩ := vok.out hc
  refine Ops.mem h1 h2 h3 (run_lit0 rfl hT hE) ?_
  rintro _ _ _ - ⟨b, rfl, rfl, rfl⟩
  exact k b (OSl.lit0 M E b e)
/-- The cells of a literal slice, all of whose elements are given. -/
noncomputable def lvals (l : Slots) (m : Nat) : Nat → List (Nat × Operand) → Option (List Value)
  | _, [] => some []
  | k, (i, x) :: ps => bif Nat.beq i k then (match ev l x with
    | none => none
    | some v => bif Nat.beq v.cells.size m then (match lvals l m (k + 1) ps with
      | none => none
      | some cs => some (v.cells.toList ++ cs)) else none) else none
theorem lvals.out {l : Slots} {m n : Nat} : ∀ {ps : List (Nat × Operand)} {k : Nat} {cs : List Value}, lvals l m k ps = some cs → k + ps.length ≤ n → ∃ vs, EvP l ps vs ∧ vs.all (fun p => Nat.blt p.1 n) = true ∧
    ∀ pre rest : List Value, pre.length = k * m → rest.length = ps.length * m → fillL (litPl n m) (pre ++ rest) vs = some (pre ++ cs)
  | [], k, cs, h, _ => by
    simp only [lvals, Option.some.injEq] at h
    subst h
    exact ⟨[], trivial, rfl, fun pre rest _ hr => by
      have : rest = [] := List.eq_nil_of_length_eq_zero (by simpa using hr)
      subst this; rfl⟩
  | (i, x) :: ps, k, cs, h, hk => by
    simp only [lvals] at h
    cases h1 : Nat.beq i k with
    | false => simp [h1] at h
    | true =>
      have := Nat.eq_of_beq_eq_true h1
      subst this
      simp only [h1, cond_true] at h
      cases h2 : ev l x with
      | none => simp [h2] at h
      | some v =>
        simp only [h2] at h
        cases h3 : Nat.beq v.cells.size m with
        | false => simp [h3] at h
        | true =>
          have h3' := Nat.eq_of_beq_eq_true h3
          simp only [h3, cond_true] at h
          cases h4 : lvals l m (i + 1) ps with
          | none => simp [h4] at h
          | some cs' =>
            simp only [h4, Option.some.injEq] at h
            subst h
            simp only [List.length_cons] at hk
            obtain ⟨vs, g1, g2, g3⟩ := lvals.out (n := n) h4 (by omega)
            refine ⟨(i, v) :: vs, ⟨rfl, h2, g1⟩, by simp only [List.all_cons, g2, Bool.and_true, Nat.blt_eq]; omega, fun pre rest hp hr => ?_⟩
            have hl : v.cells.toList.length = m := by simpa using h3'
            have hpl : (litPl n m)[i]? = some (i * m, m) := by
              have hi : i < n := by omega
              simp [litPl, hi]
            unfold fillL
            simp only [hpl]
            simp only [List.length_cons, Nat.add_mul, Nat.one_mul] at hr
            rw [if_pos ⟨hl, by rw [List.length_append, hp]; omega⟩]
            have e1 : (pre ++ rest).take (i * m) = pre := by rw [← hp]; simp
            have e2 : (pre ++ rest).drop (i * m + v.cells.toList.length) = rest.drop m := by rw [hl, ← hp, List.drop_append]; simp
            rw [e1, e2, ← List.append_assoc, g3 (pre ++ v.cells.toList) (rest.drop m) (by rw [List.length_append, hl, hp, Nat.add_mul, Nat.one_mul]) (by rw [List.length_drop]; omega), List.append_assoc]
/-- Elements, one behind the other, in cells. -/
def Reps {α : Type} (M : Mem) (E : Enc α) : List α → List Value → Prop
  | [], cs => cs = []
  | x :: xs, cs => E.rep M x (cs.take E.n) ∧ Reps M E xs (cs.drop E.n)
theorem Reps.out {α : Type} {M : Mem} {E : Enc α} : ∀ {xs : List α} {cs : List Value}, Reps M E xs cs → cs.length = xs.length * E.n ∧ ∀ i x, xs[i]? = some x → ∃ es, E.rep M x es ∧ (cs.drop (i * E.n)).take es.length = es
  | [], cs, h => by
    have h : cs = [] := h
    subst h
    exact ⟨by simp, fun i x hi => by simp at hi⟩
  | x :: xs, cs, h => by
    obtain ⟨h1, h2⟩ := h
    obtain ⟨g1, g2⟩ := Reps.out h2
    have hl := E.len h1
    rw [List.length_drop] at g1
    rw [List.length_take] at hl
    refine ⟨by rw [List.length_cons, Nat.add_mul, Nat.one_mul]; omega, fun i y hi => ?_⟩
    cases i with
    | zero =>
      simp only [List.getElem?_cons_zero, Option.some.injEq] at hi
      subst hi
      refine ⟨_, h1, ?_⟩
      simp
    | succ i =>
      obtain ⟨es, e1, e2⟩ := g2 i y (by simpa using hi)
      refine ⟨es, e1, ?_⟩
      have e3 : E.n + i * E.n = (i + 1) * E.n := by rw [Nat.add_mul, Nat.one_mul, Nat.add_comm]
      rw [List.drop_drop, e3] at e2
      exact e2
theorem zs_len (n m : Nat) (z : Value) : ((Array.range (n * m)).map (z.cells[· % z.cells.size]!)).toList.length = n * m := by simp
/-- A literal slice. -/
theorem li {α : Type} (E : Enc α) (xs : List α) {T e n by_ : Nat} {z : Value} {ps : List (Nat × Operand)} {cells : List Value} {ty pos af g dst} (hc : vok ops l ⟨dst, .buildSlice T n ps.toArray, ty, pos, af, g⟩ C.N = some d) (hT : Sl C.P T e E.n) (hE : El C.P e E.n by_ z)
    (hv : lvals l E.n 0 ps = some cells) (hn : (Nat.beq n ps.length && Nat.beq n xs.length && Nat.ble (n * E.n) 16777216 && Nat.blt 0 (n * E.n)) = true) (hx : Reps M E xs cells)
    (k : ∀ b, OSl M E xs (some ⟨b, 0, none⟩) n n e (some (b, .cells cells.toArray e (0, 0))) → Ops u C Q ops rest M (some (b, .cells cells.toArray e (0, 0)) :: H) ((d, .slice (some ⟨b, 0, none⟩) n n) :: l)) : Ops u C Q ops (⟨dst, .buildSlice T n ps.toArray, ty, pos, af, g⟩ :: rest) M H l := by
  obtain ⟨h1, h2, h3⟩ := vok.out hc
  simp only [Bool.and_eq_true] at hn
  obtain ⟨⟨⟨n1, n2⟩, n3⟩, n4⟩ := hn
  have n1 := Nat.eq_of_beq_eq_true n1
  have n2 := Nat.eq_of_beq_eq_true n2
  obtain ⟨vs, g1, g2, g3⟩ := lvals.out (n := n) hv (by omega)
  have g4 := g3 [] _ (by simp) (by rw [zs_len n E.n z, n1])
  obtain ⟨r1, r2⟩ := hx.out
  refine Ops.mem h1 h2 h3 (run_lits cells _ rfl hT hE g1 g2 rfl (by simpa using g4) n3 n4) ?_
  rintro _ _ _ - ⟨b, rfl, rfl, rfl⟩
  exact k b (OSl.lits n2 (by rw [r1, n2]) r2)
/-- A struct value. -/
noncomputable def bvals (l : Slots) (pl : List (Nat × Nat)) : List Value → List (Nat × Operand) → Option (List Value)
  | cs, [] => some cs
  | cs, (i, x) :: ps => match ev l x with
    | none => none
    | some v => match pl[i]? with
      | none => none
      | some (off, size) => bif Nat.beq v.cells.toList.length size && Nat.ble (off + size) cs.length then bvals l pl (cs.take off ++ (v.cells.toList ++ cs.drop (off + v.cells.toList.length))) ps else none
theorem bvals.out {l : Slots} {pl : List (Nat × Nat)} : ∀ {ps : List (Nat × Operand)} {cs r : List Value}, bvals l pl cs ps = some r → ∃ vs, EvP l ps vs ∧ fillL pl cs vs = some r
  | [], cs, r, h => ⟨[], trivial, h⟩
  | (i, x) :: ps, cs, r, h => by
    simp only [bvals] at h
    cases h1 : ev l x with
    | none => simp [h1] at h
    | some v =>
      simp only [h1] at h
      cases h2 : pl[i]? with
      | none => simp [h2] at h
      | some p =>
        obtain ⟨off, size⟩ := p
        simp only [h2] at h
        cases h3 : (Nat.beq v.cells.toList.length size && Nat.ble (off + size) cs.length) with
        | false => rw [h3] at h; cases h
        | true =>
          simp only [h3, cond_true] at h
          obtain ⟨vs, g1, g2⟩ := bvals.out h
          simp only [Bool.and_eq_true] at h3
          refine ⟨(i, v) :: vs, ⟨rfl, h1, g1⟩, ?_⟩
          unfold fillL
          simp only [h2]
          rw [if_pos ⟨Nat.eq_of_beq_eq_true h3.1, by simpa using h3.2⟩]
          exact g2
theorem bd {P : Program} {J : World → Prop} {T : TypeId} {z : Value} {pl : List (Nat × Nat)} {ps : List (Nat × Operand)} {cells : List Value} {dst ty pos af g} (hB : Bld P T z pl) (hv : bvals l pl z.cells.toList ps = some cells) : RunV P J ⟨dst, .build T ps.toArray, ty, pos, af, g⟩ l (.agg cells.toArray) :=
  let ⟨vs, h1, h2⟩ := bvals.out hv; run_build cells rfl hB h1 h2
/-- A call. -/
theorem ca {f : FuncId} {xs : List Operand} {vs : List Value} {ts : Array TypeId} {H1 H2 : List Ent} {post : Value → Mem → List Ent → Prop} {ty ps af g dst} (hc : vok ops l ⟨dst, .call { callee := .value (.func f), args := xs.toArray, argTypes := ts }, ty, ps, af, g⟩ C.N = some d) (hk : CallOk C.P f)
    (hf : Does C.P f vs.toArray M H1 post) (hx : evs l xs = some vs) (hH : H = H1 ++ H2) (k : ∀ v M' H1', Mem.le M M' → post v M' H1' → Ops u C Q ops rest M' (H1' ++ H2) ((d, v) :: l)) :
    Ops u C Q ops (⟨dst, .call { callee := .value (.func f), args := xs.toArray, argTypes := ts }, ty, ps, af, g⟩ :: rest) M H l :=
  let ⟨h1, h2, h3⟩ := vok.out hc; Ops.call rfl h1 h2 h3 hk hf (evs.out hx) hH k
theorem Here.down {C : Cx} {M M' : Mem} {H : List Ent} {l : Slots} {a : Act} {w : World} (ha : Here C M' H l a w) (hm : Mem.le M M') (h0 : Mem.le C.M0 M) : Here C M H l a w := by
  obtain ⟨X, hx, ht⟩ := ha.out
  refine ⟨ha.env, X, hx, ⟨⟨fun b o hb => ht.st.mem b o (hm b o hb), fun b o hb => ⟨(ht.st.own b o hb).1, ?_⟩, ht.st.nodup⟩, h0, ht.os, ht.tape, ht.output, ht.size, ht.block, fun b o hb => ht.memNew b o (hm b o hb), ht.ownNew⟩⟩
  cases e : M b with
  | none => rfl
  | some o' => have := hm b o' e; rw [(ht.st.own b o hb).2] at this; cases this
theorem Here.le0 {C : Cx} {M : Mem} {H : List Ent} {l : Slots} {a : Act} {w : World} (ha : Here C M H l a w) : Mem.le C.M0 M := let ⟨_, _, ht⟩ := ha.out; ht.le
/-- A call that turns nothing and gives a value. -/
theorem caq {f : FuncId} {xs : List Operand} {vs : List Value} {ts : Array TypeId} {H1 H2 : List Ent} {val : Value} {ty ps af g dst} (hc : vok ops l ⟨dst, .call { callee := .value (.func f), args := xs.toArray, argTypes := ts }, ty, ps, af, g⟩ C.N = some d) (hk : CallOk C.P f)
    (hf : Does C.P f vs.toArray M H1 fun v _ H' => v = val ∧ H' = H1) (hx : evs l xs = some vs) (hH : H = H1 ++ H2) (k : Ops u C Q ops rest M H ((d, val) :: l)) :
    Ops u C Q ops (⟨dst, .call { callee := .value (.func f), args := xs.toArray, argTypes := ts }, ty, ps, af, g⟩ :: rest) M H l := by
  obtain ⟨h1, h2, h3⟩ := vok.out hc
  intro a w ha
  refine Ops.call rfl h1 h2 h3 hk hf (evs.out hx) hH ?_ a w ha
  rintro v M' H' hm ⟨rfl, rfl⟩ a' w' ha'
  rw [← hH] at ha'
  exact k a' w' (ha'.down hm ha.le0)
theorem cavq {f : FuncId} {t : Operand} {xs : List Operand} {vs cs : List Value} {ts : Array TypeId} {H1 H2 : List Ent} {val : Value} {ty ps af g dst} (hc : vok ops l ⟨dst, .call { callee := .value t, args := xs.toArray, argTypes := ts }, ty, ps, af, g⟩ C.N = some d) (hk : CallOk C.P f)
    (ht : ev l t = some (.func (.func f) #[] cs.toArray)) (hf : Does C.P f (vs ++ cs).toArray M H1 fun v _ H' => v = val ∧ H' = H1) (hx : evs l xs = some vs) (hH : H = H1 ++ H2) (k : Ops u C Q ops rest M H ((d, val) :: l)) :
    Ops u C Q ops (⟨dst, .call { callee := .value t, args := xs.toArray, argTypes := ts }, ty, ps, af, g⟩ :: rest) M H l := by
  obtain ⟨h1, h2, h3⟩ := vok.out hc
  intro a w ha
  refine Ops.callv rfl h1 h2 h3 hk ht hf (evs.out hx) hH ?_ a w ha
  rintro v M' H' hm ⟨rfl, rfl⟩ a' w' ha'
  rw [← hH] at ha'
  exact k a' w' (ha'.down hm ha.le0)
theorem ca0 {f : FuncId} {xs : List Operand} {vs : List Value} {ts : Array TypeId} {H1 H2 : List Ent} {post : Value → Mem → List Ent → Prop} {ty ps af g dst} (hc : vok0 ops l ⟨dst, .call { callee := .value (.func f), args := xs.toArray, argTypes := ts }, ty, ps, af, g⟩ = true) (hk : CallOk C.P f)
    (hf : Does C.P f vs.toArray M H1 post) (hx : evs l xs = some vs) (hH : H = H1 ++ H2) (k : ∀ v M' H1', Mem.le M M' → post v M' H1' → Ops u C Q ops rest M' (H1' ++ H2) l) :
    Ops u C Q ops (⟨dst, .call { callee := .value (.func f), args := xs.toArray, argTypes := ts }, ty, ps, af, g⟩ :: rest) M H l :=
  let ⟨h1, h2⟩ := vok0.out hc; Ops.call0 rfl h1 h2 hk hf (evs.out hx) hH k
theorem cav {f : FuncId} {t : Operand} {xs : List Operand} {vs cs : List Value} {ts : Array TypeId} {H1 H2 : List Ent} {post : Value → Mem → List Ent → Prop} {ty ps af g dst} (hc : vok ops l ⟨dst, .call { callee := .value t, args := xs.toArray, argTypes := ts }, ty, ps, af, g⟩ C.N = some d) (hk : CallOk C.P f)
    (ht : ev l t = some (.func (.func f) #[] cs.toArray)) (hf : Does C.P f (vs ++ cs).toArray M H1 post) (hx : evs l xs = some vs) (hH : H = H1 ++ H2) (k : ∀ v M' H1', Mem.le M M' → post v M' H1' → Ops u C Q ops rest M' (H1' ++ H2) ((d, v) :: l)) :
    Ops u C Q ops (⟨dst, .call { callee := .value t, args := xs.toArray, argTypes := ts }, ty, ps, af, g⟩ :: rest) M H l :=
  let ⟨h1, h2, h3⟩ := vok.out hc; Ops.callv rfl h1 h2 h3 hk ht hf (evs.out hx) hH k
end

/-! ### Drawn regions -/
/-- A schedule, in short: steps that are taken ahead. -/
def Sched.tk : List Nat → Sched → Sched
  | [], t => t
  | i :: is, t => .take i (Sched.tk is t)
section
variable {C : Cx} {Q : Post} {S : World → Prop} {ops : Array Oper} {t : Sched} {M : Mem} {H : List Ent} {l l' : Slots} {i d : Nat} {o : Oper}
/-- Plain steps in a drawn region. -/
noncomputable def dsteps (ops : Array Oper) (N : Nat) : Nat → Sched → Slots → Option (Sched × Slots)
  | 0, t, l => some (t, l)
  | n + 1, .take i t, l => match ops[i]? with
    | none => none
    | some o => match pstep ops N o l with
      | none => none
      | some l' => dsteps ops N n t l'
  | _ + 1, _, _ => none
theorem pstep.opd (ho : ops[i]? = some o) (h : pstep ops C.N o l = some l') (k : Opd C Q S ops t M H l') : Opd C Q S ops (.take i t) M H l := by
  unfold pstep at h
  cases h1 : o.dst with
  | none => simp [h1] at h
  | some d =>
    simp only [h1] at h
    cases h2 : Nat.blt d C.N with
    | false => simp [h2] at h
    | true =>
      simp only [h2, cond_true] at h
      cases h3 : gyes ops l o.guard with
      | true =>
        simp only [h3, cond_true] at h
        cases h4 : pval l o.op with
        | none => simp [h4] at h
        | some v =>
          simp only [h4, Option.some.injEq] at h
          subst h
          exact Opd.val ho h1 (gyes.yes h3) h2 (pval.run h4) k
      | false =>
        simp only [h3, cond_false] at h
        cases h4 : gno ops l o.guard with
        | false => simp [h4] at h
        | true =>
          simp only [h4, cond_true, Option.some.injEq] at h
          subst h
          exact Opd.pass ho h1 (gno.no h4) h2 k
theorem dn {t' : Sched} (n : Nat) (h : dsteps ops C.N n t l = some (t', l')) (k : Opd C Q S ops t' M H l') : Opd C Q S ops t M H l := by
  induction n generalizing t l with
  | zero => simp only [dsteps, Option.some.injEq, Prod.mk.injEq] at h; obtain ⟨rfl, rfl⟩ := h; exact k
  | succ n ih =>
    cases t <;> simp only [dsteps, reduceCtorEq] at h
    rename_i i t
    cases ho : ops[i]? with
    | none => simp [ho] at h
    | some o =>
      simp only [ho] at h
      cases h1 : pstep ops C.N o l with
      | none => simp [h1] at h
      | some l1 =>
        simp only [h1] at h
        exact pstep.opd ho h1 (ih h)
theorem dv {v : Value} (ho : ops[i]? = some o) (hc : vok ops l o C.N = some d) (hr : RunV C.P S o l v) (k : Opd C Q S ops t M H ((d, v) :: l)) : Opd C Q S ops (.take i t) M H l :=
  let ⟨h1, h2, h3⟩ := vok.out hc; Opd.val ho h1 h2 h3 hr k
theorem da (ho : ops[i]? = some o) (h : Ops true C (fun e a w => match e with | .normal => S w ∧ Seq C.P Q S ops t a w | e => Q e a w) ops [o] M H l) : Opd C Q S ops (.one i t) M H l := Opd.act ho h
theorem db {Hs : List Ent} {Ms : Mem} (ps : List Nat) (hm : Mem.le Ms M) (hi : selK H ps some = some Hs) (h : Opd C Q (Rd Ms Hs) ops t M H l) : Ops true C (fun e a w => match e with | .normal => Rd Ms Hs w ∧ Seq C.P Q (Rd Ms Hs) ops t a w | e => Q e a w) ops [] M H l := Opd.back hm (Incl.eq ps (Option.some.inj (selK_eq hi))) h
theorem dd (h : Ex C Q .normal M H l) : Opd C Q S ops .nil M H l := Opd.nil h
theorem ktd {b : Bool} (t' : Nat) (hb : b = true) (hl : look t' l = some (.bool b)) (h : Opd C Q S ops t M H ((t', .bool true) :: l)) : Opd C Q S ops t M H l := fun a w ha => h a w ⟨ha.env.dup hl (by rw [hb]), ha.out⟩
theorem kfd {b : Bool} (t' : Nat) (hb : b = false) (hl : look t' l = some (.bool b)) (h : Opd C Q S ops t M H ((t', .bool false) :: l)) : Opd C Q S ops t M H l := fun a w ha => h a w ⟨ha.env.dup hl (by rw [hb]), ha.out⟩
/-- All that is asked of a drawn region's schedule, at once. -/
def dchk (ops : Array Oper) (L : Sched) : Bool := noSelect ops && okSeq ops ops.size L (Array.replicate ops.size false)
def tchk (ops : Array Oper) (m : Nat) (L : Sched) : Bool := noSelect (ops.extract 0 m) && noSelect ops && tailOk ops m && Nat.ble m ops.size && okSeq (ops.extract 0 m) m L (Array.replicate m false)
theorem dw {Hs : List Ent} {id : Nat} [PQ Q] (js : List Nat) (hs : selK H js some = some Hs) (L : Sched) (hm : C.P.follows .mixedOrders = true) (hc : dchk ops L = true) (h : Opd C Q (Rd M Hs) ops L M H l) : Cd C Q (.region id ops true) M H l := by
  have e := Option.some.inj (selK_eq hs)
  subst e
  simp only [dchk, Bool.and_eq_true] at hc
  exact Cd.draw L hm hc.1 hc.2 (Incl.sel H js) h
theorem dt {Hs : List Ent} {A : List Oper} {id : Nat} [PQ Q] {os : List Oper} (js : List Nat) (hs : selK H js some = some Hs) (m : Nat) (hA : takeK m os some = some A) (L : Sched) (hm : C.P.follows .mixedOrders = true) (hc : tchk os.toArray m L = true)
    (h : Opd C (TailQ C.P Q os.toArray (List.range' m (os.toArray.size - m))) (Rd M Hs) A.toArray L M H l) : Cd C Q (.region id os.toArray true) M H l := by
  have e := Option.some.inj (selK_eq hs)
  subst e
  have e2 := Option.some.inj (takeK_eq hA).1
  have e3 : os.toArray.extract 0 m = A.toArray := by rw [← e2]; simp
  simp only [tchk, Bool.and_eq_true] at hc
  obtain ⟨⟨⟨⟨h1, h2⟩, h3⟩, h4⟩, h5⟩ := hc
  rw [← e3] at h
  exact Cd.drawT m L hm h1 h2 h3 h4 h5 (Incl.sel H js) h
theorem td {m : Nat} {Z : List Oper} (hz : dropO m ops.toList = some Z) (h : Ops true C Q ops Z M H l) : Ex C (TailQ C.P Q ops (List.range' m (ops.size - m))) .normal M H l := Ex.tailD (dropO_eq hz ▸ h)
end

/-! ### Entries: let go, frozen, in another order -/
theorem Pt.mono {M M' : Mem} {p : Option Addr} {es : List Value} (hm : Mem.le M M') (h : Pt M [] p es) : Pt M' [] p es := Pt.up hm h
section
variable {u : Bool} {C : Cx} {Q : Post} {ops : Array Oper} {rest : List Oper} {M : Mem} {H : List Ent} {l : Slots} {x : Exit} {c : Code}
theorem se {H' : List Ent} (js : List Nat) (hn : selN H js = some H') (h : Ops u C Q ops rest M H' l) : Ops u C Q ops rest M H l := by
  obtain ⟨h1, rfl⟩ := selN_eq hn
  exact Ops.sel js h1 h
theorem seX {H' : List Ent} (js : List Nat) (hn : selN H js = some H') (h : Ex C Q x M H' l) : Ex C Q x M H l := by
  obtain ⟨h1, rfl⟩ := selN_eq hn
  exact Ex.sel js h1 h
theorem seC {H' : List Ent} (js : List Nat) (hn : selN H js = some H') (h : Cd C Q c M H' l) : Cd C Q c M H l := by
  obtain ⟨h1, rfl⟩ := selN_eq hn
  exact Cd.sel js h1 h
theorem seL {H' : List Ent} (js : List Nat) (hn : selN H js = some H') (h : Lp C Q c M H' l) : Lp C Q c M H l := by
  obtain ⟨h1, rfl⟩ := selN_eq hn
  exact Lp.sel js h1 h
theorem selTK {H H' H1 H2 : List Ent} {n : Nat} {js : List Nat} (h1 : takeK n H some = some H1) (h2 : dropO n H = some H2) (h3 : selN H1 js = some H') : js.Nodup ∧ Tw.selT n H js = H' ++ H2 := by
  obtain ⟨e1, _⟩ := takeK_eq h1
  have e1 := Option.some.inj e1
  have e2 := dropO_eq h2
  obtain ⟨e3, e4⟩ := selN_eq h3
  refine ⟨e3, ?_⟩
  unfold Tw.selT
  rw [e1, e2, e4]
section
variable {H' H1 H2 : List Ent}
theorem st (n : Nat) (js : List Nat) (h1 : takeK n H some = some H1) (h2 : dropO n H = some H2) (h3 : selN H1 js = some H') (h : Ops u C Q ops rest M (H' ++ H2) l) : Ops u C Q ops rest M H l := by
  obtain ⟨g1, g2⟩ := selTK h1 h2 h3
  rw [← g2] at h
  exact Ops.selT n js g1 h
theorem stX (n : Nat) (js : List Nat) (h1 : takeK n H some = some H1) (h2 : dropO n H = some H2) (h3 : selN H1 js = some H') (h : Ex C Q x M (H' ++ H2) l) : Ex C Q x M H l := by
  obtain ⟨g1, g2⟩ := selTK h1 h2 h3
  rw [← g2] at h
  exact Ex.selT n js g1 h
theorem stL (n : Nat) (js : List Nat) (h1 : takeK n H some = some H1) (h2 : dropO n H = some H2) (h3 : selN H1 js = some H') (h : Lp C Q c M (H' ++ H2) l) : Lp C Q c M H l := by
  obtain ⟨g1, g2⟩ := selTK h1 h2 h3
  rw [← g2] at h
  exact Lp.selT n js g1 h
theorem stC (n : Nat) (js : List Nat) (h1 : takeK n H some = some H1) (h2 : dropO n H = some H2) (h3 : selN H1 js = some H') (h : Cd C Q c M (H' ++ H2) l) : Cd C Q c M H l := by
  obtain ⟨g1, g2⟩ := selTK h1 h2 h3
  rw [← g2] at h
  exact fun a w ha => h a w (ha.selT n js g1)
end
theorem bl (h : Ops u C Q ops rest M (none :: H) l) : Ops u C Q ops rest M H l := Ops.blank h
theorem blX (h : Ex C Q x M (none :: H) l) : Ex C Q x M H l := Ex.blank h
theorem blC (h : Cd C Q c M (none :: H) l) : Cd C Q c M H l := Cd.blank h
theorem blL (h : Lp C Q c M (none :: H) l) : Lp C Q c M H l := Lp.blank h
theorem Here.erase {a : Act} {w : World} {e : Ent} {j : Nat} (hj : H[j]? = some e) (ha : Here C M H l a w) : Here C M (e :: H.eraseIdx j) l a w := ha.ghost (·.perm (by
    have h1 := split_at hj
    have h2 : H.eraseIdx j = H.take j ++ H.drop (j + 1) := List.eraseIdx_eq_take_drop_succ ..
    rw [h2]
    conv => lhs; rw [h1]
    exact List.perm_middle))
theorem Here.fz {α : Type} {E : Enc α} {xs : List α} {a : Option Addr} {n c : Nat} {t : TypeId} {e : Ent} {A : Act} {w : World} (j : Nat) (hj : H[j]? = some e) (hO : OSl M E xs a n c t e) (ha : Here C M H l A w) :
    ∃ M', Mem.le M M' ∧ SRep M' E xs a n c ∧ Here C M' (H.eraseIdx j) l A w := by
  have h0 := ha.erase hj
  rcases hO.frozen with ⟨rfl, hS⟩ | ⟨b, o, rfl, hS⟩
  · exact ⟨M, Mem.le_refl _, hS, h0.ghost (·.drop)⟩
  · have hle := Mem.le_add o (h0.st.own b o (by simp)).2
    exact ⟨M.add b o, hle, hS _ hle (Mem.add_same M b o), h0.ghost (·.freeze)⟩
section
variable {α : Type} {E : Enc α} {xs : List α} {a : Option Addr} {n cc : Nat} {t : TypeId} {e : Ent}
theorem fz {H' : List Ent} (j : Nat) (hO : OSl M E xs a n cc t e) (hj : nthO j H = some e) (he : eraseK H j some = some H') (h : ∀ M', Mem.le M M' → SRep M' E xs a n cc → Ops u C Q ops rest M' H' l) : Ops u C Q ops rest M H l := fun A w ha =>
  let ⟨M', h1, h2, h3⟩ := ha.fz j (nthO_eq ▸ hj) hO; h M' h1 h2 A w ((Option.some.inj (eraseK_eq he)) ▸ h3)
theorem fzX {H' : List Ent} (j : Nat) (hO : OSl M E xs a n cc t e) (hj : nthO j H = some e) (he : eraseK H j some = some H') (h : ∀ M', Mem.le M M' → SRep M' E xs a n cc → Ex C Q x M' H' l) : Ex C Q x M H l := fun A w ha =>
  let ⟨M', h1, h2, h3⟩ := ha.fz j (nthO_eq ▸ hj) hO; h M' h1 h2 A w ((Option.some.inj (eraseK_eq he)) ▸ h3)
theorem fzC {H' : List Ent} (j : Nat) (hO : OSl M E xs a n cc t e) (hj : nthO j H = some e) (he : eraseK H j some = some H') (h : ∀ M', Mem.le M M' → SRep M' E xs a n cc → Cd C Q c M' H' l) : Cd C Q c M H l := fun A w ha =>
  let ⟨M', h1, h2, h3⟩ := ha.fz j (nthO_eq ▸ hj) hO; h M' h1 h2 A w ((Option.some.inj (eraseK_eq he)) ▸ h3)
theorem fzL {H' : List Ent} (j : Nat) (hO : OSl M E xs a n cc t e) (hj : nthO j H = some e) (he : eraseK H j some = some H') (h : ∀ M', Mem.le M M' → SRep M' E xs a n cc → Lp C Q c M' H' l) : Lp C Q c M H l := fun A w ha =>
  let ⟨M', h1, h2, h3⟩ := ha.fz j (nthO_eq ▸ hj) hO; h M' h1 h2 A w ((Option.some.inj (eraseK_eq he)) ▸ h3)
end
/-! ### The way out -/
noncomputable def roks (l : Slots) : List ResultVar → Option (List Value)
  | [] => some []
  | .tmp t :: rs => match look t l with
    | none => none
    | some v => match roks l rs with
      | none => none
      | some vs => some (v :: vs)
  | _ :: _ => none
theorem roks.out {P : Program} : ∀ {rs : List ResultVar} {vs : List Value}, roks l rs = some vs → ResOk P M H l rs vs
  | [], vs, h => by simp only [roks, Option.some.injEq] at h; subst h; trivial
  | .tmp t :: rs, vs, h => by
    simp only [roks] at h
    cases h1 : look t l with
    | none => simp [h1] at h
    | some v =>
      cases h2 : roks l rs with
      | none => simp [h1, h2] at h
      | some us =>
        simp only [h1, h2, Option.some.injEq] at h
        subst h
        exact ⟨h1, roks.out h2⟩
  | .cell _ _ :: _, vs, h => by simp [roks] at h
theorem oR {fn : Func} {vs : List Value} {post : Value → Mem → List Ent → Prop} (n : Nat) (hro : C.ro = none) (hr : roks l fn.results.toList = some vs) (hp : post (tup vs) M (H.take n)) : Ex C (BodyQ C fn (Fin C.M0 C.H0 C.w0 post)) .ret M H l :=
  Ex.out n hro (.inl rfl) (rs := fn.results.toList) (by simp) (roks.out hr) rfl hp
theorem oN {fn : Func} {vs : List Value} {post : Value → Mem → List Ent → Prop} (n : Nat) (hro : C.ro = none) (hr : roks l fn.results.toList = some vs) (hp : post (tup vs) M (H.take n)) : Ex C (BodyQ C fn (Fin C.M0 C.H0 C.w0 post)) .normal M H l :=
  Ex.out n hro (.inr rfl) (rs := fn.results.toList) (by simp) (roks.out hr) rfl hp
/-- Into a joined state: the slots that it names. -/
noncomputable def pks (l : Slots) : List Nat → Option Slots
  | [] => some []
  | t :: ts => match look t l with
    | none => none
    | some v => match pks l ts with
      | none => none
      | some r => some ((t, v) :: r)
theorem pks.sub : ∀ {ts : List Nat} {l' : Slots}, pks l ts = some l' → Sub l l'
  | [], l', h => by simp only [pks, Option.some.injEq] at h; subst h; trivial
  | t :: ts, l', h => by
    simp only [pks] at h
    cases h1 : look t l with
    | none => simp [h1] at h
    | some v =>
      cases h2 : pks l ts with
      | none => simp [h1, h2] at h
      | some r =>
        simp only [h1, h2, Option.some.injEq] at h
        subst h
        exact ⟨h1, pks.sub h2⟩
theorem asx {l' : Slots} (h : Ex C Q x M H l') (hs : pks l (l'.map (·.1)) = some l') : Ex C Q x M H l := Ex.sub (pks.sub hs) h
theorem ls {l' : Slots} (hs : pks l (l'.map (·.1)) = some l') (h : Lp C Q c M H l') : Lp C Q c M H l := Lp.sub (pks.sub hs) h
theorem sx {a b : Int} (t : Nat) (hb : a = b) (hl : look t l = some (.int .i64 a)) (h : Ex C Q x M H ((t, .int .i64 b) :: l)) : Ex C Q x M H l := fun A w ha => h A w ⟨ha.env.dup hl (by rw [hb]), ha.out⟩
end

/-! ### Loops that count -/
theorem w64_id {a : Int} (h0 : -9223372036854775808 ≤ a) (h1 : a ≤ 9223372036854775807) : w64 a = a := by
  have e : w64 a = (a + 9223372036854775808) % 18446744073709551616 - 9223372036854775808 := IntKind.wrap_i64 a
  omega
structure Rg {α : Type} (xs ys : List α) (p : Int) : Prop where
  pos : 0 ≤ p
  drop : xs.drop p.toNat = ys
theorem Rg.nil {α : Type} {xs : List α} {p : Int} (h : Rg xs [] p) : decide (p < (xs.length : Int)) = false := by
  have := List.drop_eq_nil_iff.1 h.drop
  have := h.pos
  simp; omega
theorem Rg.cons {α : Type} {xs ys : List α} {y : α} {p : Int} (h : Rg xs (y :: ys) p) (hl : xs.length ≤ 4294967296) : decide (p < (xs.length : Int)) = true ∧ p < (xs.length : Int) ∧ xs[p.toNat]? = some y ∧ w64 (p + 1) = p + 1 ∧ Rg xs ys (p + 1) := by
  have h0 := h.pos
  have h1 : xs[p.toNat]? = some y := by
    have : (xs.drop p.toNat)[0]? = some y := by rw [h.drop]; rfl
    simpa using this
  have h2 := (List.getElem?_eq_some_iff.1 h1).1
  refine ⟨by simp; omega, by omega, h1, w64_id (by omega) (by omega), by omega, ?_⟩
  have e : (p + 1).toNat = p.toNat + 1 := by omega
  rw [e, ← List.tail_drop, h.drop]; rfl
section
variable {C : Cx} {Q : Post} {M : Mem} {H : List Ent} {l : Slots} {c : Code}
theorem Lp.lst {α : Type} {xs : List α} {un : Unit} (hl : cap xs.length = some un) (G : List α → Int → Mem → List Ent → Slots → Prop)
    (hn : ∀ p, decide (p < (xs.length : Int)) = false → ∀ M H l, G [] p M H l → Cd C (Exit.then (LoopAt C c Q) Q) c M H l)
    (hc : ∀ y ys p, decide (p < (xs.length : Int)) = true → 0 ≤ p → p < (xs.length : Int) → xs[p.toNat]? = some y → w64 (p + 1) = p + 1 → (∀ M H l, G ys (p + 1) M H l → Ex C (Exit.then (LoopAt C c Q) Q) .normal M H l) → ∀ M H l, G (y :: ys) p M H l → Cd C (Exit.then (LoopAt C c Q) Q) c M H l) :
    ∀ M H l, G xs 0 M H l → Lp C Q c M H l := by
  have key : ∀ ys p, Rg xs ys p → ∀ M H l, G ys p M H l → Lp C Q c M H l := by
    intro ys
    induction ys with
    | nil => exact fun p hr M H l h => Lp.round (hn p hr.nil M H l h)
    | cons y ys ih => exact fun p hr M H l h => let ⟨h1, h2, h3, h4, h5⟩ := hr.cons (cap_some hl); Lp.round (hc y ys p h1 hr.pos h2 h3 h4 (fun M H l hg => Ex.again (ih (p + 1) h5 M H l hg)) M H l h)
  exact key xs 0 ⟨by omega, by simp⟩
theorem Lp.nat {n : Int} (hl : n ≤ 4294967296) (G : Nat → Int → Mem → List Ent → Slots → Prop)
    (hn : ∀ p, decide (p < n) = false → ∀ M H l, G 0 p M H l → Cd C (Exit.then (LoopAt C c Q) Q) c M H l)
    (hc : ∀ k p, decide (p < n) = true → 0 ≤ p → p < n → w64 (p + 1) = p + 1 → (∀ M H l, G k (p + 1) M H l → Ex C (Exit.then (LoopAt C c Q) Q) .normal M H l) → ∀ M H l, G (k + 1) p M H l → Cd C (Exit.then (LoopAt C c Q) Q) c M H l) :
    ∀ M H l, G n.toNat 0 M H l → Lp C Q c M H l := by
  have key : ∀ (k : Nat) (p : Int), 0 ≤ p → (n - p).toNat = k → ∀ M H l, G k p M H l → Lp C Q c M H l := by
    intro k
    induction k with
    | zero => exact fun p h0 he M H l h => Lp.round (hn p (by simp; omega) M H l h)
    | succ k ih => exact fun p h0 he M H l h => Lp.round (hc k p (by simp; omega) h0 (by omega) (w64_id (by omega) (by omega)) (fun M H l hg => Ex.again (ih (p + 1) (by omega) (by omega) M H l hg)) M H l h)
  exact key n.toNat 0 (by omega) (by simp)
end
section
variable {C : Cx} {Q : Post} {ops : Array Oper} {rest : List Oper} {M : Mem} {H : List Ent} {sl : Slots}
theorem yl {d l : Nat} {t : Operand} {xs : List Operand} {vs : List Value} {ts : Array TypeId} {H1 H2 : List Ent} {post : Bool → Mem → List Ent → Prop} {ty ps af g dst} (hc : vok ops sl ⟨dst, .call { callee := .value t, args := xs.toArray, argTypes := ts }, ty, ps, af, g⟩ C.N = some d) (ht : ev sl t = some (.func (.yield l) #[] #[]))
    (hx : evs sl xs = some vs) (hr : Round C.P l vs M H1 post) (hH : H = H2 ++ H1) (k : ∀ b M' H1', Mem.le M M' → post b M' H1' → Ops false C Q ops rest M' (H2 ++ H1') ((d, .bool b) :: sl)) :
    Ops false C Q ops (⟨dst, .call { callee := .value t, args := xs.toArray, argTypes := ts }, ty, ps, af, g⟩ :: rest) M H sl :=
  let ⟨h1, h2, h3⟩ := vok.out hc; Ops.yield rfl h1 h2 h3 ht (evs.out hx) hr hH k
theorem yl0 {l : Nat} {t : Operand} {xs : List Operand} {vs : List Value} {ts : Array TypeId} {H1 H2 : List Ent} {post : Bool → Mem → List Ent → Prop} {ty ps af g dst} (hc : vok0 ops sl ⟨dst, .call { callee := .value t, args := xs.toArray, argTypes := ts }, ty, ps, af, g⟩ = true) (ht : ev sl t = some (.func (.yield l) #[] #[]))
    (hx : evs sl xs = some vs) (hr : Round C.P l vs M H1 post) (hH : H = H2 ++ H1) (k : ∀ b M' H1', Mem.le M M' → post b M' H1' → Ops false C Q ops rest M' (H2 ++ H1') sl) :
    Ops false C Q ops (⟨dst, .call { callee := .value t, args := xs.toArray, argTypes := ts }, ty, ps, af, g⟩ :: rest) M H sl :=
  let ⟨h1, h2⟩ := vok0.out hc; Ops.yield0 rfl h1 h2 ht (evs.out hx) hr hH k
end
end Go.Proofs.Ytjbfolnnepjidaa.Tw
