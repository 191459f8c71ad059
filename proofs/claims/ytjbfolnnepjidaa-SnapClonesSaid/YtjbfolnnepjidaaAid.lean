/-
  What the generated plain functions of this claim are made of, and the rules in those words.
-/
import Derived.Test.YtjbfolnnepjidaaBuild
set_option linter.unusedVariables false
set_option linter.unusedSimpArgs false
namespace Go.Proofs.Ytjbfolnnepjidaa.Tw
open Go

/-! ### Words of the plain functions -/
def idx {α : Type} (xs : List α) (i : Int) : Option α := if 0 ≤ i then xs[i.toNat]? else none
theorem idx_some {α : Type} {xs : List α} {i : Int} {x : α} (h : idx xs i = some x) : 0 ≤ i ∧ i < (xs.length : Int) ∧ xs[i.toNat]? = some x := by
  unfold idx at h
  split at h
  · have := (List.getElem?_eq_some_iff.1 h).1
    exact ⟨‹_›, by omega, h⟩
  · cases h
theorem bind_some {α β : Type} {x : Option α} {f : α → Option β} {r : β} (h : x.bind f = some r) : ∃ y, x = some y ∧ f y = some r := by
  cases x with
  | none => cases h
  | some y => exact ⟨y, rfl, h⟩
def cap (n : Nat) : Option Unit := if n ≤ 4294967296 then some () else none
theorem cap_some {n : Nat} {u : Unit} (h : cap n = some u) : n ≤ 4294967296 := by
  unfold cap at h; split at h
  · assumption
  · cases h
theorem ite_true_ {α : Type} {b : Bool} {x y : Option α} {r : α} (h : (if b = true then x else y) = some r) (hb : b = true) : x = some r := by rw [if_pos hb] at h; exact h
theorem ite_false_ {α : Type} {b : Bool} {x y : Option α} {r : α} (h : (if b = true then x else y) = some r) (hb : b = false) : y = some r := by rw [if_neg (by simp [hb])] at h; exact h
def sidx (s : ByteArray) (i : Int) : Option Int := if h : 0 ≤ i ∧ i.toNat < s.size then some ((s[i.toNat]'h.2).toNat : Int) else none
def scut (s : ByteArray) (i j : Int) : Option ByteArray := if 0 ≤ i ∧ i ≤ j ∧ j ≤ s.size then some (s.extract i.toNat j.toNat) else none
def lcut {α : Type} (xs : List α) (i j : Int) : Option (List α) := if 0 ≤ i ∧ i ≤ j ∧ j ≤ xs.length then some ((xs.drop i.toNat).take (j.toNat - i.toNat)) else none
def gmin (a b : Int) : Int := if b < a then b else a
def gmax (a b : Int) : Int := if b > a then b else a
def need (b : Bool) : Option Unit := if b = true then some () else none
theorem need_some {b : Bool} {u : Unit} (h : need b = some u) : b = true := by
  unfold need at h; split at h
  · assumption
  · cases h
def band (k : IntKind) (a b : Int) : Int := k.wrap ((BitVec.ofInt k.bits a &&& BitVec.ofInt k.bits b).toNat : Int)
def bor (k : IntKind) (a b : Int) : Int := k.wrap ((BitVec.ofInt k.bits a ||| BitVec.ofInt k.bits b).toNat : Int)
def bxor (k : IntKind) (a b : Int) : Int := k.wrap ((BitVec.ofInt k.bits a ^^^ BitVec.ofInt k.bits b).toNat : Int)
def gshl (k : IntKind) (a b : Int) : Int := k.wrap (a * 2 ^ (min b.toNat k.bits))
def gshr (k : IntKind) (a b : Int) : Int := a.fdiv (2 ^ (min b.toNat k.bits))
def seq (a b : ByteArray) : Bool := a.toList == b.toList

/-! ### Facts -/
theorem neB {t b : Bool} (h : t = (!b)) : Value.bool t ≠ .bool b := by subst h; cases b <;> intro h <;> cases h
theorem Pt.ne {M : Mem} {H : List Ent} {a : Option Addr} {k : Nat} {es : List Value} (h : Pt M H (pa a k) es) : a ≠ none := by
  rintro rfl
  obtain ⟨b, o, cs, t, fz, h, _⟩ := h
  cases h
theorem Pt.any {M : Mem} {p : Option Addr} {es : List Value} (h : Pt M [] p es) (H : List Ent) : Pt M H p es := h.le (Mem.le_refl _) (fun _ _ h => by cases h)
theorem Pt.up {M M' : Mem} {p : Option Addr} {es : List Value} (hm : Mem.le M M') (h : Pt M [] p es) : Pt M' [] p es := h.le hm (fun _ _ h => h)
theorem OSl.lit0 {α : Type} (M : Mem) (E : Enc α) (b : Nat) (t : TypeId) : OSl M E ([] : List α) (some ⟨b, 0, none⟩) 0 0 t (some (b, .cells #[] t (0, 0))) :=
  ⟨rfl, Nat.le_refl _, .inr ⟨b, _, rfl, rfl, by simp, by simp⟩⟩
theorem Incl.sel (H : List Ent) (js : List Nat) : Incl (Tw.sel H js) H := fun b o h => let ⟨_, _, hj⟩ := sel_mem h; List.mem_of_getElem? hj
theorem Incl.eq {A B : List Ent} (ps : List Nat) (h : Tw.sel B ps = A) : Incl A B := h ▸ Incl.sel B ps

section
variable {P : Program} {J : World → Prop} {o : Oper} {l : Slots} {M : Mem} {H : List Ent}
theorem run_sidx' {x y : Operand} {s : ByteArray} {k : IntKind} {i b : Int} {T : TypeId} (ho : o.op = .index T x y) (hT : P.underlying T = some .string) (hx : ev l x = some (.string s)) (hy : ev l y = some (.int k i)) (hs : sidx s i = some b) : RunV P J o l (.int .u8 b) := by
  unfold sidx at hs
  split at hs
  · rename_i h
    cases hs
    exact run_sidx ho hT hx hy h.1 h.2
  · cases hs
theorem run_scut' {x : Operand} {lo hi : Option Operand} {s t : ByteArray} {a b : Int} {T : TypeId} (ho : o.op = .slice T x lo hi none) (hT : P.underlying T = some .string) (hx : ev l x = some (.string s))
    (hlo : match lo with | some y => ∃ k, ev l y = some (.int k a) | none => a = 0) (hhi : match hi with | some y => ∃ k, ev l y = some (.int k b) | none => b = s.size) (hs : scut s a b = some t) : RunV P J o l (.string t) := by
  unfold scut at hs
  split at hs
  · rename_i h
    cases hs
    exact run_scut ho hT hx hlo hhi h.1 h.2.1 h.2.2
  · cases hs
theorem run_nilq {x : Operand} {a : Addr} {T T' e : TypeId} (ho : o.op = .binOp .eql T x (.const (.pointer none)) T') (hT : P.underlying T = some (.pointer e)) (hx : ev l x = some (.pointer (some a))) : RunV P J o l (.bool false) := fun ρ w ha _ => by
  have h1 : (Op.equal T (.pointer (some a)) (.pointer none)).run P w = .ok false w := by
    show (Op.equalIn (9999 + 1) T _ _).run P w = _
    generalize 9999 = k
    rw [Op.equalIn]
    simp [Sem.run_bind, run_underlying hT]
  have hc : ρ (.const (.pointer none)) = .pointer none := ha _ _ rfl
  simp [execOp, ho, ha x _ hx, hc, eqGuard, binOp, Sem.run_bind, h1]
end
section
variable {C : Cx} {o : Oper} {l : Slots} {M : Mem} {H : List Ent}
def Cut {α : Type} (M : Mem) (H : List Ent) (E : Enc α) (ys : List α) (v : Value) (M' : Mem) (H' : List Ent) : Prop := ∃ a c, v = .slice a ys.length c ∧ M = M' ∧ H' = H ∧ SRep M E ys a ys.length c
theorem run_cutS {α : Type} {E : Enc α} {T e : Nat} {x : Operand} {lo hi : Option Operand} {a : Option Addr} {c : Nat} {xs ys : List α} {i j : Int} (ho : o.op = .slice T x lo hi none) (hT : Sl C.P T e E.n) (hx : ev l x = some (.slice a xs.length c)) (hS : SRep M E xs a xs.length c)
    (hlo : match lo with | some y => ∃ k, ev l y = some (.int k i) | none => i = 0) (hhi : match hi with | some y => ∃ k, ev l y = some (.int k j) | none => j = xs.length) (hc : lcut xs i j = some ys) : RunR C o M H l (Cut M H E ys) := fun ρ w ha ht => by
  unfold lcut at hc
  split at hc
  · rename_i h
    cases hc
    have hcap := hS.cap
    have h1 := run_cut (M := M) (H := H) ho hT hx hlo hhi h.1 h.2.1 (by omega) hS.cap ρ w ha ht.rd
    have h2 := hS.cut i.toNat j.toNat (by omega) (by omega)
    generalize hn : j.toNat - i.toNat = n at h1 h2 ⊢
    have hl := h2.len
    generalize (xs.drop i.toNat).take n = ys at hl h2 ⊢
    subst hl
    exact ⟨_, w, M, H, h1, ht, Mem.le_refl _, _, _, rfl, rfl, rfl, h2⟩
  · cases hc
end
end Go.Proofs.Ytjbfolnnepjidaa.Tw
