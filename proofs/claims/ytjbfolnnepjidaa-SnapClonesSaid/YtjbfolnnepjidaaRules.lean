/-
  One lemma an operation, for the generated walks of this claim: what the operation's run comes to in whatever frame and world that are as told.
-/
import Derived.Test.YtjbfolnnepjidaaCore
set_option linter.unusedVariables false
set_option linter.unusedSimpArgs false
namespace Go.Proofs.Ytjbfolnnepjidaa.Tw
open Go

section
variable {u : Bool} {C : Cx} {Q : Post} {ops : Array Oper} {rest : List Oper} {M : Mem} {H : List Ent} {l : Slots} {i : Nat}

/-! ### Guards -/
def Yes (ops : Array Oper) (l : Slots) : Option (Nat × Bool) → Prop
  | none => True
  | some (j, want) => ∃ t b, (ops[j]?).bind (·.dst) = some t ∧ look t l = some (.bool b) ∧ b = want
def No (ops : Array Oper) (l : Slots) : Option (Nat × Bool) → Prop
  | none => False
  | some (j, want) => ∃ t v, (ops[j]?).bind (·.dst) = some t ∧ look t l = some v ∧ v ≠ .bool want
theorem Yes.wanted {N : Nat} {a : Act} {o : Oper} (h : Yes ops l o.guard) (ha : Env N l a) : Region.wanted o (yielded ops a.tmps) = true := by
  unfold Region.wanted
  cases hg : o.guard with
  | none => rfl
  | some g =>
    obtain ⟨j, want⟩ := g
    rw [hg] at h
    obtain ⟨t, b, h1, h2, rfl⟩ := h
    have := ha.get t _ h2
    simp [yielded, h1, this]
theorem No.wanted {N : Nat} {a : Act} {o : Oper} (h : No ops l o.guard) (ha : Env N l a) : Region.wanted o (yielded ops a.tmps) = false := by
  unfold Region.wanted
  cases hg : o.guard with
  | none => rw [hg] at h; exact h.elim
  | some g =>
    obtain ⟨j, want⟩ := g
    rw [hg] at h
    obtain ⟨t, v, h1, h2, h3⟩ := h
    have := ha.get t _ h2
    simp only [yielded, h1, Option.bind_some, this]
    cases v <;> simp_all

/-- An operation that is passed over. -/
theorem Ops.pass {o : Oper} {d : Nat} (hd : o.dst = some d) (hg : No ops l o.guard) (hN : Nat.blt d C.N = true) (k : Ops u C Q ops rest M H ((d, undef) :: l)) : Ops u C Q ops (o :: rest) M H l := by
  intro a w ha
  have h1 := hg.wanted ha.env
  simp only [opsW, h1]
  rw [hd]
  exact k _ _ (ha.put d undef (by simpa using hN))
theorem Ops.pass0 {o : Oper} (hd : o.dst = none) (hg : No ops l o.guard) (k : Ops u C Q ops rest M H l) : Ops u C Q ops (o :: rest) M H l := by
  intro a w ha
  have h1 := hg.wanted ha.env
  simp only [opsW, h1]
  rw [hd]
  exact k _ _ ha

/-! ### What an operation's run comes to -/
def RunV (P : Program) (J : World → Prop) (o : Oper) (l : Slots) (v : Value) : Prop :=
  ∀ ρ w, Ag l ρ → J w → (execOp ρ o).run P w = .ok (.value v) w
def RunR (C : Cx) (o : Oper) (M : Mem) (H : List Ent) (l : Slots) (R : Value → Mem → List Ent → Prop) : Prop :=
  ∀ ρ w, Ag l ρ → Tr M H w M H w → ∃ v w' M' H', (execOp ρ o).run C.P w = .ok (.value v) w' ∧ Tr M H w M' H' w' ∧ Mem.le M M' ∧ R v M' H'
def RunS (C : Cx) (o : Oper) (M : Mem) (H : List Ent) (l : Slots) (H' : List Ent) : Prop :=
  ∀ ρ w, Ag l ρ → Tr M H w M H w → ∃ w', (execOp ρ o).run C.P w = .ok .skip w' ∧ Tr M H w M H' w'

theorem Ops.val {o : Oper} {d : Nat} {v : Value} (hd : o.dst = some d) (hg : Yes ops l o.guard) (hN : Nat.blt d C.N = true) (hr : RunV C.P (Rd M H) o l v) (k : Ops u C Q ops rest M H ((d, v) :: l)) :
    Ops u C Q ops (o :: rest) M H l := by
  intro a w ha
  have h1 := hg.wanted ha.env
  simp only [opsW, h1, if_true]
  refine opW_val (hr a.eval w ha.ag ha.rd) ?_
  rw [hd]
  exact k _ _ (ha.put d v (by simpa using hN))
theorem Ops.val0 {o : Oper} {v : Value} (hd : o.dst = none) (hg : Yes ops l o.guard) (hr : RunV C.P (Rd M H) o l v) (k : Ops u C Q ops rest M H l) :
    Ops u C Q ops (o :: rest) M H l := by
  intro a w ha
  have h1 := hg.wanted ha.env
  simp only [opsW, h1, if_true]
  refine opW_val (hr a.eval w ha.ag ha.rd) ?_
  rw [hd]
  exact k _ _ ha
theorem Ops.mem {o : Oper} {d : Nat} {R : Value → Mem → List Ent → Prop} (hd : o.dst = some d) (hg : Yes ops l o.guard) (hN : Nat.blt d C.N = true) (hr : RunR C o M H l R)
    (k : ∀ v M' H', Mem.le M M' → R v M' H' → Ops u C Q ops rest M' H' ((d, v) :: l)) : Ops u C Q ops (o :: rest) M H l := by
  intro a w ha
  have h1 := hg.wanted ha.env
  simp only [opsW, h1, if_true]
  obtain ⟨v, w', M', H', hrun, ht, hle, hR⟩ := hr a.eval w ha.ag (.refl ha.st)
  refine opW_val hrun ?_
  rw [hd]
  exact k v M' H' hle hR _ _ ((ha.step ht).put d v (by simpa using hN))
theorem Ops.mem0 {o : Oper} {R : Value → Mem → List Ent → Prop} (hd : o.dst = none) (hg : Yes ops l o.guard) (hr : RunR C o M H l R)
    (k : ∀ v M' H', Mem.le M M' → R v M' H' → Ops u C Q ops rest M' H' l) : Ops u C Q ops (o :: rest) M H l := by
  intro a w ha
  have h1 := hg.wanted ha.env
  simp only [opsW, h1, if_true]
  obtain ⟨v, w', M', H', hrun, ht, hle, hR⟩ := hr a.eval w ha.ag (.refl ha.st)
  refine opW_val hrun ?_
  rw [hd]
  exact k v M' H' hle hR _ _ (ha.step ht)
theorem Ops.sto {o : Oper} {H' : List Ent} (hd : o.dst = none) (hg : Yes ops l o.guard) (hr : RunS C o M H l H') (k : Ops u C Q ops rest M H' l) :
    Ops u C Q ops (o :: rest) M H l := by
  intro a w ha
  have h1 := hg.wanted ha.env
  simp only [opsW, h1, if_true]
  obtain ⟨w', hrun, ht⟩ := hr a.eval w ha.ag (.refl ha.st)
  refine opW_skip hrun ?_
  rw [hd]
  exact k _ _ (ha.step ht)
end
end Go.Proofs.Ytjbfolnnepjidaa.Tw
