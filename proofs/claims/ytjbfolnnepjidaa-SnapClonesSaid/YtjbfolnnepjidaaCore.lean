/-
  The small library that the generated texts of this claim stand on: a frame of temporaries told by a list of slots, memory told as a frozen part and a list of owned blocks, and one lemma an operation.
-/
import Derived.Calls
import Derived.OrdersHeld
import Derived.OrdersIn
import Derived.TacticsIn
import Derived.RangeFuncLeaves
import Derived.RangeFuncRecord
import Derived.Tactics
import Derived.Laws.Cells
import Derived.Laws.World
import Derived.KernelRfl
set_option linter.unusedVariables false
set_option linter.unusedSimpArgs false
namespace Go.Proofs.Ytjbfolnnepjidaa.Tw
open Go

/-! ### Slots -/
abbrev Slots := List (Nat × Value)
noncomputable def look (t : Nat) (l : Slots) : Option Value :=
  List.rec (motive := fun _ => Option Value) none (fun p _ ih => Prod.casesOn (motive := fun _ => Option Value) p fun k v => bif Nat.beq k t then some v else ih) l
theorem look_nil (t : Nat) : look t [] = none := rfl
theorem look_cons_same (t : Nat) (v : Value) (l : Slots) : look t ((t, v) :: l) = some v := by
  show (bif Nat.beq t t then some v else look t l) = some v
  simp
theorem look_cons_other {t k : Nat} (v : Value) (l : Slots) (h : k ≠ t) : look t ((k, v) :: l) = look t l := by
  show (bif Nat.beq k t then some v else look t l) = look t l
  have : Nat.beq k t = false := by cases e : Nat.beq k t with
    | false => rfl
    | true => exact absurd (Nat.eq_of_beq_eq_true e) h
  simp [this]

structure Env (N : Nat) (l : Slots) (a : Act) : Prop where
  size : a.tmps.size = N
  get : ∀ t v, look t l = some v → a.tmps[t]? = some v

noncomputable def ev (l : Slots) : Operand → Option Value
  | .tmp t => look t l
  | .const v => some v
  | .global g => some (.pointer (some ⟨g, 0, none⟩))
  | .func f => some (.func (.func f) #[] #[])

/-- What a reading of operands must agree with. -/
def Ag (l : Slots) (ρ : Operand → Value) : Prop := ∀ x v, ev l x = some v → ρ x = v

theorem Env.ag {N : Nat} {l : Slots} {a : Act} (h : Env N l a) : Ag l a.eval := by
  intro x v hx
  cases x with
  | tmp t =>
    have := h.get t v hx
    simp [Act.eval, Array.getD_eq_getD_getElem?, this]
  | const c => simpa [ev, Act.eval] using hx
  | global g => simpa [ev, Act.eval] using hx
  | func f => simpa [ev, Act.eval] using hx

theorem Env.put {N : Nat} {l : Slots} {a : Act} (h : Env N l a) (d : Nat) (v : Value) (hd : d < N) : Env N ((d, v) :: l) (a.put (some d) v) := by
  refine ⟨by simp [Act.put, h.size], fun t u hu => ?_⟩
  by_cases e : d = t
  · subst e
    rw [look_cons_same] at hu
    simp only [Option.some.injEq] at hu
    subst hu
    simp [Act.put, h.size, hd]
  · rw [look_cons_other _ _ e] at hu
    simp only [Act.put]
    rw [Array.getElem?_setIfInBounds_ne e]
    exact h.get t u hu

theorem Env.putNone {N : Nat} {l : Slots} {a : Act} (h : Env N l a) (v : Value) : Env N l (a.put none v) := h

/-- Every slot of l' is one of l. -/
def Sub (l : Slots) : Slots → Prop
  | [] => True
  | (k, v) :: l' => look k l = some v ∧ Sub l l'
theorem Sub.look {l l' : Slots} (h : Sub l l') {t : Nat} {v : Value} (hv : look t l' = some v) : look t l = some v := by
  induction l' with
  | nil => simp [look_nil] at hv
  | cons p l' ih =>
    obtain ⟨k, u⟩ := p
    by_cases e : k = t
    · subst e
      rw [look_cons_same] at hv
      simp only [Option.some.injEq] at hv
      subst hv
      exact h.1
    · rw [look_cons_other _ _ e] at hv
      exact ih h.2 hv
theorem Env.sub {N : Nat} {l l' : Slots} {a : Act} (h : Env N l a) (hs : Sub l l') : Env N l' a := ⟨h.size, fun t v hv => h.get t v (hs.look hv)⟩

/-! ### Memory -/
abbrev Mem := Nat → Option Obj
abbrev Ent := Option (Nat × Obj)
def Mem.le (M M' : Mem) : Prop := ∀ b o, M b = some o → M' b = some o
theorem Mem.le_refl (M : Mem) : Mem.le M M := fun _ _ h => h
theorem Mem.le_trans {A B C : Mem} (h : Mem.le A B) (k : Mem.le B C) : Mem.le A C := fun b o x => k b o (h b o x)
def Mem.add (M : Mem) (b : Nat) (o : Obj) : Mem := fun x => if x = b then some o else M x
theorem Mem.add_same (M : Mem) (b : Nat) (o : Obj) : M.add b o b = some o := by simp [Mem.add]
theorem Mem.add_other (M : Mem) {b x : Nat} (o : Obj) (h : x ≠ b) : M.add b o x = M x := by simp [Mem.add, h]
theorem Mem.le_add {M : Mem} {b : Nat} (o : Obj) (h : M b = none) : Mem.le M (M.add b o) := fun x p hx => by
  by_cases e : x = b
  · subst e; rw [h] at hx; cases hx
  · rw [Mem.add_other M o e]; exact hx

def keys : List Ent → List Nat
  | [] => []
  | none :: H => keys H
  | some (b, _) :: H => b :: keys H
theorem keys_append (H K : List Ent) : keys (H ++ K) = keys H ++ keys K := by
  induction H with
  | nil => rfl
  | cons e H ih => rcases e with _ | ⟨b, o⟩ <;> simp [keys, ih]
theorem mem_keys {H : List Ent} {b : Nat} : b ∈ keys H ↔ ∃ o, some (b, o) ∈ H := by
  induction H with
  | nil => simp [keys]
  | cons e H ih =>
    rcases e with _ | ⟨c, o⟩
    · simp [keys, ih]
    · simp only [keys, List.mem_cons, ih, Option.some.injEq, Prod.mk.injEq]
      constructor
      · rintro (rfl | ⟨o', h⟩)
        · exact ⟨o, .inl ⟨rfl, rfl⟩⟩
        · exact ⟨o', .inr h⟩
      · rintro ⟨o', (⟨rfl, rfl⟩ | h)⟩
        · exact .inl rfl
        · exact .inr ⟨o', h⟩

structure St (M : Mem) (H : List Ent) (w : World) : Prop where
  mem : ∀ b o, M b = some o → w.heap[b]? = some o
  own : ∀ b o, some (b, o) ∈ H → w.heap[b]? = some o ∧ M b = none
  nodup : (keys H).Nodup

/-- From the world w0 (frozen part M0, owned H0) the run has come to w (M, H). -/
structure Tr (M0 : Mem) (H0 : List Ent) (w0 : World) (M : Mem) (H : List Ent) (w : World) : Prop where
  st : St M H w
  le : Mem.le M0 M
  os : w.os = w0.os
  tape : w.tape = w0.tape
  output : w.output = w0.output
  size : w0.heap.size ≤ w.heap.size
  block : ∀ b, b < w0.heap.size → b ∉ keys H0 → w.heap[b]? = w0.heap[b]?
  memNew : ∀ b o, M b = some o → M0 b = some o ∨ w0.heap.size ≤ b ∨ b ∈ keys H0
  ownNew : ∀ b, b ∈ keys H → w0.heap.size ≤ b ∨ b ∈ keys H0

theorem lt_of_heap {w : World} {b : Nat} {o : Obj} (h : w.heap[b]? = some o) : b < w.heap.size := (Array.getElem?_eq_some_iff.1 h).1

theorem Tr.refl {M : Mem} {H : List Ent} {w : World} (h : St M H w) : Tr M H w M H w :=
  ⟨h, Mem.le_refl _, rfl, rfl, rfl, Nat.le_refl _, fun _ _ _ => rfl, fun _ _ h => .inl h, fun _ h => .inr h⟩

theorem Tr.trans {M0 M M' : Mem} {H0 H H' : List Ent} {w0 w w' : World} (h : Tr M0 H0 w0 M H w) (k : Tr M H w M' H' w') : Tr M0 H0 w0 M' H' w' where
  st := k.st
  le := Mem.le_trans h.le k.le
  os := k.os.trans h.os
  tape := k.tape.trans h.tape
  output := k.output.trans h.output
  size := Nat.le_trans h.size k.size
  block := fun b hb hn => by
    have h1 := h.block b hb hn
    have hk : b ∉ keys H := fun hm => (h.ownNew b hm).elim (fun hc => absurd hb (by omega)) hn
    exact (k.block b (Nat.lt_of_lt_of_le hb h.size) hk).trans h1
  memNew := fun b o hb => by
    rcases k.memNew b o hb with hm | hm | hm
    · exact h.memNew b o hm
    · exact .inr (.inl (Nat.le_trans h.size hm))
    · rcases h.ownNew b hm with hc | hc
      · exact .inr (.inl hc)
      · exact .inr (.inr hc)
  ownNew := fun b hb => by
    rcases k.ownNew b hb with hm | hm
    · exact .inl (Nat.le_trans h.size hm)
    · exact h.ownNew b hm

theorem St.left {M : Mem} {H1 H2 : List Ent} {w : World} (h : St M (H1 ++ H2) w) : St M H1 w :=
  ⟨h.mem, fun b o hb => h.own b o (List.mem_append_left _ hb), by have := h.nodup; rw [keys_append] at this; exact (List.nodup_append.1 this).1⟩

/-- A call that was shown with H1 alone leaves H2 as it was. -/
theorem Tr.frame {M M' : Mem} {H1 H1' H2 : List Ent} {w w' : World} (hs : St M (H1 ++ H2) w) (h : Tr M H1 w M' H1' w') : Tr M (H1 ++ H2) w M' (H1' ++ H2) w' := by
  have hnd := hs.nodup
  rw [keys_append] at hnd
  obtain ⟨n1, n2, n3⟩ := List.nodup_append.1 hnd
  have h2 : ∀ b o, some (b, o) ∈ H2 → b ∉ keys H1 := fun b o hb hk => n3 b hk b (mem_keys.2 ⟨o, hb⟩) rfl
  refine ⟨⟨h.st.mem, fun b o hb => ?_, ?_⟩, h.le, h.os, h.tape, h.output, h.size, fun b hb hn => ?_, fun b o hb => ?_, fun b hb => ?_⟩
  · rcases List.mem_append.1 hb with hb | hb
    · exact h.st.own b o hb
    · obtain ⟨ho, hm⟩ := hs.own b o (List.mem_append_right _ hb)
      have hlt := lt_of_heap ho
      refine ⟨(h.block b hlt (h2 b o hb)).trans ho, ?_⟩
      cases hm' : M' b with
      | none => rfl
      | some o' =>
        rcases h.memNew b o' hm' with hc | hc | hc
        · rw [hm] at hc; cases hc
        · omega
        · exact absurd hc (h2 b o hb)
  · rw [keys_append]
    refine List.nodup_append.2 ⟨h.st.nodup, n2, fun x hx y hy e => ?_⟩
    subst e
    obtain ⟨o, ho⟩ := mem_keys.1 hy
    have hlt := lt_of_heap (hs.own x o (List.mem_append_right _ ho)).1
    rcases h.ownNew x hx with hc | hc
    · omega
    · exact h2 x o ho hc
  · exact h.block b hb (fun hk => hn (by rw [keys_append]; exact List.mem_append_left _ hk))
  · rcases h.memNew b o hb with hc | hc | hc
    · exact .inl hc
    · exact .inr (.inl hc)
    · exact .inr (.inr (by rw [keys_append]; exact List.mem_append_left _ hc))
  · rw [keys_append] at hb ⊢
    rcases List.mem_append.1 hb with hb | hb
    · rcases h.ownNew b hb with hc | hc
      · exact .inl hc
      · exact .inr (List.mem_append_left _ hc)
    · exact .inr (List.mem_append_right _ hb)

/-- The owned entries in another order. -/
theorem St.perm {M : Mem} {H H' : List Ent} {w : World} (h : St M H w) (p : H.Perm H') : St M H' w :=
  ⟨h.mem, fun b o hb => h.own b o (p.mem_iff.2 hb), by
    have : (keys H).Perm (keys H') := by
      clear h
      induction p with
      | nil => exact .refl _
      | cons e _ ih => rcases e with _ | ⟨b, o⟩ <;> simp [keys] <;> exact ih
      | swap e f l => rcases e with _ | ⟨b, o⟩ <;> rcases f with _ | ⟨c, q⟩ <;> simp [keys, List.Perm.swap]
      | trans _ _ ih1 ih2 => exact ih1.trans ih2
    exact this.nodup_iff.1 h.nodup⟩
theorem keys_perm {H H' : List Ent} (p : H.Perm H') : (keys H).Perm (keys H') := by
  induction p with
  | nil => exact .refl _
  | cons e _ ih => rcases e with _ | ⟨b, o⟩ <;> simp [keys] <;> exact ih
  | swap e f l => rcases e with _ | ⟨b, o⟩ <;> rcases f with _ | ⟨c, q⟩ <;> simp [keys, List.Perm.swap]
  | trans _ _ ih1 ih2 => exact ih1.trans ih2
theorem Tr.perm {M0 M : Mem} {H0 H H' : List Ent} {w0 w : World} (h : Tr M0 H0 w0 M H w) (p : H.Perm H') : Tr M0 H0 w0 M H' w :=
  ⟨h.st.perm p, h.le, h.os, h.tape, h.output, h.size, h.block, h.memNew, fun b hb => h.ownNew b ((keys_perm p).mem_iff.2 hb)⟩

/-- A fresh block. -/
theorem Tr.alloc {M0 M : Mem} {H0 H : List Ent} {w0 w : World} (h : Tr M0 H0 w0 M H w) (o : Obj) : Tr M0 H0 w0 M (some (w.heap.size, o) :: H) (w.alloc o) := by
  have hm : M w.heap.size = none := by
    cases e : M w.heap.size with
    | none => rfl
    | some x => have := lt_of_heap (h.st.mem _ _ e); omega
  have hk : w.heap.size ∉ keys H := fun hc => by
    obtain ⟨x, hx⟩ := mem_keys.1 hc
    have := lt_of_heap (h.st.own _ _ hx).1
    omega
  have old : ∀ b x, w.heap[b]? = some x → (w.alloc o).heap[b]? = some x := fun b x hb => by
    have := lt_of_heap hb
    show (w.heap.push o)[b]? = _
    rw [Array.getElem?_push, if_neg (by omega)]; exact hb
  refine ⟨⟨fun b x hb => old b x (h.st.mem b x hb), fun b x hb => ?_, ?_⟩, h.le, h.os, h.tape, h.output, Nat.le_trans h.size (by show _ ≤ (w.heap.push o).size; simp), fun b hb hn => ?_, h.memNew, fun b hb => ?_⟩
  · simp only [List.mem_cons, Option.some.injEq, Prod.mk.injEq] at hb
    rcases hb with ⟨rfl, rfl⟩ | hb
    · exact ⟨by show (w.heap.push _)[w.heap.size]? = _; simp, hm⟩
    · exact ⟨old b x (h.st.own b x hb).1, (h.st.own b x hb).2⟩
  · simp only [keys, List.nodup_cons]
    exact ⟨hk, h.st.nodup⟩
  · rw [← h.block b hb hn]
    show (w.heap.push o)[b]? = _
    rw [Array.getElem?_push, if_neg (by have := h.size; omega)]
  · simp only [keys, List.mem_cons] at hb
    rcases hb with rfl | hb
    · exact .inl h.size
    · exact h.ownNew b hb

/-- The world but for the heap and the count of draws is the same. -/
structure Beside (w w' : World) : Prop where
  os : w'.os = w.os
  tape : w'.tape = w.tape
  output : w'.output = w.output

/-- One owned block turns. -/
theorem Tr.set {M0 M : Mem} {H0 H1 H2 : List Ent} {w0 w w' : World} {b : Nat} {o o' : Obj} (h : Tr M0 H0 w0 M (H1 ++ some (b, o) :: H2) w) (hb : Beside w w') (hh : w'.heap = w.heap.setIfInBounds b o') :
    Tr M0 H0 w0 M (H1 ++ some (b, o') :: H2) w' := by
  obtain ⟨ho, hm⟩ := h.st.own b o (by simp)
  have hlt := lt_of_heap ho
  have hkeys : keys (H1 ++ some (b, o') :: H2) = keys (H1 ++ some (b, o) :: H2) := by simp [keys_append, keys]
  have hnd := h.st.nodup
  have other : ∀ c, c ≠ b → w'.heap[c]? = w.heap[c]? := fun c hc => by rw [hh, Array.getElem?_setIfInBounds_ne (Ne.symm hc)]
  have hne : ∀ c x, (some (c, x) ∈ H1 ∨ some (c, x) ∈ H2) → c ≠ b := fun c x hc e => by
    subst e
    rw [keys_append] at hnd
    simp only [keys] at hnd
    obtain ⟨_, n2, n3⟩ := List.nodup_append.1 hnd
    rcases hc with hc | hc
    · exact n3 c (mem_keys.2 ⟨x, hc⟩) c (by simp) rfl
    · exact (List.nodup_cons.1 n2).1 (mem_keys.2 ⟨x, hc⟩)
  refine ⟨⟨fun c x hc => ?_, fun c x hc => ?_, by rw [hkeys]; exact hnd⟩, h.le, hb.os.trans h.os, hb.tape.trans h.tape, hb.output.trans h.output, by rw [hh]; simpa using h.size, fun c hc hn => ?_, h.memNew, by rw [hkeys]; exact h.ownNew⟩
  · have : c ≠ b := fun e => by subst e; rw [hm] at hc; cases hc
    rw [other c this]; exact h.st.mem c x hc
  · simp only [List.mem_append, List.mem_cons, Option.some.injEq, Prod.mk.injEq] at hc
    rcases hc with hc | ⟨rfl, rfl⟩ | hc
    · rw [other c (hne c x (.inl hc))]; exact h.st.own c x (by simp [hc])
    · exact ⟨by rw [hh]; simp [hlt], hm⟩
    · rw [other c (hne c x (.inr hc))]; exact h.st.own c x (by simp [hc])
  · by_cases e : c = b
    · subst e
      have := h.ownNew c (mem_keys.2 ⟨o, by simp⟩)
      rcases this with hx | hx
      · omega
      · exact absurd hx hn
    · rw [other c e]; exact h.block c hc hn

/-- Nothing of the heap turns. -/
theorem Tr.same {M0 M : Mem} {H0 H : List Ent} {w0 w w' : World} (h : Tr M0 H0 w0 M H w) (hb : Beside w w') (hh : w'.heap = w.heap) : Tr M0 H0 w0 M H w' :=
  ⟨⟨by rw [hh]; exact h.st.mem, by rw [hh]; exact h.st.own, h.st.nodup⟩, h.le, hb.os.trans h.os, hb.tape.trans h.tape, hb.output.trans h.output, by rw [hh]; exact h.size, by rw [hh]; exact h.block, h.memNew, h.ownNew⟩
theorem Tr.drew {M0 M : Mem} {H0 H : List Ent} {w0 w : World} (h : Tr M0 H0 w0 M H w) (k : Nat) : Tr M0 H0 w0 M H { w with drawn := k } := h.same ⟨rfl, rfl, rfl⟩ rfl

/-- An owned block is frozen. -/
theorem Tr.freeze {M0 M : Mem} {H0 H : List Ent} {w0 w : World} {b : Nat} {o : Obj} (h : Tr M0 H0 w0 M (some (b, o) :: H) w) : Tr M0 H0 w0 (M.add b o) H w := by
  obtain ⟨ho, hm⟩ := h.st.own b o (by simp)
  have hnd := h.st.nodup
  simp only [keys, List.nodup_cons] at hnd
  have hle : Mem.le M (M.add b o) := Mem.le_add o hm
  refine ⟨⟨fun c x hc => ?_, fun c x hc => ?_, hnd.2⟩, Mem.le_trans h.le hle, h.os, h.tape, h.output, h.size, h.block, fun c x hc => ?_, fun c hc => h.ownNew c (by simp [keys, hc])⟩
  · by_cases e : c = b
    · subst e; rw [Mem.add_same] at hc; cases hc; exact ho
    · rw [Mem.add_other M o e] at hc; exact h.st.mem c x hc
  · have hne : c ≠ b := fun e => by subst e; exact hnd.1 (mem_keys.2 ⟨x, hc⟩)
    exact ⟨(h.st.own c x (by simp [hc])).1, by rw [Mem.add_other M o hne]; exact (h.st.own c x (by simp [hc])).2⟩
  · by_cases e : c = b
    · subst e
      have := h.ownNew c (by simp [keys])
      exact .inr this
    · rw [Mem.add_other M o e] at hc; exact h.memNew c x hc

/-- An entry is given up. -/
theorem Tr.drop {M0 M : Mem} {H0 H : List Ent} {w0 w : World} {e : Ent} (h : Tr M0 H0 w0 M (e :: H) w) : Tr M0 H0 w0 M H w :=
  ⟨⟨h.st.mem, fun b o hb => h.st.own b o (by simp [hb]), by
      have := h.st.nodup
      rcases e with _ | ⟨b, o⟩
      · exact this
      · simp only [keys, List.nodup_cons] at this; exact this.2⟩, h.le, h.os, h.tape, h.output, h.size, h.block, h.memNew,
    fun b hb => h.ownNew b (by rcases e with _ | ⟨c, o⟩ <;> simp [keys, hb])⟩
theorem Tr.blank {M0 M : Mem} {H0 H : List Ent} {w0 w : World} (h : Tr M0 H0 w0 M H w) : Tr M0 H0 w0 M (none :: H) w :=
  ⟨⟨h.st.mem, fun b o hb => h.st.own b o (by simpa using hb), h.st.nodup⟩, h.le, h.os, h.tape, h.output, h.size, h.block, h.memNew, h.ownNew⟩

/-- What may be read. -/
structure Rd (M : Mem) (H : List Ent) (w : World) : Prop where
  mem : ∀ b o, M b = some o → w.heap[b]? = some o
  own : ∀ b o, some (b, o) ∈ H → w.heap[b]? = some o
theorem St.rd {M : Mem} {H : List Ent} {w : World} (h : St M H w) : Rd M H w := ⟨h.mem, fun b o hb => (h.own b o hb).1⟩
theorem Tr.rd {M0 M : Mem} {H0 H : List Ent} {w0 w : World} (h : Tr M0 H0 w0 M H w) : Rd M H w := h.st.rd
def Incl (A B : List Ent) : Prop := ∀ b o, some (b, o) ∈ A → some (b, o) ∈ B
theorem Rd.mono {M M' : Mem} {H H' : List Ent} {w : World} (h : Rd M' H' w) (hm : Mem.le M M') (hh : Incl H H') : Rd M H w := ⟨fun b o hb => h.mem b o (hm b o hb), fun b o hb => h.own b o (hh b o hb)⟩
/-- A block that can be read: frozen, or owned. -/
def Held (M : Mem) (H : List Ent) (b : Nat) (o : Obj) : Prop := M b = some o ∨ some (b, o) ∈ H
theorem Held.heap {M : Mem} {H : List Ent} {w : World} {b : Nat} {o : Obj} (h : Held M H b o) (s : Rd M H w) : w.heap[b]? = some o := by
  rcases h with h | h
  · exact s.mem b o h
  · exact s.own b o h
theorem Held.le {M M' : Mem} {H : List Ent} {b : Nat} {o : Obj} (h : M b = some o) (hl : Mem.le M M') : Held M' H b o := .inl (hl b o h)

/-! ### Calls -/
/-- What a function does, told over whatever is frozen (M) and with what it owns (H). -/
def Does (P : Program) (f : FuncId) (args : Array Value) (M : Mem) (H : List Ent) (post : Value → Mem → List Ent → Prop) : Prop :=
  ∀ w, St M H w → Calls P f args w fun e w' => ∃ v M' H', e = .returned v ∧ Tr M H w M' H' w' ∧ post v M' H'
theorem Does.mono {P : Program} {f : FuncId} {args : Array Value} {M : Mem} {H : List Ent} {post post' : Value → Mem → List Ent → Prop} (h : Does P f args M H post) (hp : ∀ v M' H', Mem.le M M' → post v M' H' → post' v M' H') :
    Does P f args M H post' := fun w s => (h w s).mono fun e w' ⟨v, M', H', he, ht, hq⟩ => ⟨v, M', H', he, ht, hp v M' H' ht.le hq⟩

/-- Where a walk stands. -/
structure Cx where
  P : Program
  N : Nat
  ro : Option (Nat × Loop)
  M0 : Mem
  H0 : List Ent
  w0 : World
def Cx.F (C : Cx) : Fence := { Fence.wide with round := C.ro.map (·.1) }

abbrev Post := Exit → Act → World → Prop
/-- The marks of loops over functions that an activation has behind it, and the blocks that they name. -/
def marks (D : List Nat) : List Deferred := D.map fun d => { target := .collected d, args := #[] }
def ments (D : List Nat) : List Ent := D.map fun d => some (d, .deferred (some []))
/-- What a frame holds beside: an activation its marks; a round its loop's record. -/
def Side : Option (Nat × Loop) → List Deferred → List Ent → Prop
  | none, ds, X => ∃ D, ds = marks D ∧ X = ments D
  | some (l, r), ds, X => ds = [] ∧ X = [some (l, .loop r)]
structure Here (C : Cx) (M : Mem) (H : List Ent) (l : Slots) (a : Act) (w : World) : Prop where
  env : Env C.N l a
  out : ∃ X, Side C.ro a.defers X ∧ Tr C.M0 C.H0 C.w0 M (H ++ X) w

section here
variable {C : Cx} {M M' : Mem} {H H' : List Ent} {l l' : Slots} {a : Act} {w w' : World}
theorem Here.st (h : Here C M H l a w) : St M H w := let ⟨_, _, ht⟩ := h.out; ht.st.left
theorem Here.rd (h : Here C M H l a w) : Rd M H w := h.st.rd
theorem Here.step (h : Here C M H l a w) (ht : Tr M H w M' H' w') : Here C M' H' l a w' :=
  ⟨h.env, let ⟨X, hx, h0⟩ := h.out; ⟨X, hx, h0.trans (ht.frame h0.st)⟩⟩
theorem Here.ghost (h : Here C M H l a w) (ht : Tr M H w M H w → Tr M H w M' H' w) : Here C M' H' l a w := h.step (ht (.refl h.st))
theorem Here.put (h : Here C M H l a w) (d : Nat) (v : Value) (hd : d < C.N) : Here C M H ((d, v) :: l) (a.put (some d) v) w := ⟨h.env.put d v hd, h.out⟩
theorem Here.sub (h : Here C M H l a w) (hs : Sub l l') : Here C M H l' a w := ⟨h.env.sub hs, h.out⟩
theorem Here.drew (h : Here C M H l a w) (k : Nat) : Here C M H l a { w with drawn := k } := h.step ((Tr.refl h.st).drew k)
theorem Here.ag (h : Here C M H l a w) : Ag l a.eval := h.env.ag
end here

/-- An operation within an activation or a round; u: told without the fence. -/
def opW (u : Bool) (C : Cx) (o : Oper) (a : Act) (w : World) (next : Act → World → Prop) (Q : Post) : Prop :=
  match u with
  | true => o.wp C.P a w next Q ∨ (o.asks C.P a w ∧ LetsOut Q)
  | false => o.wpIn C.F 0 C.P a w next Q
def opsW (u : Bool) (C : Cx) (ops : Array Oper) (Q : Post) : List Oper → Act → World → Prop
  | [], a, w => Q .normal a w
  | o :: rest, a, w => if Region.wanted o (yielded ops a.tmps) then opW u C o a w (opsW u C ops Q rest) Q else opsW u C ops Q rest (a.put o.dst undef) w
theorem fn_wide (C : Cx) (f : FuncId) : C.F.fn f := trivial
theorem opW_in {C : Cx} {o : Oper} {a : Act} {w : World} {next : Act → World → Prop} {Q : Post} {r : Result Next} (hr : (execOp a.eval o).run C.P w = r) (hd : ∀ d w', r ≠ .ok (.defer d) w') (hh : ∃ n w', r = .ok n w') (h : o.uponIn C.F 0 C.P a next Q r) : opW false C o a w next Q := by
  refine ⟨fun f _ => fn_wide C f, ?_⟩
  rw [Oper.semAt_eq, hr]
  · exact h
  · intro c hc
    obtain ⟨n, w', rfl⟩ := hh
    simp only [execOp, hc, Sem.run_bind] at hr
    cases hq : (resolve a.eval c o.type).run C.P w with
    | ok d w2 => simp [hq, Sem.run_pure] at hr; exact hd d w' (by rw [← hr.1])
    | halt x w2 => simp [hq] at hr
theorem opW_val {u : Bool} {C : Cx} {o : Oper} {a : Act} {w w' : World} {v : Value} {next : Act → World → Prop} {Q : Post} (hr : (execOp a.eval o).run C.P w = .ok (.value v) w') (h : next (a.put o.dst v) w') : opW u C o a w next Q := by
  cases u with
  | true => exact .inl (by simp only [Oper.wp, hr, Oper.upon]; exact h)
  | false => exact opW_in hr (fun d w' e => by cases e) ⟨_, _, rfl⟩ h
theorem opW_skip {u : Bool} {C : Cx} {o : Oper} {a : Act} {w w' : World} {next : Act → World → Prop} {Q : Post} (hr : (execOp a.eval o).run C.P w = .ok .skip w') (h : next (a.put o.dst undef) w') : opW u C o a w next Q := by
  cases u with
  | true => exact .inl (by simp only [Oper.wp, hr, Oper.upon]; exact h)
  | false => exact opW_in hr (fun d w' e => by cases e) ⟨_, _, rfl⟩ h
theorem callsIn_any {C : Cx} {n : Nat} {f : FuncId} {args : Array Value} {w : World} {R : Ending → World → Prop} (h : Calls C.P f args w R) : CallsIn C.F n C.P f args w R :=
  show CallsIn Fence.wide n C.P f args w R from callsIn_wide.2 h
theorem opW_enter {u : Bool} {C : Cx} {o : Oper} {a : Act} {w w' : World} {f : FuncId} {args : Array Value} {next : Act → World → Prop} {Q : Post} (hr : (execOp a.eval o).run C.P w = .ok (.enter f args) w')
    (h : Calls C.P f args w' fun e w'' => ∃ v, e = .returned v ∧ next (a.put o.dst v) w'') : opW u C o a w next Q := by
  cases u with
  | true => exact .inl (by simp only [Oper.wp, hr, Oper.upon]; exact h.mono fun e w'' ⟨v, he, hn⟩ => by subst he; exact hn)
  | false =>
    refine opW_in hr (fun d w' e => by cases e) ⟨_, _, rfl⟩ ?_
    rw [Oper.uponIn_enter]
    refine ⟨fun he => (by simp [Cx.F, Fence.wide] at he), CallsIn.mono (callsIn_any h) fun e w'' hh => ?_⟩
    obtain ⟨v, he, hn⟩ := hh
    subst he
    exact hn

/-- From here on, in whatever frame and world that are as told. -/
def Ops (u : Bool) (C : Cx) (Q : Post) (ops : Array Oper) (rest : List Oper) (M : Mem) (H : List Ent) (l : Slots) : Prop :=
  ∀ a w, Here C M H l a w → opsW u C ops Q rest a w
def Cd (C : Cx) (Q : Post) (c : Code) (M : Mem) (H : List Ent) (l : Slots) : Prop :=
  ∀ a w, Here C M H l a w → c.wpIn C.F 0 C.P Q a w
def Ex (C : Cx) (Q : Post) (e : Exit) (M : Mem) (H : List Ent) (l : Slots) : Prop :=
  ∀ a w, Here C M H l a w → Q e a w

section code
variable {u : Bool} {C : Cx} {Q : Post} {M : Mem} {H : List Ent} {l : Slots}
theorem Cd.seq {x y : Code} (h : Cd C (Exit.then (y.wpIn C.F 0 C.P Q) Q) x M H l) : Cd C Q (.seq x y) M H l := fun a w ha => wpIn_seq (h a w ha)
theorem Cd.skip (h : Ex C Q .normal M H l) : Cd C Q .skip M H l := fun a w ha => wpIn_skip (h a w ha)
theorem Cd.label {n : Nat} (h : Ex C Q .normal M H l) : Cd C Q (.label n) M H l := fun a w ha => wpIn_label (h a w ha)
theorem Cd.exit {id : Nat} (h : Ex C Q (.exit id) M H l) : Cd C Q (.exit id) M H l := fun a w ha => wpIn_exit (h a w ha)
theorem Cd.ret (h : Ex C Q .ret M H l) : Cd C Q .ret M H l := fun a w ha => wpIn_ret (h a w ha)
theorem Cd.block {id : Nat} {c : Code} (h : Cd C (Exit.inBlock id Q) c M H l) : Cd C Q (.block id c) M H l := fun a w ha => wpIn_block (h a w ha)
theorem Cd.yes {x : Operand} {c d : Code} {t : Bool} (hx : ev l x = some (.bool t)) (ht : t = true) (h : Cd C Q c M H l) : Cd C Q (.cond x c d) M H l :=
  fun a w ha => wpIn_cond_true (by rw [ha.ag x _ hx, ht]) (h a w ha)
theorem Cd.no {x : Operand} {c d : Code} {t : Bool} (hx : ev l x = some (.bool t)) (ht : t = false) (h : Cd C Q d M H l) : Cd C Q (.cond x c d) M H l :=
  fun a w ha => wpIn_cond_false (by rw [ha.ag x _ hx, ht]) (h a w ha)
theorem opsW_ops {C : Cx} {ops : Array Oper} {Q : Post} : ∀ (rest : List Oper) (k : Nat), (∀ j, rest[j]? = ops[k + j]?) → ∀ a w, opsW false C ops Q rest a w → wpOpsIn C.F 0 C.P ops Q (List.range' k rest.length) a w
  | [], _, _, _, _, h => h
  | o :: rest, k, hk, a, w, h => by
    have h0 := hk 0
    simp only [List.getElem?_cons_zero, Nat.add_zero] at h0
    rw [List.length_cons, List.range'_succ, wpOpsIn_cons]
    unfold wpOpIn
    simp only [← h0]
    have ih := opsW_ops (C := C) (ops := ops) (Q := Q) rest (k + 1) (fun j => by have := hk (j + 1); rw [List.getElem?_cons_succ] at this; rw [this]; congr 1; omega)
    simp only [opsW] at h
    split
    · rename_i hw
      rw [if_pos hw] at h
      exact Oper.wpIn_mono (fun a w hh => ih a w hh) h
    · rename_i hw
      rw [if_neg hw] at h
      exact ⟨fun f _ => fn_wide C f, ih _ _ h⟩
theorem Cd.region {id : Nat} {L : List Oper} (h : Ops false C Q L.toArray L M H l) : Cd C Q (.region id L.toArray false) M H l :=
  fun a w ha => wpIn_region (by have := opsW_ops L 0 (fun j => by simp) a w (h a w ha); rw [List.range_eq_range']; simpa using this)
theorem Ops.nil {ops : Array Oper} (h : Ex C Q .normal M H l) : Ops u C Q ops [] M H l := fun a w ha => h a w ha
/-- A loop, at the head of a round. -/
def LoopAt (C : Cx) (c : Code) (Q : Post) (a : Act) (w : World) : Prop :=
  ∀ (b : Frame) (k : List Item) (cs : List Frame), b.roundOf = C.ro.map (·.1) → ∃ e a' w', Q e a' w' ∧ ArrivesIn (Machine.fenced C.P C.F) C.P (lone (b.atR a (.code c :: .inLoop c :: k)) cs w) b k cs e a' w'
def Lp (C : Cx) (Q : Post) (c : Code) (M : Mem) (H : List Ent) (l : Slots) : Prop :=
  ∀ a w, Here C M H l a w → LoopAt C c Q a w
theorem room_any (C : Cx) (n : Nat) : C.F.room n := fun _ h => by simp [Cx.F, Fence.wide] at h
theorem Cd.loop {c : Code} (h : Lp C Q c M H l) : Cd C Q (.loop c) M H l := by
  intro a w ha b k cs hro hb hr
  obtain ⟨e, a₁, w₁, hq, harr⟩ := h a w ha b k cs hro
  exact ⟨e, a₁, w₁, hq, .of_steps (.one (fenced_calm hb hr rfl) stepR_loop) harr⟩
theorem Lp.round {c : Code} (h : Cd C (Exit.then (LoopAt C c Q) Q) c M H l) : Lp C Q c M H l := by
  intro a w ha b k cs hro
  obtain ⟨e, a₁, w₁, hq, harr⟩ := h a w ha b (.inLoop c :: k) cs hro trivial (room_any C _)
  cases e with
  | normal =>
    obtain ⟨e₂, a₂, w₂, hq₂, harr₂⟩ := hq b k cs hro
    exact ⟨e₂, a₂, w₂, hq₂, .of_steps (StepsIn.trans harr (.one (fenced_calm (F := C.F) (n := 0) trivial (room_any C _) rfl) stepR_inLoop)) harr₂⟩
  | exit id => exact ⟨_, a₁, w₁, hq, .pass (x := .inLoop c) rfl (fun _ _ => .inl (by simp)) harr⟩
  | goto l => exact ⟨_, a₁, w₁, hq, .pass (x := .inLoop c) rfl (fun _ _ => .inl (by simp)) harr⟩
  | ret => exact ⟨_, a₁, w₁, hq, .pass (x := .inLoop c) rfl (fun _ _ => .inl (by simp)) harr⟩
  | panic ch => exact ⟨_, a₁, w₁, hq, .pass (x := .inLoop c) rfl (fun _ _ => .inl (by simp)) harr⟩
  | outgrown => exact ⟨_, a₁, w₁, hq, .pass (x := .inLoop c) rfl (fun _ _ => .inl (by simp)) harr⟩
/-- The next round. -/
theorem Ex.again {c : Code} {Q' : Post} (h : Lp C Q c M H l) : Ex C (Exit.then (LoopAt C c Q) Q') .normal M H l := h
/-- What comes next. -/
theorem Ex.next {y : Code} {Q' : Post} (h : Cd C Q y M H l) : Ex C (Exit.then (y.wpIn C.F 0 C.P Q) Q') .normal M H l := h
theorem Ex.blockN {id : Nat} (h : Ex C Q .normal M H l) : Ex C (Exit.inBlock id Q) .normal M H l := h
theorem Ex.blockE {id : Nat} (h : Ex C Q .normal M H l) : Ex C (Exit.inBlock id Q) (.exit id) M H l := fun a w ha => by
  show Exit.inBlock id Q (.exit id) a w
  simp only [Exit.inBlock, if_true]; exact h a w ha
theorem Ex.blockO {id j : Nat} (hne : Nat.beq j id = false) (h : Ex C Q (.exit j) M H l) : Ex C (Exit.inBlock id Q) (.exit j) M H l := fun a w ha => by
  have : j ≠ id := fun e => by subst e; simp at hne
  simp only [Exit.inBlock, this, if_false]; exact h a w ha
theorem Ex.blockR {id : Nat} (h : Ex C Q .ret M H l) : Ex C (Exit.inBlock id Q) .ret M H l := h
theorem Ex.thenE {K : Act → World → Prop} {j : Nat} (h : Ex C Q (.exit j) M H l) : Ex C (Exit.then K Q) (.exit j) M H l := h
theorem Ex.thenR {K : Act → World → Prop} (h : Ex C Q .ret M H l) : Ex C (Exit.then K Q) .ret M H l := h
theorem Ex.sub {e : Exit} {l' : Slots} (hs : Sub l l') (h : Ex C Q e M H l') : Ex C Q e M H l := fun a w ha => h a w (ha.sub hs)
theorem Cd.sub {c : Code} {l' : Slots} (hs : Sub l l') (h : Cd C Q c M H l') : Cd C Q c M H l := fun a w ha => h a w (ha.sub hs)
theorem Lp.sub {c : Code} {l' : Slots} (hs : Sub l l') (h : Lp C Q c M H l') : Lp C Q c M H l := fun a w ha => h a w (ha.sub hs)
theorem Ops.sub {ops : Array Oper} {rest : List Oper} {l' : Slots} (hs : Sub l l') (h : Ops u C Q ops rest M H l') : Ops u C Q ops rest M H l := fun a w ha => h a w (ha.sub hs)
/-- A cut: a piece of code, and what holds behind it. -/
theorem Cd.cut {c : Code} {Q1 : Post} (h1 : Cd C Q1 c M H l) (h2 : ∀ e a w, Q1 e a w → Q e a w) : Cd C Q c M H l := fun a w ha => wpIn_mono (h1 a w ha) h2
end code
end Go.Proofs.Ytjbfolnnepjidaa.Tw
