/-
  The operations on memory of the generated walks of this claim.
-/
import Derived.Test.YtjbfolnnepjidaaSteps
import Derived.Great.FillDense
import Derived.Great.BuildSlice
import Derived.Laws.Append
import Derived.Laws.AppendOwn
set_option linter.unusedVariables false
set_option linter.unusedSimpArgs false
namespace Go.Proofs.Ytjbfolnnepjidaa.Tw
open Go

/-! ### Facts on types -/
structure Sz (P : Program) (T : TypeId) (n : Nat) : Prop where out : (P.info? T).map (·.size) = some n
structure One (P : Program) (T : TypeId) : Prop where out : ∃ d, P.underlying T = some d ∧ d.isRow = false
structure Rowy (P : Program) (T : TypeId) : Prop where out : ∃ d, P.underlying T = some d ∧ d.isRow = true
structure Fld (P : Program) (S f off : Nat) (n : Nat) : Prop where out : ∃ fs fld, P.underlying S = some (.struct fs) ∧ fs[f]? = some fld ∧ fld.offset = off ∧ (P.info? fld.type).map (·.size) = some (n + 1)
structure Sl (P : Program) (T e n : Nat) : Prop where out : P.underlying T = some (.slice e) ∧ (P.info? e).map (·.size) = some n
/-- An element type: its zero value, cells, bytes. -/
structure El (P : Program) (e n by_ : Nat) (z : Value) : Prop where
  out : (P.info? e).map (fun i => (i.size, i.bytes, i.zero)) = some (n, by_, some z)
  zs : z.cells.size = n
theorem El.get {P : Program} {e n by_ : Nat} {z : Value} (h : El P e n by_ z) : ∃ i, P.info? e = some i ∧ i.size = n ∧ i.bytes = by_ ∧ i.zero = some z ∧ z.cells.size = n := by
  obtain ⟨h, hz⟩ := h
  cases hq : P.info? e with
  | none => simp [hq] at h
  | some i => simp only [hq, Option.map_some, Option.some.injEq, Prod.mk.injEq] at h; exact ⟨i, rfl, h.1, h.2.1, h.2.2, hz⟩
structure Zr (P : Program) (T : TypeId) (z : Value) : Prop where out : (P.info? T).bind (·.zero) = some z

section
variable {P : Program} {o : Oper} {l : Slots} {M : Mem} {H : List Ent}

theorem run_isAgg_one {T : TypeId} (h : One P T) (w : World) : (isAgg T).run P w = .ok false w := by
  obtain ⟨d, h1, h2⟩ := h
  unfold isAgg
  rw [Sem.run_bind, run_underlying h1]
  cases d <;> simp_all
theorem Pt.range {p : Option Addr} {es : List Value} (h : Pt M H p es) {w : World} (hw : Rd M H w) : ∃ b o, p = some ⟨b, o, none⟩ ∧ w.rangeAt b o es := by
  obtain ⟨b, o, cs, t, fz, rfl, hh, ha⟩ := h
  refine ⟨b, o, rfl, fun j v hv => ?_⟩
  simp [World.cell?, hh.heap hw, ha j v hv]
theorem run_load {T : TypeId} {x : Operand} {p : Option Addr} {v : Value} (ho : o.op = .load T x) (hT : One P T) (hx : ev l x = some (.pointer p)) (hp : Pt M H p [v]) : RunV P (Rd M H) o l v := fun ρ w ha hw => by
  obtain ⟨b, q, rfl, hr⟩ := hp.range hw
  have hc := hr 0 v rfl
  simp only [Nat.add_zero] at hc
  simp [execOp, ho, ha x _ hx, Instr.loadAt, Instr.sureAddr, loadVar, Sem.run_bind, run_isAgg_one hT, load, Sem.run, hc]
theorem run_loadN {T n : Nat} {x : Operand} {p : Option Addr} {es : List Value} (ho : o.op = .load T x) (hT : Rowy P T) (hs : Sz P T n) (hx : ev l x = some (.pointer p)) (hp : Pt M H p es) (hn : es.length = n) : RunV P (Rd M H) o l (.agg es.toArray) := fun ρ w ha hw => by
  subst hn
  obtain ⟨b, q, rfl, hr⟩ := hp.range hw
  obtain ⟨d, h1, h2⟩ := hT
  simp [execOp, ho, ha x _ hx, Sem.run_bind, run_loadAt_mid w b q T es d hr h1 h2 hs.out]
theorem run_field {S f off n : Nat} {x : Operand} {p : Option Addr} {es : List Value} (ho : o.op = .fieldAddr S x f) (hf : Fld P S f off n) (hx : ev l x = some (.pointer p)) (hp : Pt M H p es) : RunV P (Rd M H) o l (.pointer (pa p off)) := fun ρ w ha hw => by
  obtain ⟨b, q, rfl, hr⟩ := hp.range hw
  obtain ⟨fs, fld, h1, h2, h3, h4⟩ := hf
  cases hq : P.info? fld.type with
  | none => simp [hq] at h4
  | some i =>
    have hs : i.size = n + 1 := by simpa [hq] using h4
    simp [execOp, ho, ha x _ hx, Instr.fieldAt, Sem.run_bind, run_underlying h1, h2, Instr.sureAddr, fieldPlace, sizeOf, typeInfo, hq, hs, h3, pa]
theorem run_idx {T e n : Nat} {x y : Operand} {a : Option Addr} {len c : Nat} {k : IntKind} {i : Int} (ho : o.op = .indexAddr T x y) (hT : Sl P T e n) (hx : ev l x = some (.slice a len c)) (hy : ev l y = some (.int k i)) (h0 : 0 ≤ i) (h1 : i < len) (hn : a ≠ none) :
    RunV P (Rd M H) o l (.pointer (pa a (i.toNat * n))) := fun ρ w ha hw => by
  obtain ⟨u1, u2⟩ := hT
  cases a with
  | none => exact absurd rfl hn
  | some a =>
    cases hq : P.info? e with
    | none => simp [hq] at u2
    | some q =>
      have hs : q.size = n := by simpa [hq] using u2
      simp [execOp, ho, ha x _ hx, ha y _ hy, Instr.indexAt, asIntOf, Sem.run_bind, run_underlying u1, h0, h1, sizeOf, typeInfo, hq, hs, pa]
/-- A part of a value. -/
theorem run_part {S f off n : Nat} {x : Operand} {cs : Array Value} {v : Value} {fs : Array Field} {fld : Field} (ho : o.op = .field S x f) (h1 : P.underlying S = some (.struct fs)) (h2 : fs[f]? = some fld) (hT : One P fld.type) (hx : ev l x = some (.agg cs)) (hv : cs[fld.offset]? = some v) :
    RunV P (Rd M H) o l v := fun ρ w ha hw => by
  simp [execOp, ho, ha x _ hx, Instr.field, Sem.run_bind, run_underlying h1, h2, asAgg, part, run_isAgg_one hT, hv]
/-- A slice of a slice. -/
theorem run_cut {T e n : Nat} {x : Operand} {lo hi : Option Operand} {a : Option Addr} {len c : Nat} {i j : Int} (ho : o.op = .slice T x lo hi none) (hT : Sl P T e n) (hx : ev l x = some (.slice a len c))
    (hlo : match lo with | some y => ∃ k, ev l y = some (.int k i) | none => i = 0) (hhi : match hi with | some y => ∃ k, ev l y = some (.int k j) | none => j = len) (h1 : 0 ≤ i) (h2 : i ≤ j) (h3 : j ≤ c) (hc : len ≤ c) :
    RunV P (Rd M H) o l (.slice (if c = i.toNat then a else pa a (i.toNat * n)) (j.toNat - i.toNat) (c - i.toNat)) := fun ρ w ha hw => by
  obtain ⟨u1, u2⟩ := hT
  cases hq : P.info? e with
  | none => simp [hq] at u2
  | some q =>
    have hs : q.size = n := by simpa [hq] using u2
    have hj : 0 ≤ j := by omega
    have e1 : i ≤ (j.toNat : Int) := by omega
    have e3 : max j 0 = j := by omega
    have e4 : (len : Int) ≤ c := by omega
    cases lo with
    | none =>
      simp only at hlo; subst hlo
      cases hi with
      | none =>
        simp only at hhi; subst hhi
        simp [execOp, ho, ha x _ hx, Instr.sliceAt, Instr.slice, Instr.sliceBounds, Sem.run_bind, run_underlying u1, sizeOf, typeInfo, hq, hs, pa]
      | some y =>
        obtain ⟨k, hy⟩ := hhi
        simp [execOp, ho, ha x _ hx, ha y _ hy, Instr.sliceAt, Instr.slice, Instr.sliceBounds, Instr.sliceBound, asIntOf, Sem.run_bind, run_underlying u1, hj, h3, sizeOf, typeInfo, hq, hs, pa]
    | some z =>
      obtain ⟨k', hz⟩ := hlo
      cases hi with
      | none =>
        simp only at hhi; subst hhi
        simp [execOp, ho, ha x _ hx, ha z _ hz, Instr.sliceAt, Instr.slice, Instr.sliceBounds, Instr.sliceBound, asIntOf, Sem.run_bind, run_underlying u1, h1, h2, sizeOf, typeInfo, hq, hs, pa]
      | some y =>
        obtain ⟨k, hy⟩ := hhi
        simp [execOp, ho, ha x _ hx, ha y _ hy, ha z _ hz, Instr.sliceAt, Instr.slice, Instr.sliceBounds, Instr.sliceBound, asIntOf, Sem.run_bind, run_underlying u1, hj, h3, h1, e1, e3, h2, sizeOf, typeInfo, hq, hs, pa]
end

section
variable {C : Cx} {o : Oper} {l : Slots} {M : Mem} {H : List Ent}
/-- What a fresh block is. -/
def New (o : Obj) (M : Mem) (H : List Ent) (v : Value) (M' : Mem) (H' : List Ent) : Prop := ∃ b, v = .pointer (some ⟨b, 0, none⟩) ∧ M = M' ∧ H' = some (b, o) :: H
theorem run_box {T : TypeId} {x : Operand} {v : Value} (ho : o.op = .box T x) (hx : ev l x = some v) : RunR C o M H l (New (.cells v.cells T) M H) := fun ρ w ha ht =>
  ⟨_, _, M, _, by simp [execOp, ho, ha x _ hx, Instr.box, newVar, newRow, Sem.run_bind, newObj, Sem.run], ht.alloc _, Mem.le_refl _, _, rfl, rfl, rfl⟩
theorem run_alloc {T : TypeId} {z : Value} (ho : o.op = .alloc T) (hz : Zr C.P T z) : RunR C o M H l (New (.cells z.cells T) M H) := fun ρ w ha ht => by
  obtain ⟨hz⟩ := hz
  cases hq : C.P.info? T with
  | none => simp [hq] at hz
  | some i =>
    have hi : i.zero = some z := by simpa [hq] using hz
    exact ⟨_, _, M, _, by simp [execOp, ho, Instr.alloc, zeroValue, typeInfo, hq, hi, newVar, newRow, Sem.run_bind, newObj, Sem.run], ht.alloc _, Mem.le_refl _, _, rfl, rfl, rfl⟩

theorem split_at {H : List Ent} {j : Nat} {e : Ent} (h : H[j]? = some e) : H = H.take j ++ e :: H.drop (j + 1) := by
  obtain ⟨hl, rfl⟩ := List.getElem?_eq_some_iff.1 h
  rw [← List.drop_eq_getElem_cons hl, List.take_append_drop]
theorem set_at {H : List Ent} {j : Nat} {e : Ent} (e' : Ent) (h : H[j]? = some e) : H.set j e' = H.take j ++ e' :: H.drop (j + 1) := by
  obtain ⟨hl, rfl⟩ := List.getElem?_eq_some_iff.1 h
  rw [List.set_eq_take_append_cons_drop, if_pos hl]
theorem Tr.setAt {M0 M : Mem} {H0 H : List Ent} {w0 w w' : World} {b j : Nat} {o o' : Obj} (h : Tr M0 H0 w0 M H w) (hj : H[j]? = some (some (b, o))) (hb : Beside w w') (hh : w'.heap = w.heap.setIfInBounds b o') :
    Tr M0 H0 w0 M (H.set j (some (b, o'))) w' := by
  rw [set_at _ hj]
  rw [split_at hj] at h
  exact h.set hb hh
theorem setRow_set (w : World) (g : Nat) (cs old : Array Value) (t : TypeId) (fz : Nat × Nat) (h : w.heap[g]? = some (.cells old t fz)) : (w.setRow g cs).heap = w.heap.setIfInBounds g (.cells cs t fz) := by
  apply Array.ext_getElem?
  intro k
  by_cases e : k = g
  · subst e
    rw [setRow_heap w k old cs t fz h]
    have := lt_of_heap h
    simp [this]
  · rw [setRow_other w g k cs e, Array.getElem?_setIfInBounds_ne (Ne.symm e)]
/-- What a block holds behind a store. -/
def put (cs : Array Value) (off : Nat) (es : List Value) : Array Value := (cs.toList.take off ++ es ++ cs.toList.drop (off + es.length)).toArray
theorem Tr.storeCells {M0 M : Mem} {H0 H : List Ent} {w0 w : World} {b j off : Nat} {cs : Array Value} {t : TypeId} {es : List Value} (h : Tr M0 H0 w0 M H w) (hj : H[j]? = some (some (b, .cells cs t (0, 0)))) (hl : off + es.length ≤ cs.size) (h1 : ∀ v ∈ es, v.oneCell' = true) (P : Program) :
    ∃ w', (storeCells ⟨b, off, none⟩ es).run P w = .ok () w' ∧ Tr M0 H0 w0 M (H.set j (some (b, .cells (put cs off es) t (0, 0)))) w' := by
  have hh := (h.st.own b _ (List.mem_of_getElem? hj)).1
  refine ⟨_, run_storeCells_at P b off t es 0 cs w hh (by simpa using hl) h1, h.setAt hj ⟨rfl, rfl, rfl⟩ ?_⟩
  rw [setRow_set w b _ cs t (0, 0) hh]
  simp [put]
theorem run_store {T n off : Nat} {x y : Operand} {b j : Nat} {cs : Array Value} {t : TypeId} {v : Value} (ho : o.op = .store T x y) (hs : Sz C.P T n) (hx : ev l x = some (.pointer (some ⟨b, off, none⟩))) (hy : ev l y = some v)
    (hj : H[j]? = some (some (b, .cells cs t (0, 0)))) (hn : v.cells.size = n) (hl : Nat.ble (off + n) cs.size = true) (h1 : v.cells.toList.all (·.oneCell') = true) : RunS C o M H l (H.set j (some (b, .cells (put cs off v.cells.toList) t (0, 0)))) := fun ρ w ha ht => by
  obtain ⟨w', h, ht'⟩ := ht.storeCells (off := off) (es := v.cells.toList) hj (by simp at hl ⊢; omega) (fun u hu => List.all_eq_true.1 h1 u hu) C.P
  refine ⟨w', ?_, ht'⟩
  obtain ⟨hs⟩ := hs
  cases hq : C.P.info? T with
  | none => simp [hq] at hs
  | some i =>
    have hi : i.size = n := by simpa [hq] using hs
    simp [execOp, ho, ha x _ hx, ha y _ hy, Instr.storeAt, Instr.sureAddr, storeVar, Sem.run_bind, sizeOf, typeInfo, hq, hi, hn, h]
end
end Go.Proofs.Ytjbfolnnepjidaa.Tw
