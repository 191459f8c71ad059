/-
  Struct values and literal slices, for the generated walks of this claim.
-/
import Derived.Test.YtjbfolnnepjidaaCall
set_option linter.unusedVariables false
set_option linter.unusedSimpArgs false
namespace Go.Proofs.Ytjbfolnnepjidaa.Tw
open Go

/-- A struct type's zero value, and where its fields lie. -/
structure Bld (P : Program) (T : TypeId) (z : Value) (pl : List (Nat × Nat)) : Prop where
  out : ∃ fs : Array Field, P.underlying T = some (.struct fs) ∧ (P.info? T).bind (·.zero) = some z ∧ (fs.toList.mapM fun f => (P.info? f.type).map fun i => (f.offset, i.size)) = some pl
def fillL (pl : List (Nat × Nat)) : List Value → List (Nat × Value) → Option (List Value)
  | cs, [] => some cs
  | cs, (i, v) :: rest => match pl[i]? with
    | none => none
    | some (off, size) => if v.cells.toList.length = size ∧ off + size ≤ cs.length then fillL pl (cs.take off ++ (v.cells.toList ++ cs.drop (off + v.cells.toList.length))) rest else none
def EvP (l : Slots) : List (Nat × Operand) → List (Nat × Value) → Prop
  | [], [] => True
  | (i, x) :: xs, (j, v) :: vs => i = j ∧ ev l x = some v ∧ EvP l xs vs
  | _, _ => False
theorem EvP.map {l : Slots} {ρ : Operand → Value} (ha : Ag l ρ) : ∀ {xs : List (Nat × Operand)} {vs : List (Nat × Value)}, EvP l xs vs → (xs.map fun (i, x) => (i, ρ x)) = vs
  | [], [], _ => rfl
  | (i, x) :: xs, (j, v) :: vs, h => by
    obtain ⟨rfl, h1, h2⟩ := h
    rw [List.map_cons, EvP.map ha h2]
    simp [ha x v h1]
  | [], _ :: _, h => h.elim
  | _ :: _, [], h => h.elim
theorem fill_put (cs : Array Value) (off : Nat) (v : Value) (h : off + v.cells.size ≤ cs.size) :
    v.cells.zipIdx.foldl (fun cs (c, j) => cs.setIfInBounds (off + j) c) cs = (cs.toList.take off ++ (v.cells.toList ++ cs.toList.drop (off + v.cells.toList.length))).toArray := by
  rw [← Array.foldl_toList, Array.toList_zipIdx]
  obtain ⟨g1, g2⟩ := Go.Great.foldl_set off v.cells.toList 0 cs
  have e : ∀ (l : List (Value × Nat)) (cs : Array Value), List.foldl (fun cs (x : Value × Nat) => match x with | (c, j) => cs.setIfInBounds (off + j) c) cs l = List.foldl (fun cs (x : Value × Nat) => cs.setIfInBounds (off + x.2) x.1) cs l := fun l cs => rfl
  rw [e]
  apply Array.ext_getElem?
  intro k
  rw [g2 k]
  simp only [List.getElem?_toArray]
  by_cases h1 : k < off
  · rw [if_neg (by omega), List.getElem?_append_left (by simp; omega), List.getElem?_take_of_lt h1]; simp
  · by_cases h2 : k < off + v.cells.toList.length
    · rw [if_pos (by simp at h2 ⊢; omega), List.getElem?_append_right (by simp; omega)]
      have e1 : k - (List.take off cs.toList).length = k - off := by simp; omega
      rw [e1, List.getElem?_append_left (by omega)]
      simp
    · rw [if_neg (by omega), List.getElem?_append_right (by simp; omega)]
      have e1 : k - (List.take off cs.toList).length = k - off := by simp; omega
      rw [e1, List.getElem?_append_right (by omega), List.getElem?_drop]
      have e2 : off + v.cells.toList.length + (k - off - v.cells.toList.length) = k := by omega
      rw [e2]; simp
theorem fill_eq (pl : List (Nat × Nat)) : ∀ (vs : List (Nat × Value)) (cs : List Value), Instr.fill (pl.toArray[·]?) cs.toArray vs = (fillL pl cs vs).map (·.toArray)
  | [], cs => rfl
  | (i, v) :: rest, cs => by
    unfold Instr.fill fillL
    have e0 : pl.toArray[i]? = pl[i]? := by simp
    rw [e0]
    cases hp : pl[i]? with
    | none => rfl
    | some p =>
      obtain ⟨off, size⟩ := p
      by_cases h : v.cells.toList.length = size ∧ off + size ≤ cs.length
      · have h1 : v.cells.size = size := by simpa using h.1
        have h2 : (v.cells.size ≠ size || off + v.cells.size > cs.toArray.size) = false := by simp; omega
        show (if _ then none else _) = _
        rw [if_neg (by rw [h2]; simp), fill_put cs.toArray off v (by simp; omega)]
        show _ = (if _ then _ else _ : Option (List Value)).map _
        rw [if_pos h, ← fill_eq pl rest]
      · have h2 : (v.cells.size ≠ size || off + v.cells.size > cs.toArray.size) = true := by
          simp only [Bool.or_eq_true, decide_eq_true_eq, List.size_toArray]
          simp only [Array.length_toList] at h
          omega
        show (if _ then none else _) = (if _ then _ else _ : Option (List Value)).map _
        rw [if_pos h2, if_neg h]
        rfl
theorem run_places {P : Program} (w : World) : ∀ (fs : List Field) (pl : List (Nat × Nat)), (fs.mapM fun f => (P.info? f.type).map fun i => (f.offset, i.size)) = some pl →
    (fs.mapM (m := Sem) fun f => do pure (f.offset, ← sizeOf f.type)).run P w = .ok pl w
  | [], pl, h => by simp at h; subst h; simp
  | f :: fs, pl, h => by
    simp only [List.mapM_cons] at h
    cases hq : P.info? f.type with
    | none => simp [hq] at h
    | some i =>
      cases hr : (fs.mapM fun f => (P.info? f.type).map fun i => (f.offset, i.size)) with
      | none => simp [hq, hr] at h
      | some rest =>
        simp [hq, hr] at h
        subst h
        have ih := run_places w fs rest hr
        have hsz : (sizeOf f.type).run P w = .ok i.size w := by simp [sizeOf, typeInfo, Sem.run_bind, hq]
        simp only [List.mapM_cons, Sem.run_bind, hsz, Result.andThen_ok, Sem.run_pure, ih]
section
variable {P : Program} {J : World → Prop} {o : Oper} {l : Slots}
theorem run_build {T : TypeId} {z : Value} {pl : List (Nat × Nat)} {ps : List (Nat × Operand)} {vs : List (Nat × Value)} (cells : List Value) (ho : o.op = .build T ps.toArray) (hB : Bld P T z pl) (hv : EvP l ps vs) (hf : fillL pl z.cells.toList vs = some cells) :
    RunV P J o l (.agg cells.toArray) := fun ρ w ha _ => by
  obtain ⟨fs, h1, h2, h3⟩ := hB
  have h4 := run_places (P := P) w fs.toList pl h3
  have hm := hv.map ha
  cases hq : P.info? T with
  | none => simp [hq] at h2
  | some i =>
    have hz : i.zero = some z := by simpa [hq] using h2
    have hzr : (zeroValue T).run P w = .ok z w := by simp [zeroValue, typeInfo, Sem.run_bind, hq, hz]
    have hpl : (fs.mapM (m := Sem) fun f => do pure (f.offset, ← sizeOf f.type)).run P w = .ok pl.toArray w := by
      rw [← Array.toArray_toList (xs := fs), List.mapM_toArray, map_eq_pure_bind, Sem.run_bind, h4]; rfl
    have hfill : Instr.fill (pl.toArray[·]?) z.cells vs = some cells.toArray := by
      have := fill_eq pl vs z.cells.toList
      rw [hf] at this
      simpa using this
    simp only [execOp, ho, Instr.build, Sem.run_bind, hzr, Result.andThen_ok, run_underlying h1, hpl]
    have e : (Array.map (fun x : Nat × Operand => match x with | (i, x) => (i, ρ x)) ps.toArray).toList = vs := by simpa using hm
    rw [e, hfill]
    rfl
end
section
variable {C : Cx} {o : Oper} {l : Slots} {M : Mem} {H : List Ent}
/-- A slice of one element. -/
theorem run_lit1 {T e n by_ : Nat} {z : Value} {x : Operand} {v : Value} (ho : o.op = .buildSlice T 1 #[(0, x)]) (hT : Sl C.P T e n) (hE : El C.P e n by_ z) (hx : ev l x = some v) (hn : v.cells.size = n) (hp : Nat.blt 0 n = true) (hs : Nat.ble n 16777216 = true) :
    RunR C o M H l (fun v' M' H' => ∃ b, v' = .slice (some ⟨b, 0, none⟩) 1 1 ∧ M = M' ∧ H' = some (b, .cells v.cells e (0, 0)) :: H) := fun ρ w ha ht => by
  obtain ⟨u, _⟩ := hT
  obtain ⟨i, q1, q2, _, q3, _⟩ := hE.get
  have hp' : 0 < n := by simpa using hp
  have hs' : n ≤ 16777216 := by simpa using hs
  have hfill : Instr.fill (fun k => some (k * i.size, i.size)) ((Array.range (1 * i.size)).map (z.cells[· % z.cells.size]!)) [(0, v)] = some v.cells := by
    unfold Instr.fill Instr.fill
    have h2 : (v.cells.size ≠ i.size || 0 * i.size + v.cells.size > ((Array.range (1 * i.size)).map (z.cells[· % z.cells.size]!)).size) = false := by simp [q2, hn]
    simp only [h2]
    simp only [Bool.false_eq_true, if_false, Option.some.injEq]
    rw [fill_put _ _ _ (by simp [q2, hn])]
    apply Array.ext_getElem?
    intro k
    have e0 : List.drop (0 * i.size + v.cells.toList.length) ((Array.range (1 * i.size)).map (z.cells[· % z.cells.size]!)).toList = [] := List.drop_eq_nil_of_le (by simp [q2, hn])
    rw [e0]
    simp
  have hr := run_buildSlice (P := C.P) w T e 1 #[(0, v)] v.cells i z u q1 q3 (by rw [q2]; omega) (by rw [q2]; omega) hfill
  exact ⟨_, _, M, _, by simp [execOp, ho, ha x _ hx, Sem.run_bind, hr], ht.alloc _, Mem.le_refl _, _, rfl, rfl, rfl⟩
theorem range0 : Array.range 0 = #[] := by simp [Array.range]
/-- A slice of none. -/
theorem run_lit0 {T e n by_ : Nat} {z : Value} (ho : o.op = .buildSlice T 0 #[]) (hT : Sl C.P T e n) (hE : El C.P e n by_ z) : RunR C o M H l (fun v' M' H' => ∃ b, v' = .slice (some ⟨b, 0, none⟩) 0 0 ∧ M = M' ∧ H' = some (b, .cells #[] e (0, 0)) :: H) := fun ρ w ha ht => by
  obtain ⟨u, _⟩ := hT
  obtain ⟨i, q1, q2, _, q3, _⟩ := hE.get
  exact ⟨_, _, M, _, by simp [execOp, ho, Instr.buildSlice, Sem.run_bind, run_underlying u, sizeOf, typeInfo, q1, Instr.fill, newRow, newObj, Sem.run, range0], ht.alloc _, Mem.le_refl _, _, rfl, rfl, rfl⟩
end
end Go.Proofs.Ytjbfolnnepjidaa.Tw
