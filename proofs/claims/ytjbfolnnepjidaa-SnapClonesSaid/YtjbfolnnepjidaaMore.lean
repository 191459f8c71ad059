/-
  More operations for the generated walks of this claim: nil checks, function values, struct equality, bytes and strings.
-/
import Derived.Test.YtjbfolnnepjidaaRange
import Derived.Lib.AppendStr
import Derived.Laws.BytesArg
set_option linter.unusedVariables false
set_option linter.unusedSimpArgs false
namespace Go.Proofs.Ytjbfolnnepjidaa.Tw
open Go Go.Lib

section
variable {P : Program} {J : World → Prop} {o : Oper} {l : Slots} {M : Mem} {H : List Ent}
theorem run_nilCheckP {x : Operand} {a : Addr} {k : Nat} (ho : o.op = .nilCheck x) (hx : ev l x = some (.pointer (pa (some a) k))) : RunV P J o l (.pointer (pa (some a) k)) := fun ρ w ha _ => by
  simp [execOp, ho, ha x _ hx, Sem.run_bind, pa]
theorem run_makeFunc {f : FuncId} {xs : List Operand} {cs : List Value} (ho : o.op = .makeFunc (.func f) #[] xs.toArray) (hx : Evs l xs cs) : RunV P J o l (.func (.func f) #[] cs.toArray) := fun ρ w ha _ => by
  have hm := hx.map ha
  simp [execOp, ho, Instr.makeFunc, hm]

/-! ### Bytes and strings -/
theorem getD_of {xs : List Int} {i : Nat} {x : Int} (h : xs[i]? = some x) : xs.getD i 0 = x := by simp [List.getD, h]
theorem Rds.u8 {xs : List Int} {a : Option Addr} {n : Nat} {w : World} (h : Rds M H (eInt .u8) xs a n) (hw : Rd M H w) : xs = [] ∨ ∃ b q, a = some ⟨b, q, none⟩ ∧ ∀ i, i < n → w.cell? ⟨b, q + i, none⟩ = some (.int .u8 (xs.getD i 0)) := by
  rcases h.out with h0 | ⟨b, q, cs, t, fz, rfl, hh, hx⟩
  · exact .inl h0
  · refine .inr ⟨b, q, rfl, fun i hi => ?_⟩
    rw [h.len] at hi
    obtain ⟨es, e1, e2⟩ := hx i _ (List.getElem?_eq_getElem hi)
    have e3 : es = [.int .u8 xs[i]] := e1
    subst e3
    have := e2 0 _ rfl
    have en : (eInt .u8).n = 1 := rfl
    rw [en, Nat.mul_one, Nat.add_zero] at this
    simp [World.cell?, hh.heap hw, this, List.getD, List.getElem?_eq_getElem hi]
theorem run_bytesStr {S e T : Nat} {x : Operand} {xs : List Int} {a : Option Addr} {c : Nat} (ho : o.op = .convert S T x) (hx : ev l x = some (.slice a xs.length c)) (hS : P.underlying S = some (.slice e)) (he : P.underlying e = some (.int .u8)) (hT : P.underlying T = some .string)
    (hr : Rds M H (eInt .u8) xs a xs.length) : RunV P (Rd M H) o l (.string (strOfNums xs)) := fun ρ w ha hw => by
  have h1 : (convert S T (.slice a xs.length c)).run P w = .ok (.string (strOfNums xs)) w := by
    rcases hr.u8 hw with rfl | ⟨b, q, rfl, hc⟩
    · cases a with
      | none => rw [run_convert_bytes_nil w S e hS he _ _ T hT]; rfl
      | some a =>
        rw [run_convert_bytes_string w S T e _ _ _ hS he hT]
        simp [Conv.bytesToString, loadCells, loadCellsFrom]
        rfl
    · exact run_convert_bytes_arg w S e hS he b q _ c xs rfl hc T hT
  simp [execOp, ho, ha x _ hx, Sem.run_bind, h1]
def bytesOf (s : ByteArray) : List Int := s.data.toList.map fun b => (b.toNat : Int)
theorem bytesOf_len (s : ByteArray) : (bytesOf s).length = s.size := by simp [bytesOf]
theorem strCells_eq (s : ByteArray) : strCells s = (bytesOf s).map (Value.int .u8) := by
  simp [strCells, bytesOf]
end
theorem append_str {P : Program} {M0 M : Mem} {H0 H : List Ent} {w0 w : World} {T U ty e j : Nat} {xs : List Int} {a : Option Addr} {k c : Nat} {s : ByteArray} {ent : Ent} (ht : Tr M0 H0 w0 M H w)
    (hT : Sl P T e 1) (hU : P.underlying U = some .string) (hE : El P e 1 1 (.int .u8 0)) (hD : OSl M (eInt .u8) xs a k c e ent) (hj : H[j]? = some ent) (hlim : xs.length + s.size ≤ 4294967296) :
    ∃ v w' H', (Builtin.append_ #[T, U] ty #[.slice a k c, .string s]).run P w = .ok v w' ∧ Tr M0 H0 w0 M H' w' ∧ App M H (eInt .u8) (xs ++ bytesOf s) e j v M H' := by
  have hk := hD.len
  obtain ⟨u1, _⟩ := hT
  obtain ⟨i, q1, q2, q3, q4, q5⟩ := hE.get
  have rep : ∀ (x : Int), (eInt .u8).rep M x [.int .u8 x] := fun x => rfl
  have fin : ∀ (cs : Array Value), (∀ r, r < (xs ++ bytesOf s).length → cs[r]? = ((xs ++ bytesOf s).map (Value.int .u8))[r]?) → ∀ i x, (xs ++ bytesOf s)[i]? = some x → ∃ es, (eInt .u8).rep M x es ∧ At cs (i * (eInt .u8).n) es := fun cs h i x hi => by
    refine ⟨[.int .u8 x], rfl, fun r v hv => ?_⟩
    have en : (eInt .u8).n = 1 := rfl
    cases r with
    | zero =>
      simp at hv; subst hv
      rw [en, Nat.mul_one, Nat.add_zero, h i (List.getElem?_eq_some_iff.1 hi).1, List.getElem?_map, hi]; rfl
    | succ r => simp at hv
  have hlen : (bytesOf s).length = s.size := bytesOf_len s
  rcases hD.out with ⟨rfl, rfl, rfl, rfl⟩ | ⟨b, cs, rfl, rfl, hcs, hx⟩
  · simp only [List.length_nil] at hk; subst hk
    simp only [List.length_nil, Nat.zero_add] at hlim
    by_cases h0 : s.size = 0
    · have hb : bytesOf s = [] := List.eq_nil_of_length_eq_zero (by rw [hlen]; exact h0)
      refine ⟨.slice none 0 0, w, H, ?_, ht, none, 0, 0, none, rfl, rfl, ?_, by rw [hb]; exact OSl.nil M _ e⟩
      · simp [Builtin.append_, run_underlying u1, run_underlying hU, sizeOf, typeInfo, q1, q2, Builtin.lenOf, h0, Builtin.firstCells, storeCells]
      · obtain ⟨hl, h⟩ := List.getElem?_eq_some_iff.1 hj
        rw [← h, List.set_getElem_self]
    · have hr := run_append_nil_string (P := P) (w := w) T U ty e i _ u1 hU q1 q4 s (by omega) (by omega) (by rw [q3]; omega)
      refine ⟨_, _, _, hr, ((ht.drew (w.drawn + 1)).alloc _).replace hj, _, _, _, _, rfl, rfl, rfl, ?_⟩
      refine ⟨by simp [hlen], grownCap_ge w _ 0 e, .inr ⟨_, _, rfl, rfl, ?_, ?_⟩⟩
      · simp only [Array.size_append, Array.size_map, size_zeroCells]
        have := grownCap_ge w s.size 0 e
        have e1 : s.data.size = s.size := rfl
        have e2 : (Value.int .u8 0).cells.size = 1 := rfl
        have en : (eInt .u8).n = 1 := rfl
        rw [e1, e2, en]; omega
      · refine fin _ fun r hr' => ?_
        simp only [List.nil_append] at hr' ⊢
        have e1 : s.data.size = s.size := rfl
        rw [Array.getElem?_append_left (by simp; omega)]
        simp [bytesOf, Function.comp_def]
  · obtain ⟨hbh, _⟩ := ht.st.own b _ (List.mem_of_getElem? hj)
    have en : (eInt .u8).n = 1 := rfl
    rw [en, Nat.mul_one] at hcs
    have hcap := hD.cap
    have old : ∀ r, r < xs.length → cs[r]? = (xs.map (Value.int .u8))[r]? := fun r hr => by
      obtain ⟨es, e1, e2⟩ := hx r _ (List.getElem?_eq_getElem hr)
      have e3 : es = [.int .u8 xs[r]] := e1
      subst e3
      have := e2 0 _ rfl
      rw [en, Nat.mul_one, Nat.add_zero] at this
      rw [this]; simp [hr]
    have olds : cs.toList.take xs.length = xs.map (Value.int .u8) := by
      apply List.ext_getElem?
      intro r
      by_cases hr : r < xs.length
      · rw [List.getElem?_take_of_lt hr, ← old r hr]; simp
      · rw [List.getElem?_eq_none (by simp; omega), List.getElem?_eq_none (by simp; omega)]
    by_cases hroom : k + s.size ≤ c
    · have hr := run_append_room_string (P := P) w T U ty e i u1 hU q1 q2 b k c cs hbh s hroom (by omega)
      refine ⟨_, _, _, hr, ht.setAt hj ⟨rfl, rfl, rfl⟩ (setRow_set w b _ cs e (0, 0) hbh), _, _, _, _, rfl, rfl, rfl, ?_⟩
      refine ⟨by simp [hk, hlen], hroom, .inr ⟨_, _, rfl, rfl, ?_, ?_⟩⟩
      · have := strCells_length s
        simp only [List.size_toArray, List.length_append, List.length_take, List.length_drop, Array.length_toList]
        rw [en]; omega
      · refine fin _ fun r hr' => ?_
        rw [List.getElem?_toArray, hk, olds, strCells_eq, ← List.map_append, List.getElem?_append_left (by simpa using hr')]
    · have hr := run_append_grow_string (P := P) w T U ty e i _ u1 hU q1 q4 ⟨b, 0, none⟩ k c (xs.map (Value.int .u8)) (by simp [hk, q2]) (fun r v hv => by
        have hlt : r < xs.length := by have := (List.getElem?_eq_some_iff.1 hv).1; simpa using this
        rw [← old r hlt] at hv
        rw [Addr.add_mid, Nat.zero_add]
        simp [World.cell?, hbh, hv]) s (by omega) (by omega) (growslice_fits (by omega) (by rw [q3, hk]; omega))
      refine ⟨_, _, _, hr, ((ht.drew (w.drawn + 1)).alloc _).replace hj, _, _, _, _, rfl, rfl, rfl, ?_⟩
      refine ⟨by simp [hk, hlen], grownCap_ge w _ c e, .inr ⟨_, _, rfl, rfl, ?_, ?_⟩⟩
      · have h1 := grownCap_ge w (k + s.size) c e
        have h2 := strCells_length s
        have e2 : (Value.int .u8 0).cells.size = 1 := rfl
        simp only [Array.size_append, List.size_toArray, size_zeroCells, List.length_map]
        rw [e2, en]; omega
      · refine fin _ fun r hr' => ?_
        rw [strCells_eq, Array.getElem?_append_left (by simpa using hr')]
        simp
section
variable {C : Cx} {o : Oper} {l : Slots} {M : Mem} {H : List Ent}
theorem run_appendStr {x y : Operand} {T U e : Nat} {xs : List Int} {s : ByteArray} {a : Option Addr} {c : Nat} {ent : Ent} (j : Nat) (ho : o.op = .call { callee := .builtin .append, args := #[x, y], argTypes := #[T, U] })
    (hT : Sl C.P T e 1) (hU : C.P.underlying U = some .string) (hE : El C.P e 1 1 (.int .u8 0)) (hx : ev l x = some (.slice a xs.length c)) (hy : ev l y = some (.string s)) (hD : OSl M (eInt .u8) xs a xs.length c e ent) (hj : H[j]? = some ent)
    (hlim : xs.length + s.size ≤ 4294967296) : RunR C o M H l (App M H (eInt .u8) (xs ++ bytesOf s) e j) := fun ρ w ha ht => by
  obtain ⟨v, w', H', h1, h2, h3⟩ := append_str (ty := o.type) ht hT hU hE hD hj hlim
  exact ⟨v, w', M, H', by simp [execOp, ho, ha x _ hx, ha y _ hy, resolve, invoke, builtin, Sem.run_bind, h1], h2, Mem.le_refl _, h3⟩
end

/-! ### Literal slices -/
theorem OSl.lits {α : Type} {M : Mem} {E : Enc α} {xs : List α} {b : Nat} {cells : List Value} {t : TypeId} {n : Nat} (hn : n = xs.length) (hc : cells.length = n * E.n) (h : ∀ i x, xs[i]? = some x → ∃ es, E.rep M x es ∧ (cells.drop (i * E.n)).take es.length = es) :
    OSl M E xs (some ⟨b, 0, none⟩) n n t (some (b, .cells cells.toArray t (0, 0))) :=
  ⟨hn, Nat.le_refl _, .inr ⟨b, _, rfl, rfl, by simpa using hc, fun i x hi => by
    obtain ⟨es, h1, h2⟩ := h i x hi
    refine ⟨es, h1, fun j v hv => ?_⟩
    have hj : j < es.length := (List.getElem?_eq_some_iff.1 hv).1
    rw [← h2, List.getElem?_take_of_lt hj, List.getElem?_drop] at hv
    simpa using hv⟩⟩
/-- The places of a literal slice's elements. -/
def litPl (n k : Nat) : List (Nat × Nat) := (List.range n).map fun i => (i * k, k)
theorem fill_congr {p q : Nat → Option (Nat × Nat)} : ∀ (vs : List (Nat × Value)) (cs : Array Value), (∀ i v, (i, v) ∈ vs → p i = q i) → Instr.fill p cs vs = Instr.fill q cs vs
  | [], cs, _ => rfl
  | (i, v) :: rest, cs, h => by
    unfold Instr.fill
    rw [h i v (by simp)]
    cases q i with
    | none => rfl
    | some os =>
      obtain ⟨off, size⟩ := os
      simp only
      split
      · rfl
      · exact fill_congr rest _ fun i v hv => h i v (by simp [hv])
section
variable {C : Cx} {o : Oper} {l : Slots} {M : Mem} {H : List Ent}
theorem run_lits {T e n m by_ : Nat} {z : Value} {ps : List (Nat × Operand)} {vs : List (Nat × Value)} (cells zs : List Value) (ho : o.op = .buildSlice T n ps.toArray) (hT : Sl C.P T e m) (hE : El C.P e m by_ z) (hv : EvP l ps vs) (hlt : vs.all (fun p => Nat.blt p.1 n) = true)
    (hz : ((Array.range (n * m)).map (z.cells[· % z.cells.size]!)).toList = zs) (hf : fillL (litPl n m) zs vs = some cells) (hs : Nat.ble (n * m) 16777216 = true) (hp : Nat.blt 0 (n * m) = true) :
    RunR C o M H l (fun v' M' H' => ∃ b, v' = .slice (some ⟨b, 0, none⟩) n n ∧ M = M' ∧ H' = some (b, .cells cells.toArray e (0, 0)) :: H) := fun ρ w ha ht => by
  obtain ⟨u, _⟩ := hT
  obtain ⟨i, q1, q2, _, q3, _⟩ := hE.get
  have hs1 : n * m ≤ 16777216 := by simpa using hs
  have hfill : Instr.fill (fun k => some (k * i.size, i.size)) ((Array.range (n * i.size)).map (z.cells[· % z.cells.size]!)) vs = some cells.toArray := by
    rw [q2, fill_congr (q := ((litPl n m).toArray[·]?)) vs _ (fun i v hi => ?_)]
    · have := fill_eq (litPl n m) vs zs
      rw [hf] at this
      rw [← Array.toArray_toList (xs := (Array.range (n * m)).map _), hz]
      simpa using this
    · have : i < n := by have := List.all_eq_true.1 hlt _ hi; simpa using this
      simp [litPl, this]
  have hp1 : 0 < n * m := by simpa using hp
  have hr := run_buildSlice (P := C.P) w T e n vs.toArray cells.toArray i z u q1 q3 (by rw [q2]; omega) (by rw [q2]; omega) hfill
  have hm : ps.map (fun x => (x.1, ρ x.2)) = vs := hv.map ha
  have e2 : ps.toArray.map (fun x => (x.1, ρ x.2)) = vs.toArray := by rw [List.map_toArray, hm]
  exact ⟨_, _, M, _, by simp [execOp, ho, Sem.run_bind, hm, hr], ht.alloc _, Mem.le_refl _, _, rfl, rfl, rfl⟩
end
end Go.Proofs.Ytjbfolnnepjidaa.Tw
