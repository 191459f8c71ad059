/-
  Plain lemmas on the words of the plain functions.
-/
import Derived.Test.YtjbfolnnepjidaaWin
set_option linter.unusedVariables false
set_option linter.unusedSimpArgs false
namespace Go.Proofs.Ytjbfolnnepjidaa.Tw
open Go

theorem cap_ok {n : Nat} (h : n ≤ 4294967296) : cap n = some () := by unfold cap; rw [if_pos h]
theorem need_ok {b : Bool} (h : b = true) : need b = some () := by unfold need; rw [if_pos h]
theorem idx_ok {α : Type} {xs : List α} {i : Nat} {x : α} (h : xs[i]? = some x) : idx xs (i : Int) = some x := by
  unfold idx; rw [if_pos (by omega)]; simpa using h
theorem lcut_ok {α : Type} (xs : List α) (i j : Nat) (h1 : i ≤ j) (h2 : j ≤ xs.length) : lcut xs (i : Int) (j : Int) = some ((xs.drop i).take (j - i)) := by
  unfold lcut; rw [if_pos (by omega)]; simp
theorem scut_ok (s : ByteArray) (i j : Nat) (h1 : i ≤ j) (h2 : j ≤ s.size) : scut s (i : Int) (j : Int) = some (s.extract i j) := by
  unfold scut; rw [if_pos (by omega)]; simp
theorem w64_nat {n : Nat} (h : n ≤ 9223372036854775807) : w64 (n : Int) = (n : Int) := w64_id (by omega) (by omega)
theorem w64_succ {n : Nat} (h : n < 9223372036854775807) : w64 ((n : Int) + 1) = ((n + 1 : Nat) : Int) := by rw [w64_id (by omega) (by omega)]; omega
theorem gmin_nat (a b : Nat) : gmin (a : Int) (b : Int) = ((min a b : Nat) : Int) := by
  unfold gmin; split <;> omega
theorem gmax_nat (a b : Nat) : gmax (a : Int) (b : Int) = ((max a b : Nat) : Int) := by
  unfold gmax; split <;> omega
theorem gmin_eq (a b : Int) : gmin a b = min a b := by unfold gmin; split <;> omega
theorem gmax_eq (a b : Int) : gmax a b = max a b := by unfold gmax; split <;> omega
theorem drop_cons {α : Type} {xs ys : List α} {y : α} {i : Nat} (h : xs.drop i = y :: ys) : xs[i]? = some y ∧ xs.drop (i + 1) = ys ∧ i < xs.length := by
  have h1 : (xs.drop i)[0]? = some y := by rw [h]; rfl
  have h2 : xs[i]? = some y := by simpa using h1
  refine ⟨h2, ?_, (List.getElem?_eq_some_iff.1 h2).1⟩
  rw [← List.tail_drop, h]; rfl
theorem seq_self (s : ByteArray) : seq s s = true := by simp [seq]
theorem bne_self (a : Int) : (a != a) = false := by simp
end Go.Proofs.Ytjbfolnnepjidaa.Tw
