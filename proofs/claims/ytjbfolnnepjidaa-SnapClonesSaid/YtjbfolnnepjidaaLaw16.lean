/-
  SnapClones, of the plain functions: it is true of every snap.
-/
import Derived.Test.YtjbfolnnepjidaaClones
import Derived.Test.YtjbfolnnepjidaaKit
set_option linter.unusedVariables false
set_option linter.unusedSimpArgs false
namespace Go.Proofs.Ytjbfolnnepjidaa.Tw
open Go

/-- What a cut snap is like. -/
structure Short16 (c : Snap) : Prop where
  rows : c.Rows.length ≤ 8
  cells : ∀ r ∈ c.Rows, r.Cells.length ≤ 40
  begun : c.Begun.length ≤ 30

theorem cut01 (s : ByteArray) (n : Nat) : ∃ t, tidewracklaw01_Cut s (n : Int) = some t ∧ t.size ≤ n := by
  unfold tidewracklaw01_Cut
  by_cases h : n < s.size
  · refine ⟨s.extract 0 n, ?_, by simp; omega⟩
    have h1 : decide ((s.size : Int) > (n : Int)) = true := by simp; omega
    rw [h1]
    have := scut_ok s 0 n (by omega) (by omega)
    simp only [Int.ofNat_eq_natCast, Int.natCast_zero] at this
    simp [this]
  · refine ⟨s, ?_, by omega⟩
    have h1 : decide ((s.size : Int) > (n : Int)) = false := by simp; omega
    rw [h1]; rfl
theorem any09 (l : List Cell) (w : Bool) : ∃ r, tidewracklaw09_Any l w = some r ∧ r.Cells.length ≤ 40 := by
  refine ⟨⟨[] ++ (l.drop 0).take (min l.length 40 - 0), w⟩, ?_, by simp; omega⟩
  unfold tidewracklaw09_Any
  have h1 : gmin (l.length : Int) 40 = ((min l.length 40 : Nat) : Int) := gmin_nat l.length 40
  have h2 := lcut_ok l 0 (min l.length 40) (by omega) (by omega)
  rw [Int.natCast_zero] at h2
  rw [h1, h2, Option.bind_some, cap_ok (by simp; omega), Option.bind_some]
theorem cut16_l1 (x : Snap) (t : ByteArray) (g : List Glyph) : ∀ (d i : Nat) (acc : List Row) (k : Nat), i + d = 8 → d < k → acc.length ≤ i → (∀ r ∈ acc, r.Cells.length ≤ 40) →
    ∃ rs, tidewracklaw16_Cut_l1 x t g k acc (i : Int) = some { x with Title := t, Rows := rs, Begun := [] ++ g } ∧ rs.length ≤ 8 ∧ ∀ r ∈ rs, r.Cells.length ≤ 40 := by
  intro d
  induction d with
  | zero =>
    intro i acc k hi hk hl hr
    obtain ⟨k, rfl⟩ : ∃ m, k = m + 1 := ⟨k - 1, by omega⟩
    refine ⟨acc, ?_, by omega, hr⟩
    have h : decide ((i : Int) < 8) = false := by simp; omega
    simp [tidewracklaw16_Cut_l1, h]
  | succ d ih =>
    intro i acc k hi hk hl hr
    obtain ⟨k, rfl⟩ : ∃ m, k = m + 1 := ⟨k - 1, by omega⟩
    by_cases h : i < x.Rows.length
    · obtain ⟨r, h2, h3⟩ := any09 x.Rows[i].Cells x.Rows[i].Wrapped
      obtain ⟨rs, h4, h5, h6⟩ := ih (i + 1) (acc ++ [r]) k (by omega) (by omega) (by simp; omega) (fun q hq => by
        rcases List.mem_append.1 hq with hq | hq
        · exact hr q hq
        · rw [List.mem_singleton.1 hq]; exact h3)
      refine ⟨rs, ?_, h5, h6⟩
      have e1 : (decide ((i : Int) < (x.Rows.length : Int)) && decide ((i : Int) < 8)) = true := by simp; omega
      have e2 : idx x.Rows (i : Int) = some x.Rows[i] := idx_ok (by simp [h])
      simp only [tidewracklaw16_Cut_l1, e1, cond_true, e2, Option.bind_some, h2]
      rw [cap_ok (by simp; omega), Option.bind_some, w64_succ (by omega)]
      exact h4
    · refine ⟨acc, ?_, by omega, hr⟩
      have e1 : (decide ((i : Int) < (x.Rows.length : Int)) && decide ((i : Int) < 8)) = false := by simp; omega
      simp only [tidewracklaw16_Cut_l1, e1, cond_false]
theorem cut16 (x : Snap) : ∃ c, tidewracklaw16_Cut x = some c ∧ Short16 c := by
  obtain ⟨t, h1, _⟩ := cut01 x.Title 210
  obtain ⟨rs, h2, h3, h4⟩ := cut16_l1 x t ((x.Begun.drop 0).take (min x.Begun.length 30 - 0)) 8 0 [] 4294967296 rfl (by omega) (by simp) (by simp)
  have key : tidewracklaw16_Cut x = some { x with Title := t, Rows := rs, Begun := [] ++ (x.Begun.drop 0).take (min x.Begun.length 30 - 0) } := by
    unfold tidewracklaw16_Cut
    have e1 : gmin (x.Begun.length : Int) 30 = ((min x.Begun.length 30 : Nat) : Int) := gmin_nat x.Begun.length 30
    have e2 := lcut_ok x.Begun 0 (min x.Begun.length 30) (by omega) (by omega)
    have e3 : ((210 : Nat) : Int) = 210 := rfl
    rw [Int.natCast_zero] at e2 h2
    rw [e3] at h1
    rw [h1, Option.bind_some, e1, e2, Option.bind_some, cap_ok (by simp; omega), Option.bind_some]
    exact h2
  exact ⟨_, key, h3, h4, by simp; omega⟩

theorem told14_l1 : ∀ (l acc : List Glyph), acc.length + l.length ≤ 4294967296 → tidewracklaw14_Told_l1 l acc = some (acc ++ l.map fun g => ⟨w64 g.Rune, g.Style⟩)
  | [], acc, _ => by simp [tidewracklaw14_Told_l1]
  | g :: l, acc, h => by
    simp only [List.length_cons] at h
    rw [tidewracklaw14_Told_l1, cap_ok (by simp; omega), Option.bind_some, told14_l1 l _ (by simp; omega)]
    simp
theorem told14 (l : List Glyph) (h : l.length ≤ 4294967296) : tidewracklaw14_Told l = some (l.map fun g => ⟨w64 g.Rune, g.Style⟩) := by
  rw [tidewracklaw14_Told, cap_ok h, Option.bind_some, told14_l1 l [] (by simpa using h)]; rfl
def tc (c : Cell) : Cell := { c with Rune := w64 c.Rune }
theorem told09_l1 (r : Row) : ∀ (l acc : List Cell), acc.length + l.length ≤ 4294967296 → tidewracklaw09_Told_l1 r l acc = some ⟨acc ++ l.map tc, r.Wrapped⟩
  | [], acc, _ => by simp [tidewracklaw09_Told_l1]
  | c :: l, acc, h => by
    simp only [List.length_cons] at h
    rw [tidewracklaw09_Told_l1, cap_ok (by simp; omega), Option.bind_some, told09_l1 r l _ (by simp; omega)]
    simp [tc]
theorem told09 (r : Row) (h : r.Cells.length ≤ 4294967296) : tidewracklaw09_Told r = some ⟨r.Cells.map tc, r.Wrapped⟩ := by
  rw [tidewracklaw09_Told, cap_ok h, Option.bind_some, told09_l1 r _ [] (by simpa using h)]; rfl
def tr9 (r : Row) : Row := ⟨r.Cells.map tc, r.Wrapped⟩
theorem told16_l2 (x : Snap) (g : List Glyph) : ∀ (l acc : List Row), acc.length + l.length ≤ 4294967296 → (∀ r ∈ l, r.Cells.length ≤ 4294967296) → tidewracklaw16_Told_l2 x g l acc = some { x with Rows := acc ++ l.map tr9, Begun := g }
  | [], acc, _, _ => by simp [tidewracklaw16_Told_l2]
  | r :: l, acc, h, hr => by
    simp only [List.length_cons] at h
    rw [tidewracklaw16_Told_l2, told09 r (hr r (by simp)), Option.bind_some, cap_ok (by simp; omega), Option.bind_some, told16_l2 x g l _ (by simp; omega) (fun q hq => hr q (by simp [hq]))]
    simp [tr9]
def t16 (x : Snap) : Snap := { x with Rows := x.Rows.map tr9, Begun := x.Begun.map fun g => ⟨w64 g.Rune, g.Style⟩ }
theorem told16 (x : Snap) (h : Short16 x) : tidewracklaw16_Told x = some (t16 x) := by
  have h1 := h.rows; have h2 := h.begun
  rw [tidewracklaw16_Told, told14 _ (by omega), Option.bind_some, tidewracklaw16_Told_j1, cap_ok (by omega), Option.bind_some, told16_l2 x _ _ [] (by simp; omega) (fun r hr => by have := h.cells r hr; omega)]
  rfl
theorem cloneCell (l : List Cell) (h : l.length ≤ 4294967296) : slices_Clone_row_Cell l = some l := by rw [slices_Clone_row_Cell, cap_ok (by simpa using h)]; rfl
theorem cloneGlyph2 (l : List Glyph) (h : l.length ≤ 4294967296) : slices_Clone_row_Glyph_2 l = some l := by rw [slices_Clone_row_Glyph_2, cap_ok (by simpa using h)]; rfl
theorem clone16_l1 (x : Snap) (hb : x.Begun.length ≤ 4294967296) : ∀ (l acc : List Row), acc.length + l.length ≤ 4294967296 → (∀ r ∈ l, r.Cells.length ≤ 4294967296) → snap_Snap_Clone_l1 x l acc = some { x with Rows := acc ++ l }
  | [], acc, _, _ => by rw [snap_Snap_Clone_l1, cloneGlyph2 _ hb]; simp
  | r :: l, acc, h, hr => by
    simp only [List.length_cons] at h
    rw [snap_Snap_Clone_l1, cloneCell _ (hr r (by simp)), Option.bind_some, cap_ok (by simp; omega), Option.bind_some, clone16_l1 x hb l _ (by simp; omega) (fun q hq => hr q (by simp [hq]))]
    simp
theorem clone16 (x : Snap) (h : Short16 x) : snap_Snap_Clone x = some x := by
  have h1 := h.rows; have h2 := h.begun
  rw [snap_Snap_Clone, cap_ok (by omega), Option.bind_some, clone16_l1 x (by omega) _ [] (by simp; omega) (fun r hr => by have := h.cells r hr; omega)]
  rfl

theorem is09_l1 (l0 : List Cell) (w : Bool) : ∀ (l : List Cell) (i : Nat), l0.drop i = l → tidewracklaw09_Is_l1 ⟨l0.map tc, w⟩ l (i : Int) = some true
  | [], i, _ => by rw [tidewracklaw09_Is_l1]
  | c :: l, i, h => by
    obtain ⟨h1, h2, h3⟩ := drop_cons h
    have h4 : idx (l0.map tc) (i : Int) = some (tc c) := idx_ok (by simp [h1])
    rw [tidewracklaw09_Is_l1]
    simp only [h4, Option.bind_some, tc, bne_self, cond_false, tidewracklaw09_Is_j2]
    exact is09_l1 l0 w l (i + 1) h2
theorem is09 (r : Row) (h : r.Cells.length ≤ 4294967296) : tidewracklaw09_Is r (tr9 r) = some true := by
  unfold tidewracklaw09_Is tr9
  simp only [List.length_map, bne_self, Bool.false_or, beq_self_eq_true, Bool.not_true, cond_false]
  rw [cap_ok h, Option.bind_some]
  exact is09_l1 r.Cells r.Wrapped r.Cells 0 rfl
theorem rows10_l1 (l0 : List Row) (hr : ∀ r ∈ l0, r.Cells.length ≤ 4294967296) : ∀ (l : List Row) (i : Nat), l0.drop i = l → tidewracklaw10_Rows_l1 l0 (l.map tr9) (i : Int) = some true
  | [], i, _ => by rw [List.map_nil, tidewracklaw10_Rows_l1]
  | r :: l, i, h => by
    obtain ⟨h1, h2, h3⟩ := drop_cons h
    rw [List.map_cons, tidewracklaw10_Rows_l1, idx_ok h1, Option.bind_some, is09 r (hr r (List.mem_of_getElem? h1)), Option.bind_some]
    exact rows10_l1 l0 hr l (i + 1) h2
theorem rows10 (l : List Row) (hl : l.length ≤ 4294967296) (hr : ∀ r ∈ l, r.Cells.length ≤ 4294967296) : tidewracklaw10_Rows l (l.map tr9) = some true := by
  unfold tidewracklaw10_Rows
  simp only [List.length_map, bne_self, cond_false]
  rw [cap_ok hl, Option.bind_some]
  exact rows10_l1 l hr l 0 rfl
theorem glyphs09_l1 (l0 : List Glyph) : ∀ (l : List Glyph) (i : Nat), l0.drop i = l → tidewracklaw09_Glyphs_l1 (l0.map fun g => ⟨w64 g.Rune, g.Style⟩) l (i : Int) = some true
  | [], i, _ => by rw [tidewracklaw09_Glyphs_l1]
  | c :: l, i, h => by
    obtain ⟨h1, h2, h3⟩ := drop_cons h
    have h4 : idx (l0.map fun g => (⟨w64 g.Rune, g.Style⟩ : Glyph)) (i : Int) = some ⟨w64 c.Rune, c.Style⟩ := idx_ok (by simp [h1])
    rw [tidewracklaw09_Glyphs_l1]
    simp only [h4, Option.bind_some, bne_self, cond_false, tidewracklaw09_Glyphs_j2]
    exact glyphs09_l1 l0 l (i + 1) h2
theorem glyphs09 (l : List Glyph) (h : l.length ≤ 4294967296) : tidewracklaw09_Glyphs l (l.map fun g => ⟨w64 g.Rune, g.Style⟩) = some true := by
  unfold tidewracklaw09_Glyphs
  simp only [List.length_map, bne_self, cond_false]
  rw [cap_ok h, Option.bind_some]
  exact glyphs09_l1 l l 0 rfl
theorem is16 (x : Snap) (h : Short16 x) : tidewracklaw16_Is x (t16 x) = some true := by
  have h1 := h.rows; have h2 := h.begun
  unfold tidewracklaw16_Is t16
  simp only [beq_self_eq_true, seq_self, Bool.and_self, cond_true]
  rw [rows10 _ (by omega) (fun r hr => by have := h.cells r hr; omega), Option.bind_some]
  simp only [cond_true]
  rw [glyphs09 _ (by omega)]; rfl

theorem clones_l2 (c : Snap) (h : Short16 c) : ∀ (k i : Nat) (l : List Glyph), i + k = l.length → tidewracklaw16_SnapClones_l2 c c (t16 c) k (i : Int) l = some true
  | 0, i, l, _ => by
    have h1 := h.rows
    rw [tidewracklaw16_SnapClones_l2, cap_ok (by simp; omega), Option.bind_some, is16 c h]; rfl
  | k + 1, i, l, hi => by
    have hl : i < l.length := by omega
    rw [tidewracklaw16_SnapClones_l2, idx_ok (x := l[i]) (by simp [hl]), Option.bind_some]
    exact clones_l2 c h k (i + 1) _ (by simp; omega)
theorem clones_l3 (R : Option Bool) (c : Snap) (y : Nat) (r : Row) (hr : c.Rows[y]? = some r) : ∀ (k i : Nat), i + k = r.Cells.length → tidewracklaw16_SnapClones_l3 R c (y : Int) k (i : Int) = R
  | 0, i, _ => by rw [tidewracklaw16_SnapClones_l3]
  | k + 1, i, hi => by
    have hl : i < r.Cells.length := by omega
    rw [tidewracklaw16_SnapClones_l3, idx_ok hr, Option.bind_some, idx_ok (x := r.Cells[i]) (by simp [hl]), Option.bind_some]
    exact clones_l3 R c y r hr k (i + 1) (by omega)
theorem clones_l1 (c : Snap) (h : Short16 c) : ∀ (l : List Row) (i : Nat), c.Rows.drop i = l → tidewracklaw16_SnapClones_l1 c c (t16 c) l (i : Int) = some true
  | [], i, _ => by
    have h2 := h.begun
    rw [tidewracklaw16_SnapClones_l1, need_ok (by simp; omega), Option.bind_some]
    exact clones_l2 c h _ 0 _ (by simp)
  | r :: l, i, hd => by
    obtain ⟨h1, h2, h3⟩ := drop_cons hd
    have h4 := h.cells r (List.mem_of_getElem? h1)
    have e := clones_l3 (tidewracklaw16_SnapClones_l1 c c (t16 c) l ((i : Int) + 1)) c i r h1 r.Cells.length 0 (by omega)
    rw [Int.natCast_zero] at e
    rw [tidewracklaw16_SnapClones_l1, need_ok (by simp; omega), Option.bind_some, Int.toNat_natCast, e]
    exact clones_l1 c h l (i + 1) h2
theorem awake16 : tidewracklaw16_awake = some true := by kernel_rfl
theorem clones16 (x : Snap) (at_ : Int) : tidewracklaw16_SnapClones x at_ = some true := by
  obtain ⟨c, h1, h2⟩ := cut16 x
  have h3 := h2.rows
  rw [tidewracklaw16_SnapClones, awake16, Option.bind_some]
  simp only [Bool.not_true, cond_false]
  rw [h1, Option.bind_some, told16 c h2, Option.bind_some, clone16 c h2, Option.bind_some, cap_ok (by omega), Option.bind_some]
  exact clones_l1 c h2 c.Rows 0 rfl
end Go.Proofs.Ytjbfolnnepjidaa.Tw
