/-
  SnapClones: from the given row to the walk and the plain law.
-/
import Derived.Test.YtjbfolnnepjidaaRows
import Derived.Test.YtjbfolnnepjidaaLaw16
import Derived.Test.YtjbfolnnepjidaaOpen
import Derived.WalkKit
import Derived.ProofKit
import Derived.OpenShut
set_option linter.unusedVariables false
namespace Go.Proofs.Ytjbfolnnepjidaa.Tw
open Go Go.ChangeShapes Go.WideShapes Go.ChangeAt Go.RowKit
def E25 : Enc Snap where
  n := 10
  rep := fun M x es => ∃ a6 n6 c6 a9 n9 c9, es = [.int .i64 x.K, .int .i64 x.W, .int .i64 x.H, .int .i64 x.X, .int .i64 x.Y, .string x.Title, .slice a6 n6 c6, .int .i64 x.Len, .int .i64 x.Chain, .slice a9 n9 c9] ∧ SRep M E37 x.Rows a6 n6 c6 ∧ SRep M E41 x.Begun a9 n9 c9
  len := fun h => by obtain ⟨a6, n6, c6, a9, n9, c9, rfl, h6, h9⟩ := h; rfl
  mono := fun hm h => by obtain ⟨a6, n6, c6, a9, n9, c9, rfl, h6, h9⟩ := h; exact ⟨a6, n6, c6, a9, n9, c9, rfl, h6.mono hm, h9.mono hm⟩
  cell := fun h v hv => by obtain ⟨a6, n6, c6, a9, n9, c9, rfl, h6, h9⟩ := h; simp at hv; rcases hv with rfl | rfl | rfl | rfl | rfl | rfl | rfl | rfl | rfl | rfl <;> rfl
theorem opens39 : Opens Try.prog 39 E39.rep := fun {H enc w base spare held fuel cs x} h => by
  obtain ⟨xs, n, rfl, _, hl, hlen, hf⟩ := DataW.trod_struct Try.underlying39 h
  have hc : Try.prog.cellsOf 39 = 3 := by kernel_rfl
  rw [hc] at hl
  obtain ⟨y0, z0⟩ := opens_part (opens_int Try.underlying21) (i := 0) 0 1 (by rw [hlen]; decide) (hf 0 _ rfl) rfl rfl (by kernel_rfl)
  obtain ⟨y1, z1⟩ := opens_part (opens_int Try.underlying3) (i := 1) 1 1 (by rw [hlen]; decide) (hf 1 _ rfl) rfl rfl (by kernel_rfl)
  obtain ⟨y2, z2⟩ := opens_part (opens_int Try.underlying3) (i := 2) 2 1 (by rw [hlen]; decide) (hf 2 _ rfl) rfl rfl (by kernel_rfl)
  clear hf h hlen hc
  obtain ⟨v0, cs0, rfl, hl0⟩ := uncons hl
  obtain ⟨v1, cs1, rfl, hl1⟩ := uncons hl0
  obtain ⟨v2, cs2, rfl, hl2⟩ := uncons hl1
  obtain rfl := empty_of hl2
  cases z0
  cases z1
  cases z2
  exact ⟨⟨y0, y1, y2⟩, rfl⟩
theorem opens37 : Opens Try.prog 37 E37.rep := fun {H enc w base spare held fuel cs x} h => by
  obtain ⟨xs, n, rfl, _, hl, hlen, hf⟩ := DataW.trod_struct Try.underlying37 h
  have hc : Try.prog.cellsOf 37 = 2 := by kernel_rfl
  rw [hc] at hl
  obtain ⟨y0, z0⟩ := opens_part (opens_slice (E := E39) Try.underlying35 (by kernel_rfl) (by decide) opens39) (i := 0) 0 1 (by rw [hlen]; decide) (hf 0 _ rfl) rfl rfl (by kernel_rfl)
  obtain ⟨y1, z1⟩ := opens_part (opens_bool Try.underlying4) (i := 1) 1 1 (by rw [hlen]; decide) (hf 1 _ rfl) rfl rfl (by kernel_rfl)
  clear hf h hlen hc
  obtain ⟨v0, cs0, rfl, hl0⟩ := uncons hl
  obtain ⟨v1, cs1, rfl, hl1⟩ := uncons hl0
  obtain rfl := empty_of hl1
  obtain ⟨a0, n0, c0, z0, h0⟩ := z0
  cases z0
  cases z1
  exact ⟨⟨y0, y1⟩, a0, n0, c0, rfl, h0⟩
theorem opens41 : Opens Try.prog 41 E41.rep := fun {H enc w base spare held fuel cs x} h => by
  obtain ⟨xs, n, rfl, _, hl, hlen, hf⟩ := DataW.trod_struct Try.underlying41 h
  have hc : Try.prog.cellsOf 41 = 2 := by kernel_rfl
  rw [hc] at hl
  obtain ⟨y0, z0⟩ := opens_part (opens_int Try.underlying21) (i := 0) 0 1 (by rw [hlen]; decide) (hf 0 _ rfl) rfl rfl (by kernel_rfl)
  obtain ⟨y1, z1⟩ := opens_part (opens_int Try.underlying3) (i := 1) 1 1 (by rw [hlen]; decide) (hf 1 _ rfl) rfl rfl (by kernel_rfl)
  clear hf h hlen hc
  obtain ⟨v0, cs0, rfl, hl0⟩ := uncons hl
  obtain ⟨v1, cs1, rfl, hl1⟩ := uncons hl0
  obtain rfl := empty_of hl1
  cases z0
  cases z1
  exact ⟨⟨y0, y1⟩, rfl⟩
theorem opens25 : Opens Try.prog 25 E25.rep := fun {H enc w base spare held fuel cs x} h => by
  obtain ⟨xs, n, rfl, _, hl, hlen, hf⟩ := DataW.trod_struct Try.underlying25 h
  have hc : Try.prog.cellsOf 25 = 10 := by kernel_rfl
  rw [hc] at hl
  obtain ⟨y0, z0⟩ := opens_part (opens_int Try.underlying3) (i := 0) 0 1 (by rw [hlen]; decide) (hf 0 _ rfl) rfl rfl (by kernel_rfl)
  obtain ⟨y1, z1⟩ := opens_part (opens_int Try.underlying3) (i := 1) 1 1 (by rw [hlen]; decide) (hf 1 _ rfl) rfl rfl (by kernel_rfl)
  obtain ⟨y2, z2⟩ := opens_part (opens_int Try.underlying3) (i := 2) 2 1 (by rw [hlen]; decide) (hf 2 _ rfl) rfl rfl (by kernel_rfl)
  obtain ⟨y3, z3⟩ := opens_part (opens_int Try.underlying3) (i := 3) 3 1 (by rw [hlen]; decide) (hf 3 _ rfl) rfl rfl (by kernel_rfl)
  obtain ⟨y4, z4⟩ := opens_part (opens_int Try.underlying3) (i := 4) 4 1 (by rw [hlen]; decide) (hf 4 _ rfl) rfl rfl (by kernel_rfl)
  obtain ⟨y5, z5⟩ := opens_part (opens_str Try.underlying9) (i := 5) 5 1 (by rw [hlen]; decide) (hf 5 _ rfl) rfl rfl (by kernel_rfl)
  obtain ⟨y6, z6⟩ := opens_part (opens_slice (E := E37) Try.underlying22 (by kernel_rfl) (by decide) opens37) (i := 6) 6 1 (by rw [hlen]; decide) (hf 6 _ rfl) rfl rfl (by kernel_rfl)
  obtain ⟨y7, z7⟩ := opens_part (opens_int Try.underlying3) (i := 7) 7 1 (by rw [hlen]; decide) (hf 7 _ rfl) rfl rfl (by kernel_rfl)
  obtain ⟨y8, z8⟩ := opens_part (opens_int Try.underlying3) (i := 8) 8 1 (by rw [hlen]; decide) (hf 8 _ rfl) rfl rfl (by kernel_rfl)
  obtain ⟨y9, z9⟩ := opens_part (opens_slice (E := E41) Try.underlying23 (by kernel_rfl) (by decide) opens41) (i := 9) 9 1 (by rw [hlen]; decide) (hf 9 _ rfl) rfl rfl (by kernel_rfl)
  clear hf h hlen hc
  obtain ⟨v0, cs0, rfl, hl0⟩ := uncons hl
  obtain ⟨v1, cs1, rfl, hl1⟩ := uncons hl0
  obtain ⟨v2, cs2, rfl, hl2⟩ := uncons hl1
  obtain ⟨v3, cs3, rfl, hl3⟩ := uncons hl2
  obtain ⟨v4, cs4, rfl, hl4⟩ := uncons hl3
  obtain ⟨v5, cs5, rfl, hl5⟩ := uncons hl4
  obtain ⟨v6, cs6, rfl, hl6⟩ := uncons hl5
  obtain ⟨v7, cs7, rfl, hl7⟩ := uncons hl6
  obtain ⟨v8, cs8, rfl, hl8⟩ := uncons hl7
  obtain ⟨v9, cs9, rfl, hl9⟩ := uncons hl8
  obtain rfl := empty_of hl9
  cases z0
  cases z1
  cases z2
  cases z3
  cases z4
  cases z5
  obtain ⟨a6, n6, c6, z6, h6⟩ := z6
  cases z6
  cases z7
  cases z8
  obtain ⟨a9, n9, c9, z9, h9⟩ := z9
  cases z9
  exact ⟨⟨y0, y1, y2, y3, y4, y5, y6, y7, y8, y9⟩, a6, n6, c6, a9, n9, c9, rfl, h6, h9⟩
theorem own : ownKnob Try.prog.godebug = none := by kernel_rfl
theorem laid : laidOutB Try.prog = true := by kernel_rfl
theorem rowed : mapsRowed Try.prog = true := by kernel_rfl
theorem full : ((List.range Try.prog.types.size).all fun t => match Try.prog.underlying t with | some (.slice e) => decide (0 < Try.prog.cellsOf e) | _ => true) = true := by kernel_rfl
theorem within : ∀ t ∈ Try.f3.params.toList, t < Try.prog.types.size := of_decide_eq_true (by kernel_rfl)

theorem walk (W : World) (cs : List Value) (x : Snap) (n : Int) (h : E25.rep (mo W) x cs) :
    Calls Try.prog 3 #[.agg cs.toArray, .int .i64 n] W fun e W' => ∃ M' H', e = .returned (.bool true) ∧ Tr (mo W) [] W M' H' W' := by
  obtain ⟨a6, n6, c6, a9, n9, c9, rfl, h6, h9⟩ := h
  exact (tidewracklaw16_SnapClones_does (x0 := x) (x1 := n) h6 h9 (clones16 x n) W (St.mo W)).mono fun e W' ⟨v, M', H', he, ht, hv, _⟩ => ⟨M', H', by rw [he, hv], ht⟩

set_option maxRecDepth 100000 in
theorem lifted (os : Os) (started : os.Started) (H : Type) (enc : TypeId × Value → H) :
    ReturnsInHanded {} Try.checked os 3 .any (Rows.snapClonesSpec.pre6 enc Try.prog Try.f3 Rows.snapClonesRow.domain false) (Rows.snapClonesSpec.post enc Try.prog Try.f3 false true false false) := by
  refine returnsInHanded_of_change (C := Try.checked) own started (by kernel_rfl) Try.func3
    (ChangeSpec.witness6 (enc := enc) (C := Try.checked) false ⟨#[], #[.agg #[.int .i64 0, .int .i64 0, .int .i64 0, .int .i64 0, .int .i64 0, .string ⟨#[]⟩, .slice none 0 0, .int .i64 0, .int .i64 0, .slice none 0 0], .int .i64 0], []⟩ 8 (by kernel_rfl) (by kernel_rfl) (by kernel_rfl) (by kernel_rfl)) ?_
  intro W base args ds gs before hval0 hW hcnd _
  have hval : ∀ (j : Nat) t v, Try.f3.params[j]? = some t → args[j]? = some v → Value.okWide Try.prog W .any base t v := hval0
  have hW' := hW
  obtain ⟨p, q, hA0, hV, rfl, hfz, hnd⟩ := hW
  have hA : DataW.TrodAll enc Try.prog W 0 (fun _ => true) true Try.f3.params.toList args.toList ds p := hA0
  rw [Try.params3] at hA hval
  obtain ⟨v0, vs0, d0, ds0, p0, q0, hargs, rfl, rfl, h0, r0⟩ := trodAll_cons hA
  obtain ⟨v1, vs1, d1, ds1, p1, q1, rfl, rfl, rfl, h1, r1⟩ := trodAll_cons r0
  obtain ⟨rfl, rfl, rfl⟩ := trodAll_nil r1
  obtain rfl : args = #[v0, v1] := by cases args; simp_all
  obtain ⟨rfl, rfl⟩ := trodVars_none hV
  obtain ⟨n, rfl, rfl, rfl, _⟩ := open_int Try.underlying3 (hval 1 3 v1 rfl rfl) h1
  have ha := agg_of Try.underlying25 (hval 0 25 v0 rfl rfl)
  obtain ⟨fuel, ht⟩ := h0
  obtain ⟨x, hx⟩ := opens25 ht
  have hk := walk W _ x n hx
  rw [Array.toArray_toList, ← ha] at hk
  refine hk.mono fun e W' ⟨M', H', he, hg⟩ => ?_
  subst he
  exact ⟨_, rfl, post_tr laid rowed full within rfl hW' hg (fun _ _ _ => trodAll_cons_mk (shut_bool Try.underlying4 _) trodAll_mk0) rfl rfl⟩

theorem over : Rows.snapClonesRow.holds Try.pinned (OpenSpec.ofChange Rows.snapClonesSpec) :=
  OpenClaim.holds_of_wide 3 Try.f3 rfl rfl rfl rfl rfl rfl rfl ⟨rfl, rfl, rfl, rfl, rfl⟩ rfl rfl rfl rfl rfl (by kernel_rfl) Try.func3 (by kernel_rfl)
    (of_decide_eq_true (by kernel_rfl)) (by unfold Func.isWrapper; first | (rw [if_pos (by decide +kernel)]; kernel_rfl) | (rw [if_neg (by decide +kernel)]; exact ⟨rfl, rfl⟩))
    (fun os started H enc _ => lifted os started H enc)

theorem proved : Rows.SnapClonesSaid := over
#print axioms proved
end Go.Proofs.Ytjbfolnnepjidaa.Tw
