/-
  From what an argument reads as to the plain data of the walks; from a walk's end to the row's word on it.
-/
import Derived.Test.YtjbfolnnepjidaaWin
import Derived.ChangeStays
import Derived.ChangeBears
import Derived.ReadAgain
import Derived.ChangeSame
set_option linter.unusedVariables false
namespace Go.Proofs.Ytjbfolnnepjidaa.Tw
open Go Go.ChangeShapes Go.WideShapes

/-- All memory of a world, as frozen. -/
def mo (w : World) : Mem := fun b => w.heap[b]?
theorem St.mo (w : World) : St (mo w) [] w := ⟨fun _ _ h => h, fun _ _ h => (nomatch h), List.nodup_nil⟩

/-- What reads at a type lies as told. -/
def Opens {α : Type} (P : Program) (T : TypeId) (R : Mem → α → List Value → Prop) : Prop :=
  ∀ {H : Type} {enc : TypeId × Value → H} {w : World} {base : Nat} {spare : Nat → Bool} {held : Bool} {fuel : Nat} {cs : List Value} {x : DataW H × List MemPlace},
    DataW.trod enc P w base spare held fuel T cs = some x → ∃ a, R (mo w) a cs

theorem opens_int {P : Program} {t : TypeId} {k : IntKind} (ht : P.underlying t = some (.int k)) : Opens P t (eInt k).rep := fun h => by
  obtain ⟨n, rfl, _⟩ := DataW.trod_int ht h
  exact ⟨n, rfl⟩
theorem opens_bool {P : Program} {t : TypeId} (ht : P.underlying t = some .bool) : Opens P t eBool.rep := fun h => by
  obtain ⟨n, rfl, _⟩ := DataW.trod_bool ht h
  exact ⟨n, rfl⟩
theorem opens_str {P : Program} {t : TypeId} (ht : P.underlying t = some .string) : Opens P t eStr.rep := fun h => by
  obtain ⟨n, rfl, _⟩ := DataW.trod_string ht h
  exact ⟨n, rfl⟩

theorem list_of {α : Type} {R : Nat → α → Prop} : ∀ (n : Nat), (∀ i, i < n → ∃ a, R i a) → ∃ xs : List α, xs.length = n ∧ ∀ i x, xs[i]? = some x → R i x
  | 0, _ => ⟨[], rfl, fun i x h => by simp at h⟩
  | n + 1, h => by
    obtain ⟨xs, h1, h2⟩ := list_of n (fun i hi => h i (by omega))
    obtain ⟨a, ha⟩ := h n (by omega)
    refine ⟨xs ++ [a], by simp [h1], fun i x hx => ?_⟩
    by_cases e : i < n
    · rw [List.getElem?_append_left (by omega)] at hx; exact h2 i x hx
    · have hl := (List.getElem?_eq_some_iff.1 hx).1
      simp at hl
      have : i = n := by omega
      subst this
      rw [List.getElem?_append_right (by omega)] at hx
      simp [h1] at hx
      subst hx; exact ha

theorem cells_at {w : World} {base : Nat} {a : Addr} {n : Nat} {es : List Value} (h : w.cells? base a n = some es) : es.length = n ∧ ∀ j v, es[j]? = some v → w.cell? (a.add j) = some v := by
  unfold World.cells? at h
  split at h
  · refine ⟨by simpa using mapM_some_length h, fun j v hv => ?_⟩
    have hl : j < (List.range n).length := by
      have := (List.getElem?_eq_some_iff.1 hv).1
      rw [mapM_some_length h] at this; simpa using this
    have := mapM_some_get h j j (by simp at hl; simp [hl])
    rw [this]; exact hv
  · cases h

theorem opens_slice {α : Type} {P : Program} {t e : TypeId} {E : Enc α} (ht : P.underlying t = some (.slice e)) (hn : P.cellsOf e = E.n) (h0 : 0 < E.n) (h : Opens P e E.rep) : Opens P t (eSlice E).rep := by
  intro H enc w base spare held fuel cs x hx
  rcases DataW.trod_slice ht hx with ⟨rfl, _⟩ | ⟨a, len, cap, elems, rest, n, _, rfl, _, _, hle, _, hlen, hel, _⟩
  · exact ⟨[], none, 0, 0, rfl, SRep.nil _ _ _ _⟩
  · have hex : ∀ i, i < len → ∃ y, ∃ es, E.rep (mo w) y es ∧ w.cells? base (a.add (i * E.n)) E.n = some es := fun i hi => by
      have h1 := hel i hi
      rw [hn] at h1
      cases hc : w.cells? base (a.add (i * E.n)) E.n with
      | none =>
        rw [hc] at h1
        have : i < elems.length := by omega
        simp [List.getElem?_eq_getElem this] at h1
      | some es =>
        rw [hc, Option.bind_some] at h1
        have : i < elems.length := by omega
        rw [List.getElem?_eq_getElem this] at h1
        obtain ⟨y, hy⟩ := h h1
        exact ⟨y, es, hy, rfl⟩
    obtain ⟨xs, hl, hxs⟩ := list_of len hex
    refine ⟨xs, some a, len, cap, rfl, hl.symm, hle, ?_⟩
    cases len with
    | zero => exact .inl (List.length_eq_zero_iff.1 hl)
    | succ m =>
      obtain ⟨y, es, _, hc⟩ := hex 0 (by omega)
      obtain ⟨hel0, hc0⟩ := cells_at hc
      have hv : ∃ v, es[0]? = some v := ⟨es[0], List.getElem?_eq_getElem (by omega)⟩
      obtain ⟨v, hv⟩ := hv
      have h2 := hc0 0 v hv
      obtain ⟨b, o, sp⟩ := a
      simp only [Nat.zero_mul, World.cell?] at h2
      have hb0 : ((Addr.mk b o sp).add 0).add 0 = Addr.mk b o sp := by cases sp <;> simp [Addr.add]
      rw [hb0] at h2
      simp only at h2
      cases hh : w.heap[b]? with
      | none => simp [hh] at h2
      | some ob =>
        cases ob with
        | cells c ty fz =>
          simp only [hh] at h2
          cases sp with
          | some s => simp at h2
          | none =>
            refine .inr ⟨b, o, c, ty, fz, rfl, hh, fun i x hi => ?_⟩
            obtain ⟨es', he, hc'⟩ := hxs i x hi
            refine ⟨es', he, fun j u hu => ?_⟩
            have := (cells_at hc').2 j u hu
            rw [Addr.add_mid, Addr.add_mid] at this
            simpa [World.cell?, hh] using this
        | _ => simp [hh] at h2

/-- A part of a struct. -/
theorem opens_part {α : Type} {P : Program} {e : TypeId} {R : Mem → α → List Value → Prop} (h : Opens P e R) {H : Type} {enc : TypeId × Value → H} {w : World} {base : Nat} {spare : Nat → Bool} {held : Bool} {fuel : Nat} {cs : List Value} {xs : List (DataW H × List MemPlace)} {i : Nat} {fld : Field} (off k : Nat)
    (hi : i < xs.length) (hx : DataW.trod enc P w base spare held fuel fld.type ((cs.drop fld.offset).take (P.cellsOf fld.type)) = xs[i]?) (he : fld.type = e) (ho : fld.offset = off) (hk : P.cellsOf e = k) : ∃ a, R (mo w) a ((cs.drop off).take k) := by
  subst he ho hk
  rw [List.getElem?_eq_getElem hi] at hx
  exact h hx

theorem uncons {α : Type} {l : List α} {n : Nat} (h : l.length = n + 1) : ∃ v r, l = v :: r ∧ r.length = n := by
  cases l with
  | nil => simp at h
  | cons v r => exact ⟨v, r, rfl, by simpa using h⟩
theorem empty_of {α : Type} {l : List α} (h : l.length = 0) : l = [] := List.length_eq_zero_iff.1 h
theorem agg_of {P : Program} {w : World} {r : Reach} {b0 : Nat} {t : TypeId} {fs : Array Field} {v : Value} (ht : P.underlying t = some (.struct fs)) (h : Value.okWide P w r b0 t v) : v = .agg v.cells := by
  simp only [Value.okWide, ht] at h
  obtain ⟨cs, rfl, _⟩ := h
  rfl

theorem keptBut_tr {M M' : Mem} {H' : List Ent} {w w' : World} (ht : Tr M [] w M' H' w') (may : MemPlace → Prop) : w.keptBut w' may := by
  refine ⟨ht.os, ht.output, fun i hi => ?_⟩
  have h := ht.block i hi (by simp [keys])
  rw [h]
  split
  · rename_i h1 h2
    rw [h1] at h2; cases h2
    exact ⟨rfl, rfl, rfl, fun _ _ => rfl⟩
  · rename_i h1 h2
    rw [h1] at h2; cases h2
    exact .inr ⟨rfl, rfl⟩
  · rfl
theorem sameAt_tr {M M' : Mem} {H' : List Ent} {w w' : World} (ht : Tr M [] w M' H' w') (p : MemPlace) (hp : p.block < w.heap.size) : w.sameAt w' p := by
  cases p with
  | cell b o =>
    have h := ht.block b hp (by simp [keys])
    simp [World.sameAt, World.cell?, h]
  | map b => exact ht.block b hp (by simp [keys])

section
variable {H : Type} {enc : TypeId × Value → H} {P : Program}
theorem trodAll_stays {w w' : World} {sp : Nat → Bool} (K : Kids P (· < P.types.size)) (hz : ∀ t e, t < P.types.size → P.underlying t = some (.slice e) → 0 < P.cellsOf e) :
    ∀ {ts : List TypeId} {vs : List Value} {ds : List (DataW H)} {ps : List MemPlace}, (∀ t ∈ ts, t < P.types.size) → DataW.TrodAll enc P w 0 (fun _ => true) true ts vs ds ps → (∀ p ∈ ps, w.sameAt w' p) → (∀ p ∈ ps, sp p.block = true) →
      DataW.TrodAll enc P w' 0 sp true ts vs ds ps
  | [], [], [], _, _, h, _, _ => h
  | _ :: _, _ :: _, _ :: _, _, hT, ⟨p, q, ⟨n, h1⟩, h2, e⟩, hs, hb =>
    ⟨p, q, ⟨n, DataW.trod_stays K (fun {t e} => hz t e) (fun h => by cases h) (hT _ (List.mem_cons.2 (Or.inl rfl))) h1 (fun x (hx : x ∈ p) => hs x (by rw [e]; exact List.mem_append_left _ hx)) (fun x (hx : x ∈ p) => hb x (by rw [e]; exact List.mem_append_left _ hx))⟩,
      trodAll_stays K hz (fun t ht => hT t (List.mem_cons.2 (Or.inr ht))) h2 (fun x hx => hs x (by rw [e]; exact List.mem_append_right _ hx)) (fun x hx => hb x (by rw [e]; exact List.mem_append_right _ hx)), e⟩

/-- A call that leaves what it found: the row's word. -/
theorem post_tr {f : Func} {s : ChangeSpec} {apart fresh handsOn : Bool} {W W' : World} {args : Array Value} {v : Value} {ds gs : List (DataW H)} {before : List MemPlace} {M M' : Mem} {H' : List Ent}
    (hl : laidOutB P = true) (hm : mapsRowed P = true) (hz : ((List.range P.types.size).all fun t => match P.underlying t with | some (.slice e) => decide (0 < P.cellsOf e) | _ => true) = true)
    (hp : ∀ t ∈ f.params.toList, t < P.types.size) (hv : s.vars = [])
    (hW : DataW.Whole enc P f.params.toList s.vars apart W args.toList ds gs before) (ht : Tr M [] W M' H' W')
    (hres : ∀ (b : Nat) (sp : Nat → Bool) (hd : Bool), DataW.TrodAll enc P W' b sp hd f.resultTypes.toList (v.resultList f.resultTypes.size) (s.fn H (ds ++ gs)).results [])
    (ha : (s.fn H (ds ++ gs)).args = ds) (hg : (s.fn H (ds ++ gs)).vars = []) :
    s.post enc P f apart fresh handsOn false W args v W' := by
  have hlt : ∀ p ∈ before, p.block < W.heap.size := fun p hp => hW.lt p hp
  have hW' := hW
  obtain ⟨p, q, hA, hV, rfl, _, _⟩ := hW
  have hA' := trodAll_stays (w' := W') (sp := fun b => decide (b < W.heap.size)) (kids_rows hl hm) (slices_full_of P hz) hp hA
    (fun x hx => sameAt_tr ht x (hlt x (List.mem_append_left _ hx))) (fun x hx => decide_eq_true (hlt x (List.mem_append_left _ hx)))
  refine ⟨ds, gs, p ++ q, [], p, [], hW', hres _ _ _, by rw [ha]; exact hA', ?_, keptBut_tr ht _, fun h => nomatch h⟩
  rw [hv, hg]
  rfl
end
end Go.Proofs.Ytjbfolnnepjidaa.Tw
