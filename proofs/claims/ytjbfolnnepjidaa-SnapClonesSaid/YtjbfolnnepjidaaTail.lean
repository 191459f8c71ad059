/-
  A region that draws its order, and ends in steps that wait for all others: its head draws, its tail goes in the order of the text.
-/
import Derived.Test.YtjbfolnnepjidaaCall
set_option linter.unusedVariables false
set_option linter.unusedSimpArgs false
namespace Go.Proofs.Ytjbfolnnepjidaa.Tw
open Go

def tailOk (ops : Array Oper) (m : Nat) : Bool :=
  ((List.range ops.size).all fun i => (ops.getD i default).after.all fun e => decide (e.on < i)) &&
  ((List.range ops.size).all fun i => decide (m ≤ i) || match (ops.getD i default).guard with | some (j, _) => decide (j < m) | none => true) &&
  ((List.range ops.size).all fun j => decide (j < m) || (if j = m then (List.range j).all fun i => (ops.getD j default).after.any fun e => Region.binds .any e && e.on == i else (ops.getD j default).after.any fun e => Region.binds .any e && e.on == j - 1))

/-- Behind the head: the tail, in its order. -/
def TailQ (P : Program) (Q : Post) (ops : Array Oper) (l : List Nat) : Post
  | .normal, a, w => wpOps P ops Q l a w
  | e, a, w => Q e a w

section
variable {P : Program} {Q : Post} {ops : Array Oper} {m : Nat}
theorem Oper.wp_post {o : Oper} {a : Act} {w : World} {K : Act → World → Prop} {Q Q' : Post} (hp : ∀ c a w, Q (.panic c) a w → Q' (.panic c) a w) (hl : LetsOut Q → LetsOut Q') (h : o.wp P a w K Q) : o.wp P a w K Q' := by
  unfold Oper.wp at *
  generalize (execOp a.eval o).run P w = r at *
  cases r with
  | ok n w' =>
    cases n <;> simp only [Oper.upon] at h ⊢ <;> first
      | exact h
      | exact Calls.mono h (fun e w'' he => by cases e <;> first | exact he | exact hp _ _ _ he | exact hl he)
  | halt x w' => cases x <;> simp only [Oper.upon] at h ⊢ <;> first | exact h | exact hp _ _ _ h

theorem tail_at {o : Oper} {j : Nat} (ho : ops[j]? = some o) : ops.getD j default = o := by simp [Array.getD_eq_getD_getElem?, ho]

theorem tail_run (hok : tailOk ops m = true) (hm : m ≤ ops.size) (f : Nat) : ∀ (d k : Nat) (L : Array Bool) (a : Act) (w : World), ops.size - k = d → m ≤ k → k ≤ ops.size → L.size = ops.size → (∀ i, i < k → L[i]? = some true) → (∀ i, k ≤ i → i < ops.size → L[i]? = some false) →
    wpOps P ops Q (List.range' k d) a w → wpAny P .any ops Q (f + d) L a w := by
  intro d
  induction d with
  | zero =>
    intro k L a w hd hmk hk hs ht hf h
    have hr : Region.ready .any ops L = [] := by
      apply List.eq_nil_iff_forall_not_mem.2
      intro i hi
      obtain ⟨h1, o, ho, _⟩ := mem_ready.1 hi
      have hlt := (Array.getElem?_eq_some_iff.1 ho).1
      have := ht i (by omega)
      simp [Array.getD_eq_getD_getElem?, this] at h1
    exact wpAny_done hr h _
  | succ d ih =>
    intro k L a w hd hmk hk hs ht hf h
    have hlt : k < ops.size := by omega
    simp only [tailOk, Bool.and_eq_true, List.all_eq_true, List.mem_range, Bool.or_eq_true, decide_eq_true_eq] at hok
    obtain ⟨⟨hac, _⟩, hw⟩ := hok
    have hr : Region.ready .any ops L = [k] := by
      have hk' : k ∈ Region.ready .any ops L := by
        refine mem_ready.2 ⟨?_, ops[k], by simp [hlt], fun e he hb => ?_⟩
        · simp [Array.getD_eq_getD_getElem?, hf k (Nat.le_refl _) hlt]
        · have := hac k hlt
          rw [Array.all_eq_true_iff_forall_mem] at this
          have := this e (by rw [show ops.getD k default = ops[k] from tail_at (by simp [hlt])]; exact he)
          simp only [decide_eq_true_eq] at this
          simp [Array.getD_eq_getD_getElem?, ht _ this]
      have hall : ∀ i ∈ Region.ready .any ops L, i = k := fun i hi => by
        obtain ⟨h1, o, ho, h2⟩ := mem_ready.1 hi
        have hil := (Array.getElem?_eq_some_iff.1 ho).1
        rcases Nat.lt_trichotomy i k with hc | hc | hc
        · simp [Array.getD_eq_getD_getElem?, ht i hc] at h1
        · exact hc
        · exfalso
          have hx : ((ops.getD i default).after.any fun e => Region.binds .any e && e.on == i - 1) = true := by
            rcases hw i hil with hx | hx
            · omega
            · rw [if_neg (by omega)] at hx; exact hx
          rw [tail_at ho, Array.any_eq_true] at hx
          obtain ⟨q, hq, h4⟩ := hx
          simp only [Bool.and_eq_true, beq_iff_eq] at h4
          have h5 := h2 _ (Array.getElem_mem hq) h4.1
          rw [h4.2] at h5
          simp [Array.getD_eq_getD_getElem?, hf (i - 1) (by omega) (by omega)] at h5
      have hnd : (Region.ready .any ops L).Nodup := by unfold Region.ready; exact (List.filter_sublist).nodup List.nodup_range
      match hL : Region.ready .any ops L with
      | [] => rw [hL] at hk'; cases hk'
      | [x] => rw [hL] at hall; rw [hall x (by simp)]
      | x :: y :: z =>
        rw [hL] at hall hnd
        have e1 := hall x (by simp)
        have e2 := hall y (by simp)
        subst e1; subst e2
        simp at hnd
    refine wpAny_all (fuel := f + d) hr (by simp) (fun i hi => ?_)
    simp only [List.mem_singleton] at hi
    subst hi
    rw [List.range'_succ, wpOps_cons] at h
    refine wpOp_mono (fun a' w' h' => ih (i + 1) _ a' w' (by omega) (by omega) (by omega) (by simpa using hs) (fun q hq => ?_) (fun q hq hq2 => ?_) h') h
    · by_cases e : q = i
      · subst e; simp [hs, hlt]
      · rw [Array.getElem?_setIfInBounds_ne (Ne.symm e)]; exact ht q (by omega)
    · rw [Array.getElem?_setIfInBounds_ne (by omega)]; exact hf q (by omega) hq2

theorem head_run (hok : tailOk ops m = true) (hm : m ≤ ops.size) : ∀ (f : Nat) (LA L : Array Bool) (a : Act) (w : World), LA.size = m → L.size = ops.size → (∀ i, i < m → L[i]? = LA[i]?) → (∀ i, m ≤ i → i < ops.size → L[i]? = some false) →
    wpAny P .any (ops.extract 0 m) (TailQ P Q ops (List.range' m (ops.size - m))) f LA a w → wpAny P .any ops Q (f + (ops.size - m)) L a w := by
  have hok' := hok
  simp only [tailOk, Bool.and_eq_true, List.all_eq_true, List.mem_range, Bool.or_eq_true, decide_eq_true_eq] at hok'
  obtain ⟨⟨hac, hgd⟩, hwt⟩ := hok'
  have hA : ∀ i, i < m → (ops.extract 0 m)[i]? = ops[i]? := fun i hi => by simp [Array.getElem?_extract]; omega
  have hAs : (ops.extract 0 m).size = m := by simp; omega
  -- nothing of the head is ready: all of it is listed
  have hall : ∀ (LA : Array Bool), LA.size = m → Region.ready .any (ops.extract 0 m) LA = [] → ∀ i, i < m → LA[i]? = some true := by
    intro LA hs hr i
    induction i using Nat.strongRecOn with
    | _ i ih =>
      intro hi
      have hil : i < LA.size := by omega
      cases hv : LA[i] with
      | true => simp [hil, hv]
      | false =>
        exfalso
        have : i ∈ Region.ready .any (ops.extract 0 m) LA := by
          refine mem_ready.2 ⟨by simp [Array.getD_eq_getD_getElem?, hil, hv], ops[i]'(by omega), by rw [hA i hi]; simp, fun e he hb => ?_⟩
          have h1 := hac i (by omega)
          rw [Array.all_eq_true_iff_forall_mem] at h1
          have h2 := h1 e (by rw [show ops.getD i default = ops[i]'(by omega) from tail_at (by simp)]; exact he)
          simp only [decide_eq_true_eq] at h2
          simp [Array.getD_eq_getD_getElem?, ih _ h2 (by omega)]
        rw [hr] at this
        cases this
  intro f
  induction f with
  | zero =>
    intro LA L a w h1 h2 h3 h4 h
    exact tail_run hok hm 0 _ m L a w rfl (Nat.le_refl _) hm h2 (fun i hi => by rw [h3 i hi]; exact hall LA h1 h.1 i hi) h4 h.2
  | succ f ih =>
    intro LA L a w h1 h2 h3 h4 h
    by_cases hr : Region.ready .any (ops.extract 0 m) LA = []
    · exact tail_run hok hm (f + 1) _ m L a w rfl (Nat.le_refl _) hm h2 (fun i hi => by rw [h3 i hi]; exact hall LA h1 hr i hi) h4 (h.1 hr)
    · have hsub : ∀ i ∈ Region.ready .any ops L, i < m ∧ i ∈ Region.ready .any (ops.extract 0 m) LA := fun i hi => by
        obtain ⟨g1, o, ho, g2⟩ := mem_ready.1 hi
        have hil := (Array.getElem?_eq_some_iff.1 ho).1
        by_cases hlt : i < m
        · refine ⟨hlt, mem_ready.2 ⟨?_, o, by rw [hA i hlt]; exact ho, fun e he hb => ?_⟩⟩
          · simpa [Array.getD_eq_getD_getElem?, h3 i hlt] using g1
          · have g3 := g2 e he hb
            have g4 := hac i hil
            rw [Array.all_eq_true_iff_forall_mem] at g4
            have g5 := g4 e (by rw [tail_at ho]; exact he)
            simp only [decide_eq_true_eq] at g5
            simpa [Array.getD_eq_getD_getElem?, h3 e.on (by omega)] using g3
        · exfalso
          -- some of the head is not listed: a step of the tail waits for it
          obtain ⟨x, xs, hx⟩ := List.exists_cons_of_ne_nil hr
          have hx' : x ∈ Region.ready .any (ops.extract 0 m) LA := by rw [hx]; simp
          obtain ⟨q1, ox, q2, _⟩ := mem_ready.1 hx'
          have hxm : x < m := by have := (Array.getElem?_eq_some_iff.1 q2).1; omega
          have hne : ∃ y, L.getD y true = false ∧ y < L.size ∧ ((ops.getD i default).after.any fun e => Region.binds .any e && e.on == y) = true := by
            by_cases him : i = m
            · refine ⟨x, ?_, by omega, ?_⟩
              · have hxl : x < LA.size := by omega
                have e2 : L[x]? = LA[x]? := h3 x hxm
                simp only [Array.getD_eq_getD_getElem?, e2] at q1 ⊢
                exact q1
              · rcases hwt i hil with hc | hc
                · omega
                · rw [if_pos him] at hc
                  exact List.all_eq_true.1 hc x (by simp; omega)
            · refine ⟨i - 1, ?_, by omega, ?_⟩
              · simp [Array.getD_eq_getD_getElem?, h4 (i - 1) (by omega) (by omega)]
              · rcases hwt i hil with hc | hc
                · omega
                · rw [if_neg him] at hc; exact hc
          obtain ⟨y, e1, e3, g3⟩ := hne
          rw [tail_at ho, Array.any_eq_true] at g3
          obtain ⟨q, hq, g4⟩ := g3
          simp only [Bool.and_eq_true, beq_iff_eq] at g4
          have g5 := g2 _ (Array.getElem_mem hq) g4.1
          rw [g4.2] at g5
          simp [Array.getD_eq_getD_getElem?, e3] at e1 g5
          rw [e1] at g5; cases g5
      rw [show f + 1 + (ops.size - m) = f + (ops.size - m) + 1 by omega]
      refine ⟨fun h0 => ?_, fun i hi => ?_⟩
      · exfalso
        obtain ⟨x, xs, hx⟩ := List.exists_cons_of_ne_nil hr
        have hx' : x ∈ Region.ready .any (ops.extract 0 m) LA := by rw [hx]; simp
        obtain ⟨q1, ox, q2, q3⟩ := mem_ready.1 hx'
        have hxm : x < m := by have := (Array.getElem?_eq_some_iff.1 q2).1; omega
        have : x ∈ Region.ready .any ops L := by
          refine mem_ready.2 ⟨by simpa [Array.getD_eq_getD_getElem?, h3 x hxm] using q1, ox, by rw [← hA x hxm]; exact q2, fun e he hb => ?_⟩
          have g4 := hac x (by omega)
          rw [Array.all_eq_true_iff_forall_mem] at g4
          have g5 := g4 e (by rw [tail_at (by rw [← hA x hxm]; exact q2)]; exact he)
          simp only [decide_eq_true_eq] at g5
          simpa [Array.getD_eq_getD_getElem?, h3 e.on (by omega)] using q3 e he hb
        rw [h0] at this
        cases this
      · obtain ⟨him, hi'⟩ := hsub i hi
        have hop := h.2 i hi'
        unfold wpOp at hop ⊢
        rw [hA i him] at hop
        have hk : ∀ a' w', wpAny P .any (ops.extract 0 m) (TailQ P Q ops (List.range' m (ops.size - m))) f (LA.setIfInBounds i true) a' w' → wpAny P .any ops Q (f + (ops.size - m)) (L.setIfInBounds i true) a' w' := fun a' w' h' =>
          ih _ _ a' w' (by simpa using h1) (by simpa using h2) (fun q hq => by
            by_cases e : q = i
            · subst e; have e1 : q < LA.size := by omega
              have e2 : q < L.size := by omega
              simp [e1, e2]
            · rw [Array.getElem?_setIfInBounds_ne (Ne.symm e), Array.getElem?_setIfInBounds_ne (Ne.symm e)]; exact h3 q hq) (fun q hq hq2 => by rw [Array.getElem?_setIfInBounds_ne (by omega)]; exact h4 q hq hq2) h'
        cases ho : ops[i]? with
        | none => rw [ho] at hop; exact hk _ _ hop
        | some o =>
          rw [ho] at hop
          have hil := (Array.getElem?_eq_some_iff.1 ho).1
          have hwd : Region.wanted o (yielded (ops.extract 0 m) a.tmps) = Region.wanted o (yielded ops a.tmps) := by
            unfold Region.wanted
            cases hg : o.guard with
            | none => rfl
            | some g =>
              obtain ⟨j, want⟩ := g
              have := hgd i hil
              rw [tail_at ho, hg] at this
              have hj : j < m := by
                rcases this with hc | hc
                · omega
                · simpa using hc
              simp only [yielded, hA j hj]
          simp only [hwd] at hop ⊢
          split
          · rename_i hw1
            rw [if_pos hw1] at hop
            rcases hop with hop | ⟨hop, a0, w0, hq⟩
            · exact .inl (Oper.wp_mono hk (Oper.wp_post (fun c a w h => h) (fun ⟨a, w, h⟩ => ⟨a, w, h⟩) hop))
            · exact .inr ⟨hop, a0, w0, hq⟩
          · rename_i hw1
            rw [if_neg hw1] at hop
            exact hk _ _ hop
end

section
variable {C : Cx} {Q : Post} {M : Mem} {H : List Ent} {l : Slots} {ops : Array Oper}
instance {P : Program} {L : List Nat} [h : PQ Q] : PQ (TailQ P Q ops L) := ⟨h.panic, h.outgrown⟩
theorem Cd.drawT {id : Nat} {Hs : List Ent} [PQ Q] (m : Nat) (L : Sched) (hm : C.P.follows .mixedOrders = true) (hsel : noSelect (ops.extract 0 m) = true) (hsel' : noSelect ops = true) (ht : tailOk ops m = true) (hle : Nat.ble m ops.size = true)
    (hok : okSeq (ops.extract 0 m) m L (Array.replicate m false) = true) (hi : Incl Hs H) (h : Opd C (TailQ C.P Q ops (List.range' m (ops.size - m))) (Rd M Hs) (ops.extract 0 m) L M H l) : Cd C Q (.region id ops true) M H l := fun a w ha => by
  have h0 := ha.drew (w.drawn + 1)
  have hle' : m ≤ ops.size := by simpa using hle
  have h1 := wpAny_of_held _ _ _ _ (seq_sound hsel m L _ a { w with drawn := w.drawn + 1 } hok (h0.rd.mono (Mem.le_refl _) hi) (h a _ h0))
  refine region_any hm hsel' ?_
  have h2 := head_run ht hle' m (Array.replicate m false) (Array.replicate ops.size false) a _ (by simp) (by simp) (fun i hi => by simp [hi, Nat.lt_of_lt_of_le hi hle']) (fun i hi hi2 => by simp [hi2]) h1
  rw [show m + (ops.size - m) = ops.size by omega] at h2
  exact h2
/-- Into the tail. -/
theorem Ex.tail {L : List Nat} {Z : List Oper} (hz : (L.map fun i => ops[i]?) = Z.map some) (h : Ops true C Q ops Z M H l) : Ex C (TailQ C.P Q ops L) .normal M H l := fun a w ha => by
  have h1 := h a w ha
  show wpOps C.P ops Q L a w
  clear h ha
  induction L generalizing Z a w with
  | nil =>
    cases Z with
    | nil => exact h1
    | cons z Z => simp at hz
  | cons i L ih =>
    cases Z with
    | nil => simp at hz
    | cons z Z =>
      simp only [List.map_cons, List.cons.injEq] at hz
      obtain ⟨h0, hz⟩ := hz
      rw [wpOps_cons]
      unfold wpOp
      simp only [h0]
      simp only [opsW, opW] at h1
      have hk : ∀ a w, opsW true C ops Q Z a w → wpOps C.P ops Q L a w := fun a w hh => ih hz a w hh
      split
      · rename_i hw
        rw [if_pos hw] at h1
        exact h1.imp (Oper.wp_mono hk) id
      · rename_i hw
        rw [if_neg hw] at h1
        exact hk _ _ h1
theorem range_drop (m : Nat) (ops : Array Oper) : ((List.range' m (ops.size - m)).map fun i => ops[i]?) = (ops.toList.drop m).map some := by
  apply List.ext_getElem?
  intro k
  have e3 : ops.toList[m + k]? = ops[m + k]? := by simp
  rw [List.getElem?_map, List.getElem?_map, List.getElem?_drop, e3]
  by_cases h : k < ops.size - m
  · have : m + k < ops.size := by omega
    simp [h, this]
  · have : ops.size ≤ m + k := by omega
    have e1 : (List.range' m (ops.size - m))[k]? = none := List.getElem?_eq_none (by simp; omega)
    have e2 : ops[m + k]? = none := Array.getElem?_eq_none this
    rw [e1, e2]; rfl
theorem Ex.tailD {m : Nat} (h : Ops true C Q ops (ops.toList.drop m) M H l) : Ex C (TailQ C.P Q ops (List.range' m (ops.size - m))) .normal M H l := Ex.tail (range_drop m ops) h
end
end Go.Proofs.Ytjbfolnnepjidaa.Tw
