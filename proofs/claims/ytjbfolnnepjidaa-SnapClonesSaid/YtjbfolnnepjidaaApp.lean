/-
  append, literal slices and make, for the generated walks of this claim.
-/
import Derived.Test.YtjbfolnnepjidaaMems
set_option linter.unusedVariables false
set_option linter.unusedSimpArgs false
namespace Go.Proofs.Ytjbfolnnepjidaa.Tw
open Go

/-- A slice that can be read as things stand: frozen, or owned. -/
structure Rds {α : Type} (M : Mem) (H : List Ent) (E : Enc α) (xs : List α) (a : Option Addr) (n : Nat) : Prop where
  len : n = xs.length
  out : xs = [] ∨ ∃ b o cs t fz, a = some ⟨b, o, none⟩ ∧ Held M H b (.cells cs t fz) ∧ ∀ i x, xs[i]? = some x → ∃ es, E.rep M x es ∧ At cs (o + i * E.n) es
theorem SRep.rds {α : Type} {M : Mem} {E : Enc α} {xs : List α} {a : Option Addr} {n c : Nat} (h : SRep M E xs a n c) (H : List Ent) : Rds M H E xs a n :=
  ⟨h.len, h.out.imp id fun ⟨b, o, cs, t, fz, h1, h2, h3⟩ => ⟨b, o, cs, t, fz, h1, .inl h2, h3⟩⟩
theorem OSl.rds {α : Type} {M : Mem} {E : Enc α} {xs : List α} {a : Option Addr} {n c : Nat} {t : TypeId} {e : Ent} (h : OSl M E xs a n c t e) {H : List Ent} (j : Nat) (hj : H[j]? = some e) : Rds M H E xs a n :=
  ⟨h.len, by
    rcases h.out with ⟨_, h, _⟩ | ⟨b, cs, h1, rfl, h2, h3⟩
    · exact .inl h
    · exact .inr ⟨b, 0, cs, t, (0, 0), h1, .inr (List.mem_of_getElem? hj), fun i x hi => by rw [Nat.zero_add]; exact h3 i x hi⟩⟩
theorem Rds.one {α : Type} {M : Mem} {H : List Ent} {E : Enc α} {x : α} {b : Nat} {cs : Array Value} {t : TypeId} {fz : Nat × Nat} (j : Nat) (hj : H[j]? = some (some (b, .cells cs t fz))) (hr : E.rep M x cs.toList) : Rds M H E [x] (some ⟨b, 0, none⟩) 1 :=
  ⟨rfl, .inr ⟨b, 0, cs, t, fz, rfl, .inr (List.mem_of_getElem? hj), fun i y hi => by
    cases i with
    | zero => simp at hi; subst hi; exact ⟨_, hr, by simpa using At.all cs⟩
    | succ i => simp at hi⟩⟩
theorem Rds.pt {α : Type} {M : Mem} {H : List Ent} {E : Enc α} {xs : List α} {a : Option Addr} {n : Nat} (h : Rds M H E xs a n) {i : Nat} {x : α} (hi : xs[i]? = some x) : ∃ es, E.rep M x es ∧ Pt M H (pa a (i * E.n)) es := by
  rcases h.out with rfl | ⟨b, o, cs, t, fz, rfl, hb, hx⟩
  · simp at hi
  · obtain ⟨es, h1, h2⟩ := hx i x hi
    exact ⟨es, h1, ⟨b, o + i * E.n, cs, t, fz, pa_some _ _ _, hb, h2⟩⟩

/-- The cells of a slice's elements, one behind the other. -/
theorem cells_of {α : Type} {M : Mem} {E : Enc α} {xs : List α} {cs : Array Value} {o : Nat} (hn : 0 < E.n) (h : ∀ i x, xs[i]? = some x → ∃ es, E.rep M x es ∧ At cs (o + i * E.n) es) :
    ((cs.toList.drop o).take (xs.length * E.n)).length = xs.length * E.n ∧ (∀ u ∈ (cs.toList.drop o).take (xs.length * E.n), u.oneCell' = true) ∧
    ∀ j, j < xs.length * E.n → ((cs.toList.drop o).take (xs.length * E.n))[j]? = cs[o + j]? := by
  have key : ∀ j, j < xs.length * E.n → ∃ u, cs[o + j]? = some u ∧ u.oneCell' = true := fun j hj => by
    have hi : j / E.n < xs.length := Nat.div_lt_of_lt_mul (by rw [Nat.mul_comm]; exact hj)
    obtain ⟨es, h1, h2⟩ := h (j / E.n) _ (List.getElem?_eq_getElem hi)
    have hr : j % E.n < es.length := by rw [E.len h1]; exact Nat.mod_lt _ hn
    have := h2 (j % E.n) _ (List.getElem?_eq_getElem hr)
    rw [Nat.add_assoc, Nat.mul_comm (j / E.n), Nat.div_add_mod] at this
    exact ⟨_, this, E.cell h1 _ (List.getElem_mem hr)⟩
  have hat : ∀ j, j < xs.length * E.n → ((cs.toList.drop o).take (xs.length * E.n))[j]? = cs[o + j]? := fun j hj => by
    rw [List.getElem?_take_of_lt hj, List.getElem?_drop]; simp
  have hlen : ((cs.toList.drop o).take (xs.length * E.n)).length = xs.length * E.n := by
    rcases Nat.eq_zero_or_pos (xs.length * E.n) with h0 | h0
    · simp [h0]
    · obtain ⟨u, hu, _⟩ := key (xs.length * E.n - 1) (by omega)
      have hl := (Array.getElem?_eq_some_iff.1 hu).1
      simp; omega
  refine ⟨hlen, fun u hu => ?_, hat⟩
  obtain ⟨j, hj, rfl⟩ := List.getElem_of_mem hu
  rw [hlen] at hj
  obtain ⟨v, hv, hc⟩ := key j hj
  have := hat j hj
  rw [List.getElem?_eq_getElem (by rw [hlen]; exact hj), hv] at this
  simp only [Option.some.injEq] at this
  rw [this]; exact hc

theorem run_append_zero {P : Program} {T ty e n : Nat} (hT : Sl P T e n) (a a2 : Option Addr) (k c c2 : Nat) (hk : k ≤ c) (w : World) : (Builtin.append_ #[T, T] ty #[.slice a k c, .slice a2 0 c2]).run P w = .ok (.slice a k c) w := by
  obtain ⟨u1, u2⟩ := hT
  cases hq : P.info? e with
  | none => simp [hq] at u2
  | some q =>
    cases a <;> cases a2 <;> simp [Builtin.append_, run_underlying u1, sizeOf, typeInfo, hq, Builtin.lenOf, Builtin.firstCells, loadCells, loadCellsFrom, hk, storeCells]

/-- A new block in the place of an owned one. -/
theorem Tr.replace {M0 M : Mem} {H0 H : List Ent} {w0 w : World} {j : Nat} {e e' : Ent} (h : Tr M0 H0 w0 M (e' :: H) w) (hj : H[j]? = some e) : Tr M0 H0 w0 M (H.set j e') w := by
  rw [set_at e' hj]
  refine Tr.drop (e := e) (h.perm ?_)
  conv => lhs; rw [split_at hj]
  exact ((List.perm_middle (a := e) (l₁ := e' :: H.take j) (l₂ := H.drop (j + 1))).trans (.cons e List.perm_middle.symm))

/-- What an append comes to. -/
def App {α : Type} (M : Mem) (H : List Ent) (E : Enc α) (zs : List α) (t : TypeId) (j : Nat) (v : Value) (M' : Mem) (H' : List Ent) : Prop :=
  ∃ a n c e, v = .slice a n c ∧ M = M' ∧ H' = H.set j e ∧ OSl M E zs a n c t e

theorem append_any {P : Program} {α : Type} {M0 M : Mem} {H0 H : List Ent} {w0 w : World} {E : Enc α} {T ty e by_ j : Nat} {z : Value} {xs ys : List α} {a a2 : Option Addr} {k c m c2 : Nat} {ent : Ent} (ht : Tr M0 H0 w0 M H w)
    (hT : Sl P T e E.n) (hE : El P e E.n by_ z) (hD : OSl M E xs a k c e ent) (hj : H[j]? = some ent) (hS : Rds M H E ys a2 m) (hlim : xs.length + ys.length ≤ 4294967296) (hby : by_ ≤ 4096) (hpos : 0 < E.n) :
    ∃ v w' H', (Builtin.append_ #[T, T] ty #[.slice a k c, .slice a2 m c2]).run P w = .ok v w' ∧ Tr M0 H0 w0 M H' w' ∧ App M H E (xs ++ ys) e j v M H' := by
  have hk := hD.len
  have hm := hS.len
  rcases hS.out with rfl | ⟨b2, o2, cs2, t2, fz2, rfl, hh2, hx2⟩
  · simp only [List.length_nil] at hm; subst hm
    refine ⟨_, w, H, run_append_zero hT a a2 k c c2 hD.cap w, ht, a, k, c, ent, rfl, rfl, ?_, by rw [List.append_nil]; exact hD⟩
    obtain ⟨hl, rfl⟩ := List.getElem?_eq_some_iff.1 hj
    rw [List.set_getElem_self]
  obtain ⟨u1, _⟩ := hT
  obtain ⟨i, q1, q2, q3, q4, q5⟩ := hE.get
  obtain ⟨n1, n2, n3⟩ := cells_of (M := M) hpos hx2
  have hb2 := hh2.heap ht.rd
  have hnews : ∀ r v, ((cs2.toList.drop o2).take (ys.length * E.n))[r]? = some v → w.cell? ((⟨b2, o2, none⟩ : Addr).add r) = some v := fun r v hv => by
    have hr : r < ys.length * E.n := by have := (List.getElem?_eq_some_iff.1 hv).1; rw [n1] at this; exact this
    rw [n3 r hr] at hv
    rw [Addr.add_mid]
    simp [World.cell?, hb2, hv]
  subst hm
  have hnl : ((cs2.toList.drop o2).take (ys.length * E.n)).length = ys.length * i.size := by rw [n1, q2]
  have hbytes : (xs.length + ys.length) * i.bytes ≤ 140737488355328 := by
    rw [q3]
    calc (xs.length + ys.length) * by_ ≤ 4294967296 * 4096 := Nat.mul_le_mul hlim hby
      _ ≤ _ := by decide
  -- the elements behind the append, in whatever array whose cells are these
  have elems : ∀ (cs : Array Value) (old : List Value), (∀ r, r < xs.length * E.n → cs[r]? = old[r]?) → (∀ r, r < ys.length * E.n → cs[xs.length * E.n + r]? = cs2[o2 + r]?) → (∀ i x, xs[i]? = some x → ∃ es, E.rep M x es ∧ ∀ r v, es[r]? = some v → old[i * E.n + r]? = some v) →
      ∀ i x, (xs ++ ys)[i]? = some x → ∃ es, E.rep M x es ∧ At cs (i * E.n) es := by
    intro cs old h1 h2 h3 i x hi
    by_cases hlt : i < xs.length
    · rw [List.getElem?_append_left hlt] at hi
      obtain ⟨es, e1, e2⟩ := h3 i x hi
      refine ⟨es, e1, fun r v hv => ?_⟩
      have hr : r < E.n := by have := (List.getElem?_eq_some_iff.1 hv).1; rw [E.len e1] at this; exact this
      rw [h1 _ (by calc i * E.n + r < i * E.n + E.n := by omega
                    _ = (i + 1) * E.n := by rw [Nat.add_mul, Nat.one_mul]
                    _ ≤ _ := Nat.mul_le_mul_right _ hlt)]
      exact e2 r v hv
    · rw [List.getElem?_append_right (by omega)] at hi
      obtain ⟨es, e1, e2⟩ := hx2 _ x hi
      refine ⟨es, e1, fun r v hv => ?_⟩
      have hr : r < E.n := by have := (List.getElem?_eq_some_iff.1 hv).1; rw [E.len e1] at this; exact this
      have hiy : i - xs.length < ys.length := (List.getElem?_eq_some_iff.1 hi).1
      have e3 : i * E.n + r = xs.length * E.n + ((i - xs.length) * E.n + r) := by rw [← Nat.add_assoc, ← Nat.add_mul]; congr 2; omega
      rw [e3, h2 _ (by calc (i - xs.length) * E.n + r < (i - xs.length) * E.n + E.n := by omega
                        _ = (i - xs.length + 1) * E.n := by rw [Nat.add_mul, Nat.one_mul]
                        _ ≤ _ := Nat.mul_le_mul_right _ hiy), ← Nat.add_assoc]
      exact e2 r v hv
  rcases hD.out with ⟨rfl, rfl, rfl, rfl⟩ | ⟨b, cs, rfl, rfl, hcs, hx⟩
  · simp only [List.length_nil] at hk; subst hk
    simp only [List.length_nil, Nat.zero_add] at hbytes hlim
    by_cases h0 : ys.length = 0
    · have : ys = [] := List.eq_nil_of_length_eq_zero h0
      subst this
      refine ⟨_, w, H, run_append_zero (e := e) (n := E.n) ⟨u1, by simp [q1, q2]⟩ none (some ⟨b2, o2, none⟩) 0 0 c2 (Nat.le_refl _) w, ht, none, 0, 0, none, rfl, rfl, ?_, OSl.nil M E e⟩
      obtain ⟨hl, h⟩ := List.getElem?_eq_some_iff.1 hj
      rw [← h, List.set_getElem_self]
    · have hr := run_append_nil (P := P) w T ty e i z u1 q1 q4 ⟨b2, o2, none⟩ ys.length c2 _ hnl hnews (by omega) (by omega) (by omega)
      refine ⟨_, _, _, hr, ((ht.drew (w.drawn + 1)).alloc _).replace hj, _, _, _, _, rfl, rfl, rfl, ?_⟩
      refine ⟨by simp, grownCap_ge w _ 0 e, .inr ⟨_, _, rfl, rfl, ?_, ?_⟩⟩
      · simp only [Array.size_append, List.size_toArray, size_zeroCells, q5, n1, ← Nat.add_mul]
        congr 1
        have := grownCap_ge w ys.length 0 e
        omega
      · refine elems _ [] (by simp) (fun r hr' => ?_) (by simp)
        simp only [List.length_nil, Nat.zero_mul, Nat.zero_add]
        rw [Array.getElem?_append_left (by simp only [List.size_toArray]; rw [n1]; exact hr')]
        rw [List.getElem?_toArray]
        exact n3 r hr'
  · obtain ⟨hbh, _⟩ := ht.st.own b _ (List.mem_of_getElem? hj)
    obtain ⟨o1, o2', o3⟩ := cells_of (M := M) (o := 0) hpos (fun i x hi => by rw [Nat.zero_add]; exact hx i x hi)
    simp only [List.drop_zero, Nat.zero_add] at o1 o2' o3
    have hks : k * i.size = xs.length * E.n := by rw [hk, q2]
    by_cases hroom : k + ys.length ≤ c
    · have hfit : k * i.size + ((cs2.toList.drop o2).take (ys.length * E.n)).length ≤ cs.size := by
        rw [hks, n1, hcs, ← Nat.add_mul, ← hk]; exact Nat.mul_le_mul_right _ hroom
      have hr := run_append_room (P := P) (w := w) T ty e i u1 q1 b k c cs hbh ⟨b2, o2, none⟩ ys.length c2 _ hnl hnews n2 hroom hfit
      refine ⟨_, _, _, hr, ht.setAt hj ⟨rfl, rfl, rfl⟩ (setRow_set w b _ cs e (0, 0) hbh), _, _, _, _, rfl, rfl, rfl, ?_⟩
      refine ⟨by rw [List.length_append, hk], hroom, .inr ⟨_, _, rfl, rfl, ?_, ?_⟩⟩
      · simp only [List.size_toArray, List.length_append, List.length_take, List.length_drop, Array.length_toList] at hfit ⊢
        omega
      · refine elems _ (cs.toList.take (xs.length * E.n)) (fun r hr' => ?_) (fun r hr' => ?_) (fun i x hi => ?_)
        · rw [List.getElem?_toArray, hks, List.append_assoc, List.getElem?_append_left (by rw [o1]; exact hr')]
        · rw [List.getElem?_toArray, hks, List.append_assoc, List.getElem?_append_right (by rw [o1]; omega), o1, Nat.add_sub_cancel_left, List.getElem?_append_left (by rw [n1]; exact hr')]
          exact n3 r hr'
        · obtain ⟨es, e1, e2⟩ := hx i x hi
          refine ⟨es, e1, fun r v hv => ?_⟩
          have hr : r < E.n := by have := (List.getElem?_eq_some_iff.1 hv).1; rw [E.len e1] at this; exact this
          have hlt : i < xs.length := (List.getElem?_eq_some_iff.1 hi).1
          rw [o3 _ (by calc i * E.n + r < i * E.n + E.n := by omega
                        _ = (i + 1) * E.n := by rw [Nat.add_mul, Nat.one_mul]
                        _ ≤ _ := Nat.mul_le_mul_right _ hlt)]
          exact e2 r v hv
    · have holds : ∀ r v, (cs.toList.take (xs.length * E.n))[r]? = some v → w.cell? ((⟨b, 0, none⟩ : Addr).add r) = some v := fun r v hv => by
        have hr : r < xs.length * E.n := by have := (List.getElem?_eq_some_iff.1 hv).1; rw [o1] at this; exact this
        rw [o3 r hr] at hv
        rw [Addr.add_mid, Nat.zero_add]
        simp [World.cell?, hbh, hv]
      have hr := run_append_grow (P := P) w T ty e i z u1 q1 q4 ⟨b, 0, none⟩ k c _ (by rw [o1, hks]) holds ⟨b2, o2, none⟩ ys.length c2 _ hnl hnews (by omega) (by omega) (growslice_fits (by omega) (by rw [hk]; exact hbytes))
      refine ⟨_, _, _, hr, ((ht.drew (w.drawn + 1)).alloc _).replace hj, _, _, _, _, rfl, rfl, rfl, ?_⟩
      refine ⟨by rw [List.length_append, hk], grownCap_ge w _ c e, .inr ⟨_, _, rfl, rfl, ?_, ?_⟩⟩
      · simp only [Array.size_append, List.size_toArray, size_zeroCells, q5, n1, o1, ← Nat.add_mul]
        congr 1
        have := grownCap_ge w (k + ys.length) c e
        omega
      · refine elems _ (cs.toList.take (xs.length * E.n)) (fun r hr' => ?_) (fun r hr' => ?_) (fun i x hi => ?_)
        · rw [Array.append_assoc, Array.getElem?_append_left (by simp only [List.size_toArray]; rw [o1]; exact hr'), List.getElem?_toArray]
        · rw [Array.append_assoc, Array.getElem?_append_right (by simp only [List.size_toArray]; rw [o1]; omega)]
          simp only [List.size_toArray]
          rw [o1, Nat.add_sub_cancel_left, Array.getElem?_append_left (by simp only [List.size_toArray]; rw [n1]; exact hr'), List.getElem?_toArray]
          exact n3 r hr'
        · obtain ⟨es, e1, e2⟩ := hx i x hi
          refine ⟨es, e1, fun r v hv => ?_⟩
          have hr : r < E.n := by have := (List.getElem?_eq_some_iff.1 hv).1; rw [E.len e1] at this; exact this
          have hlt : i < xs.length := (List.getElem?_eq_some_iff.1 hi).1
          rw [o3 _ (by calc i * E.n + r < i * E.n + E.n := by omega
                        _ = (i + 1) * E.n := by rw [Nat.add_mul, Nat.one_mul]
                        _ ≤ _ := Nat.mul_le_mul_right _ hlt)]
          exact e2 r v hv

section
variable {C : Cx} {o : Oper} {l : Slots} {M : Mem} {H : List Ent}
theorem run_append {α : Type} {E : Enc α} {x y : Operand} {T e by_ : Nat} {z : Value} {xs ys : List α} {a a2 : Option Addr} {k c m c2 : Nat} {ent : Ent} (j : Nat) (ho : o.op = .call { callee := .builtin .append, args := #[x, y], argTypes := #[T, T] })
    (hT : Sl C.P T e E.n) (hE : El C.P e E.n by_ z) (hx : ev l x = some (.slice a k c)) (hy : ev l y = some (.slice a2 m c2)) (hD : OSl M E xs a k c e ent) (hj : H[j]? = some ent) (hS : Rds M H E ys a2 m)
    (hlim : xs.length + ys.length ≤ 4294967296) (hby : Nat.ble by_ 4096 = true) (hpos : Nat.blt 0 E.n = true) : RunR C o M H l (App M H E (xs ++ ys) e j) := fun ρ w ha ht => by
  obtain ⟨v, w', H', h1, h2, h3⟩ := append_any (ty := o.type) (c2 := c2) ht hT hE hD hj hS hlim (by simpa using hby) (by simpa using hpos)
  exact ⟨v, w', M, H', by simp [execOp, ho, ha x _ hx, ha y _ hy, resolve, invoke, builtin, Sem.run_bind, h1], h2, Mem.le_refl _, h3⟩
end
end Go.Proofs.Ytjbfolnnepjidaa.Tw
