/-
  Owned slices that are read in part, stored into, copied into, and made: for the generated walks of this claim.
-/
import Derived.Test.YtjbfolnnepjidaaShort
import Derived.Laws.MakeOwn
import Derived.Laws.CopyRow
set_option linter.unusedVariables false
set_option linter.unusedSimpArgs false
namespace Go.Proofs.Ytjbfolnnepjidaa.Tw
open Go

/-- An element within an entry. -/
structure ElE (e : Ent) (p : Option Addr) (es : List Value) : Prop where
  out : ∃ b o cs t fz, p = some ⟨b, o, none⟩ ∧ e = some (b, .cells cs t fz) ∧ At cs o es
theorem ElE.pt {e : Ent} {p : Option Addr} {es : List Value} {M : Mem} {H : List Ent} (h : ElE e p es) (j : Nat) (hj : nthO j H = some e) : Pt M H p es := by
  rw [nthO_eq] at hj
  obtain ⟨b, o, cs, t, fz, rfl, rfl, ha⟩ := h
  exact ⟨⟨b, o, cs, t, fz, rfl, .inr (List.mem_of_getElem? hj), ha⟩⟩
theorem ElE.ne {e : Ent} {a : Option Addr} {k : Nat} {es : List Value} (h : ElE e (pa a k) es) : a ≠ none := by
  rintro rfl
  obtain ⟨b, o, cs, t, fz, h, _⟩ := h
  cases h
/-- A slice that is read out of an entry. -/
structure RdE {α : Type} (M : Mem) (E : Enc α) (xs : List α) (a : Option Addr) (n c : Nat) (e : Ent) : Prop where
  len : n = xs.length
  cap : n ≤ c
  out : xs = [] ∨ ∃ b o cs t fz, a = some ⟨b, o, none⟩ ∧ e = some (b, .cells cs t fz) ∧ ∀ i x, xs[i]? = some x → ∃ es, E.rep M x es ∧ At cs (o + i * E.n) es
section
variable {α : Type} {M M' : Mem} {E : Enc α} {xs : List α} {a : Option Addr} {n c : Nat} {t : TypeId} {e : Ent} {H : List Ent}
theorem RdE.mono (hm : Mem.le M M') (h : RdE M E xs a n c e) : RdE M' E xs a n c e :=
  ⟨h.len, h.cap, h.out.imp id fun ⟨b, o, cs, t, fz, ha, he, hx⟩ => ⟨b, o, cs, t, fz, ha, he, fun i x hi => let ⟨es, h1, h2⟩ := hx i x hi; ⟨es, E.mono hm h1, h2⟩⟩⟩
theorem RdE.nil : RdE M E ([] : List α) none 0 0 none := ⟨rfl, Nat.le_refl _, .inl rfl⟩
theorem OSl.rde (h : OSl M E xs a n c t e) : RdE M E xs a n c e :=
  ⟨h.len, h.cap, by
    rcases h.out with ⟨_, h, _⟩ | ⟨b, cs, h1, h2, _, h3⟩
    · exact .inl h
    · exact .inr ⟨b, 0, cs, t, (0, 0), h1, h2, fun i x hi => by rw [Nat.zero_add]; exact h3 i x hi⟩⟩
theorem RdE.rde (h : RdE M E xs a n c e) : RdE M E xs a n c e := h
theorem RdE.rds (h : RdE M E xs a n c e) (j : Nat) (hj' : nthO j H = some e) : Rds M H E xs a n :=
  have hj : H[j]? = some e := by rw [← nthO_eq]; exact hj'
  ⟨h.len, h.out.imp id fun ⟨b, o, cs, t, fz, h1, h2, h3⟩ => ⟨b, o, cs, t, fz, h1, .inr (by rw [← h2]; exact List.mem_of_getElem? hj), h3⟩⟩
theorem RdE.empty (h : RdE M E xs a n c e) (ha : a.isNone = true) : xs = [] := by
  rcases h.out with h | ⟨b, q, cs, t, fz, rfl, _⟩
  · exact h
  · cases ha
theorem RdE.el (h : RdE M E xs a n c e) {i : Nat} {x : α} (hx : xs[i]? = some x) : ∃ es, E.rep M x es ∧ ElE e (pa a (i * E.n)) es := by
  rcases h.out with rfl | ⟨b, o, cs, t, fz, rfl, rfl, h3⟩
  · simp at hx
  · obtain ⟨es, h1, h2⟩ := h3 i x hx
    exact ⟨es, h1, ⟨b, o + i * E.n, cs, t, fz, pa_some _ _ _, rfl, h2⟩⟩
theorem OSl.el (h : OSl M E xs a n c t e) {i : Nat} {x : α} (hx : xs[i]? = some x) : ∃ es, E.rep M x es ∧ ElE e (pa a (i * E.n)) es := h.rde.el hx
theorem RdE.win (h : RdE M E xs a n c e) (lo hi : Nat) (h1 : lo ≤ hi) (h2 : hi ≤ xs.length) : RdE M E ((xs.drop lo).take (hi - lo)) (if c = lo then a else pa a (lo * E.n)) (hi - lo) (c - lo) e := by
  have hc := h.cap; have hl := h.len
  refine ⟨by simp; omega, by omega, ?_⟩
  rcases h.out with rfl | ⟨b, o, cs, t, fz, rfl, rfl, h3⟩
  · exact .inl (by simp)
  · by_cases q : c = lo
    · exact .inl (by have : hi - lo = 0 := by omega
                     simp [this])
    · refine .inr ⟨b, o + lo * E.n, cs, t, fz, by rw [if_neg q, pa_some], rfl, fun i x hi' => ?_⟩
      have hlt : i < hi - lo := by
        have := (List.getElem?_eq_some_iff.1 hi').1
        simp at this; omega
      rw [List.getElem?_take_of_lt hlt, List.getElem?_drop] at hi'
      obtain ⟨es, e1, e2⟩ := h3 _ x hi'
      refine ⟨es, e1, ?_⟩
      rw [Nat.add_mul, ← Nat.add_assoc] at e2; exact e2
theorem pa_pa (a : Option Addr) (k m : Nat) (h : ∀ b, a = some b → b.block = b.block ∧ ∃ p q, a = some ⟨p, q, none⟩) : pa (pa a k) m = pa a (k + m) := by
  cases a with
  | none => rfl
  | some b =>
    obtain ⟨_, p, q, hb⟩ := h b rfl
    rw [hb, pa_some, pa_some, pa_some, Nat.add_assoc]
theorem OSl.plain (h : OSl M E xs a n c t e) : ∀ b, a = some b → b.block = b.block ∧ ∃ p q, a = some ⟨p, q, none⟩ := fun b hb => ⟨rfl, by
  rcases h.out with ⟨h, _⟩ | ⟨b', cs, h, _⟩
  · rw [h] at hb; cases hb
  · exact ⟨_, _, h⟩⟩
end

/-- A window of a slice: where it lies. -/
structure Win (n : Nat) (a : Option Addr) (c k lo hi n' : Nat) (a' : Option Addr) (c' : Nat) : Prop where
  le : lo ≤ hi
  leN : hi ≤ n
  addr : a' = if c = lo then a else pa a (lo * k)
  n : n' = hi - lo
  c : c' = c - lo
def wnd {α : Type} (xs : List α) (lo hi : Nat) : List α := (xs.drop lo).take (hi - lo)
theorem lcut_wnd {α : Type} {xs ys : List α} {i j : Int} (h : lcut xs i j = some ys) : ys = wnd xs i.toNat j.toNat := by
  unfold lcut at h; split at h
  · cases h; rfl
  · cases h
section
variable {u : Bool} {C : Cx} {Q : Post} {ops : Array Oper} {rest : List Oper} {M : Mem} {H : List Ent} {l : Slots} {d : Nat}
variable {α : Type} {E : Enc α} {T e n c : Nat} {a : Option Addr} {xs ys : List α} {ent : Ent}
/-- A cut of a slice that is owned, or read out of an entry: it is read from now on. -/
theorem cw {x : Operand} {lo hi : Option Operand} {i j : Int} {ty ps af g dst} (hc : vok ops l ⟨dst, .slice T x lo hi none, ty, ps, af, g⟩ C.N = some d) (hT : Sl C.P T e E.n) (hx : ev l x = some (.slice a n c)) (hR : RdE M E xs a n c ent)
    (hlo : Bd l 0 lo i) (hhi : Bd l xs.length hi j) (hk : lcut xs i j = some ys)
    (k : ∀ a' n' c', RdE M E ys a' n' c' ent → Win n a c E.n i.toNat j.toNat n' a' c' → Ops u C Q ops rest M H ((d, .slice a' n' c') :: l)) : Ops u C Q ops (⟨dst, .slice T x lo hi none, ty, ps, af, g⟩ :: rest) M H l := by
  obtain ⟨h1, h2, h3⟩ := vok.out hc
  have hn := hR.len
  subst hn
  unfold lcut at hk
  split at hk
  · rename_i h
    cases hk
    have hcap := hR.cap
    have hw := hR.win i.toNat j.toNat (by omega) (by omega)
    refine Ops.val h1 h2 h3 (v := .slice (if c = i.toNat then a else pa a (i.toNat * E.n)) (j.toNat - i.toNat) (c - i.toNat)) ?_ (k _ _ _ hw ⟨by omega, by omega, rfl, rfl, rfl⟩)
    cases lo <;> cases hi <;> exact run_cut rfl hT hx hlo hhi h.1 h.2.1 (by omega) hcap
  · cases hk
theorem cwd {S : World → Prop} {tt : Sched} {x : Operand} {lo hi : Option Operand} {i j : Int} {q : Nat} {ty ps af g dst} (ho : ops[q]? = some ⟨dst, .slice T x lo hi none, ty, ps, af, g⟩) (hc : vok ops l ⟨dst, .slice T x lo hi none, ty, ps, af, g⟩ C.N = some d) (hT : Sl C.P T e E.n) (hx : ev l x = some (.slice a n c)) (hR : RdE M E xs a n c ent)
    (hlo : Bd l 0 lo i) (hhi : Bd l xs.length hi j) (hk : lcut xs i j = some ys) (hS : ∀ w, S w → ∃ M H, Rd M H w)
    (k : ∀ a' n' c', RdE M E ys a' n' c' ent → Win n a c E.n i.toNat j.toNat n' a' c' → Opd C Q S ops tt M H ((d, .slice a' n' c') :: l)) : Opd C Q S ops (.take q tt) M H l := by
  obtain ⟨h1, h2, h3⟩ := vok.out hc
  have hn := hR.len
  subst hn
  unfold lcut at hk
  split at hk
  · rename_i h
    cases hk
    have hcap := hR.cap
    have hw := hR.win i.toNat j.toNat (by omega) (by omega)
    refine Opd.val ho h1 h2 h3 (v := .slice (if c = i.toNat then a else pa a (i.toNat * E.n)) (j.toNat - i.toNat) (c - i.toNat)) ?_ (k _ _ _ hw ⟨by omega, by omega, rfl, rfl, rfl⟩)
    intro ρ w ha hw
    obtain ⟨M, H, hr⟩ := hS w hw
    cases lo <;> cases hi <;> exact run_cut (M := M) (H := H) rfl hT hx hlo hhi h.1 h.2.1 (by omega) hcap ρ w ha hr
  · cases hk
theorem rdS {M : Mem} {H : List Ent} : ∀ w, Rd M H w → ∃ M H, Rd M H w := fun w h => ⟨M, H, h⟩
/-- A store into an element of an owned slice. -/
theorem OSl.put {i off : Nat} {x x' : α} {es vs : List Value} {t : TypeId} {b : Nat} {cs : Array Value} (h : OSl M E xs a n c t (some (b, .cells cs t (0, 0)))) (hx : xs[i]? = some x) (hes : E.rep M x es) (hat : At cs (i * E.n) es)
    (hoff : off + vs.length ≤ E.n) (hx' : E.rep M x' (es.take off ++ (vs ++ es.drop (off + vs.length)))) : OSl M E (xs.set i x') a n c t (some (b, .cells (Tw.put cs (i * E.n + off) vs) t (0, 0))) := by
  have hil := (List.getElem?_eq_some_iff.1 hx).1
  refine ⟨by rw [List.length_set]; exact h.len, h.cap, ?_⟩
  rcases h.out with ⟨_, h, _⟩ | ⟨b', cs', h1, h2, h3, h4⟩
  · subst h; simp at hil
  · cases h2
    have hlen := h.len; have hcap := h.cap
    have hin : (i + 1) * E.n ≤ cs.size := by rw [h3]; exact Nat.mul_le_mul_right _ (by omega)
    rw [Nat.add_mul, Nat.one_mul] at hin
    have hsz : (Tw.put cs (i * E.n + off) vs).size = cs.size := by simp [Tw.put]; omega
    have hget : ∀ q, (Tw.put cs (i * E.n + off) vs)[q]? = if q < i * E.n + off then cs[q]? else if q < i * E.n + off + vs.length then vs[q - (i * E.n + off)]? else cs[q]? := fun q => by
      simp only [Tw.put, List.getElem?_toArray, List.append_assoc]
      by_cases q1 : q < i * E.n + off
      · rw [if_pos q1, List.getElem?_append_left (by simp; omega), List.getElem?_take_of_lt q1]; simp
      · rw [if_neg q1, List.getElem?_append_right (by simp; omega)]
        have e1 : q - (List.take (i * E.n + off) cs.toList).length = q - (i * E.n + off) := by simp; omega
        rw [e1]
        by_cases q2 : q < i * E.n + off + vs.length
        · rw [if_pos q2, List.getElem?_append_left (by omega)]
        · rw [if_neg q2, List.getElem?_append_right (by omega), List.getElem?_drop]
          have e2 : i * E.n + off + vs.length + (q - (i * E.n + off) - vs.length) = q := by omega
          rw [e2]; simp
    refine .inr ⟨b, _, h1, rfl, by rw [hsz, h3], fun q y hy => ?_⟩
    have hel := E.len hes
    by_cases hq : q = i
    · subst hq
      rw [List.getElem?_set_self hil] at hy
      cases hy
      refine ⟨_, hx', fun r v hv => ?_⟩
      rw [hget]
      by_cases q1 : r < off
      · rw [if_pos (by omega)]
        rw [List.getElem?_append_left (by simp; omega), List.getElem?_take_of_lt q1] at hv
        exact hat r v hv
      · rw [if_neg (by omega), List.getElem?_append_right (by simp; omega)] at *
        have e1 : r - (List.take off es).length = r - off := by simp; omega
        rw [e1] at hv
        by_cases q2 : r < off + vs.length
        · rw [if_pos (by omega)]
          rw [List.getElem?_append_left (by omega)] at hv
          have e2 : q * E.n + r - (q * E.n + off) = r - off := by omega
          rw [e2]; exact hv
        · rw [if_neg (by omega)]
          rw [List.getElem?_append_right (by omega), List.getElem?_drop] at hv
          have e2 : off + vs.length + (r - off - vs.length) = r := by omega
          rw [e2] at hv
          exact hat r v hv
    · rw [List.getElem?_set_ne (Ne.symm hq)] at hy
      obtain ⟨fs, f1, f2⟩ := h4 q y hy
      refine ⟨fs, f1, fun r v hv => ?_⟩
      have hr : r < E.n := by have := (List.getElem?_eq_some_iff.1 hv).1; rw [E.len f1] at this; exact this
      rw [hget]
      have hlt : ¬ (i * E.n + off ≤ q * E.n + r ∧ q * E.n + r < i * E.n + off + vs.length) := by
        rintro ⟨g1, g2⟩
        rcases Nat.lt_or_gt_of_ne hq with hc | hc
        · have : (q + 1) * E.n ≤ i * E.n := Nat.mul_le_mul_right _ hc
          rw [Nat.add_mul, Nat.one_mul] at this; omega
        · have : (i + 1) * E.n ≤ q * E.n := Nat.mul_le_mul_right _ hc
          rw [Nat.add_mul, Nat.one_mul] at this; omega
      by_cases q1 : q * E.n + r < i * E.n + off
      · rw [if_pos q1]; exact f2 r v hv
      · rw [if_neg q1, if_neg (by omega)]; exact f2 r v hv
theorem so {H' : Ent → List Ent} {i off m : Nat} {x y : Operand} {z z' : α} {p : Option Addr} {v : Value} {t : TypeId} {ty ps af g dst} (j : Nat) (hc : vok0 ops l ⟨dst, .store T x y, ty, ps, af, g⟩ = true) (hs : Sz C.P T m) (hx : ev l x = some (.pointer p)) (hp : p = pa a (i * E.n + off)) (hy : ev l y = some v)
    (hO : OSl M E xs a n c t ent) (hj : nthO j H = some ent) (hz : xs[i]? = some z) (hn : (Nat.beq v.cells.size m && Nat.ble (off + m) E.n && v.cells.toList.all (·.oneCell')) = true)
    (hnew : ∀ es, E.rep M z es → E.rep M z' (es.take off ++ (v.cells.toList ++ es.drop (off + v.cells.toList.length)))) (hset : ∀ e', setK H j e' some = some (H' e')) (k : ∀ e', OSl M E (xs.set i z') a n c t e' → Ops u C Q ops rest M (H' e') l) :
    Ops u C Q ops (⟨dst, .store T x y, ty, ps, af, g⟩ :: rest) M H l := by
  obtain ⟨h1, h2⟩ := vok0.out hc
  rw [nthO_eq] at hj
  have k : ∀ e', OSl M E (xs.set i z') a n c t e' → Ops u C Q ops rest M (H.set j e') l := fun e' he => by rw [Option.some.inj (setK_eq (hset e'))]; exact k e' he
  simp only [Bool.and_eq_true] at hn
  have n1 : v.cells.size = m := Nat.eq_of_beq_eq_true hn.1.1
  have n2 : off + m ≤ E.n := by simpa using hn.1.2
  have hil := (List.getElem?_eq_some_iff.1 hz).1
  have hlen := hO.len; have hcap := hO.cap
  rcases hO.out with ⟨_, h, _⟩ | ⟨b, cs, rfl, rfl, h3, h4⟩
  · subst h; simp at hil
  · obtain ⟨es, e1, e2⟩ := h4 i z hz
    rw [pa_some, Nat.zero_add] at hp
    subst hp
    have hin : (i + 1) * E.n ≤ cs.size := by rw [h3]; exact Nat.mul_le_mul_right _ (by omega)
    rw [Nat.add_mul, Nat.one_mul] at hin
    have hnew := hO.put hz e1 e2 (off := off) (vs := v.cells.toList) (by simp; omega) (hnew es e1)
    exact Ops.sto h1 h2 (run_store (off := i * E.n + off) rfl hs hx hy hj n1 (by simp; omega) hn.2) (k _ hnew)
/-- A store of a whole element. -/
theorem sw1 {H' : Ent → List Ent} {i m : Nat} {x y : Operand} {z z' : α} {v : Value} {t : TypeId} {ty ps af g dst} (j : Nat) (hc : vok0 ops l ⟨dst, .store T x y, ty, ps, af, g⟩ = true) (hs : Sz C.P T m) (hx : ev l x = some (.pointer (pa a (i * E.n)))) (hy : ev l y = some v)
    (hO : OSl M E xs a n c t ent) (hj : nthO j H = some ent) (hz : xs[i]? = some z) (hn : (Nat.beq v.cells.size m && Nat.beq m E.n && v.cells.toList.all (·.oneCell')) = true)
    (hnew : E.rep M z' v.cells.toList) (hset : ∀ e', setK H j e' some = some (H' e')) (k : ∀ e', OSl M E (xs.set i z') a n c t e' → Ops u C Q ops rest M (H' e') l) :
    Ops u C Q ops (⟨dst, .store T x y, ty, ps, af, g⟩ :: rest) M H l := by
  simp only [Bool.and_eq_true] at hn
  have n1 : v.cells.size = m := Nat.eq_of_beq_eq_true hn.1.1
  have n2 : m = E.n := Nat.eq_of_beq_eq_true hn.1.2
  refine so (off := 0) (i := i) j hc hs hx (by rw [Nat.add_zero]) hy hO hj hz (by simp only [Bool.and_eq_true]; exact ⟨⟨hn.1.1, by simp; omega⟩, hn.2⟩) (fun es he => ?_) hset k
  have hl := E.len he
  have e1 : es.drop (0 + v.cells.toList.length) = [] := List.drop_eq_nil_of_le (by simp; omega)
  rw [e1]
  simpa using hnew
/-- The place of a window's element within the whole. -/
theorem Win.pa {n' k lo hi c' : Nat} {a' : Option Addr} (h : Win n a c k lo hi n' a' c') (hcap : n ≤ c) {i : Nat} (hi' : i < n') (hpl : ∀ b, a = some b → b.block = b.block ∧ ∃ p q, a = some ⟨p, q, none⟩) : Tw.pa a' (i * k) = Tw.pa a ((lo + i) * k) := by
  have h1 := h.le; have h2 := h.leN; have h3 := h.n
  rw [h.addr, if_neg (by omega), pa_pa a _ _ hpl, Nat.add_mul]
theorem OSl.win {t : TypeId} {n' lo hi c' : Nat} {a' : Option Addr} (h : OSl M E xs a n c t ent) (hw : Win n a c E.n lo hi n' a' c') : RdE M E (wnd xs lo hi) a' n' c' ent := by
  have h1 : RdE M E (wnd xs lo hi) (if c = lo then a else Tw.pa a (lo * E.n)) (hi - lo) (c - lo) ent := h.rde.win lo hi hw.le (by rw [← h.len]; exact hw.leN)
  rw [← hw.addr, ← hw.n, ← hw.c] at h1; exact h1
theorem RdE.winR {n' lo hi c' : Nat} {a' : Option Addr} (h : RdE M E xs a n c ent) (hw : Win n a c E.n lo hi n' a' c') : RdE M E (wnd xs lo hi) a' n' c' ent := by
  have h1 : RdE M E (wnd xs lo hi) (if c = lo then a else Tw.pa a (lo * E.n)) (hi - lo) (c - lo) ent := RdE.win h lo hi hw.le (by rw [← h.len]; exact hw.leN)
  rw [← hw.addr, ← hw.n, ← hw.c] at h1; exact h1
theorem SRep.win {n' lo hi c' : Nat} {a' : Option Addr} (h : SRep M E xs a n c) (hw : Win n a c E.n lo hi n' a' c') : SRep M E (wnd xs lo hi) a' n' c' := by
  have h1 : SRep M E (wnd xs lo hi) (if c = lo then a else Tw.pa a (lo * E.n)) (hi - lo) (c - lo) := h.cut lo hi hw.le (by rw [← h.len]; exact hw.leN)
  rw [← hw.addr, ← hw.n, ← hw.c] at h1; exact h1
/-- A window from the beginning on is a whole slice again. -/
theorem OSl.head {t : TypeId} {n' hi c' : Nat} {a' : Option Addr} (h : OSl M E xs a n c t ent) (hw : Win n a c E.n 0 hi n' a' c') : OSl M E (wnd xs 0 hi) a' n' c' t ent := by
  have hl := h.len; have hcap := h.cap; have h1 := hw.leN; have h2 := hw.n; have h3 := hw.c
  have ha : a' = a := by
    rw [hw.addr]; split
    · rfl
    · rcases h.out with ⟨h, _⟩ | ⟨b, cs, h, _⟩ <;> rw [h]
      · rfl
      · rw [pa_some, Nat.zero_mul]
  have hc : c' = c := by omega
  rw [ha, hc]
  refine ⟨by simp [wnd]; omega, by omega, ?_⟩
  rcases h.out with ⟨h, h4, h5, h6⟩ | ⟨b, cs, h4, h5, h6, h7⟩
  · exact .inl ⟨h, by subst h4; simp [wnd], h5, h6⟩
  · refine .inr ⟨b, cs, h4, h5, h6, fun i x hi' => h7 i x ?_⟩
    simp only [wnd, List.drop_zero] at hi'
    have hlt := (List.getElem?_eq_some_iff.1 hi').1
    simp at hlt
    rwa [List.getElem?_take_of_lt (by omega)] at hi'
/-- A slice made of zero values. -/
theorem mk {by_ : Nat} {z : Value} {zv : α} {x y : Operand} {kl kc : IntKind} {i : Int} {un : Unit} {ty ps af g dst} (hc : vok ops l ⟨dst, .makeSlice T x y, ty, ps, af, g⟩ C.N = some d) (hT : Sl C.P T e E.n) (hE : El C.P e E.n by_ z) (hx : ev l x = some (.int kl i)) (hy : ev l y = some (.int kc i))
    (hk : need (decide (0 ≤ i ∧ i ≤ 4294967296)) = some un) (hby : (Nat.ble by_ 4096 && Nat.blt 0 E.n) = true) (hz : E.rep M zv z.cells.toList)
    (k : ∀ a n c e', OSl M E (List.replicate i.toNat zv) a n c e e' → Ops u C Q ops rest M (e' :: H) ((d, .slice a n c) :: l)) : Ops u C Q ops (⟨dst, .makeSlice T x y, ty, ps, af, g⟩ :: rest) M H l := by
  obtain ⟨h1, h2, h3⟩ := vok.out hc
  obtain ⟨i0, i1⟩ := of_decide_eq_true (need_some hk)
  rw [Bool.and_eq_true] at hby
  have b1 : by_ ≤ 4096 := by simpa using hby.1
  have b2 : 0 < E.n := by simpa using hby.2
  obtain ⟨hu, hsz⟩ := hT
  obtain ⟨q, q1, q2, q3, q4, q5⟩ := hE.get
  have hbytes : (q.bytes : Int) * i ≤ 281474976710656 := by
    rw [q3]
    have h5 : (by_ : Int) ≤ 4096 := by omega
    calc (by_ : Int) * i ≤ 4096 * 4294967296 := Int.mul_le_mul h5 i1 i0 (by decide)
      _ ≤ _ := by decide
  refine Ops.mem (R := fun v M' H' => ∃ a n c e', v = .slice a n c ∧ M = M' ∧ H' = e' :: H ∧ OSl M E (List.replicate i.toNat zv) a n c e e') h1 h2 h3 ?_ ?_
  · intro ρ w ha ht
    have hr := run_make (P := C.P) w T e q z hu q1 q4 kl kc i i i0 (Int.le_refl _) hbytes (by omega)
    refine ⟨_, _, M, _, by simp only [execOp, ha x _ hx, ha y _ hy, Sem.run_bind, hr]; rfl, ht.alloc _, Mem.le_refl _, _, _, _, _, rfl, rfl, rfl, ?_⟩
    have hsize : (madeCells z.cells (i.toNat * q.size)).size = i.toNat * E.n := by rw [size_madeCells, q2]
    refine ⟨by simp, Nat.le_refl _, .inr ⟨_, _, rfl, rfl, hsize, fun r y hy => ?_⟩⟩
    have hri : r < i.toNat := by have := (List.getElem?_eq_some_iff.1 hy).1; simpa using this
    rw [List.getElem?_replicate, if_pos hri] at hy
    cases hy
    refine ⟨_, hz, fun s v hv => ?_⟩
    have hs : s < E.n := by have := (List.getElem?_eq_some_iff.1 hv).1; rw [E.len hz] at this; exact this
    have hlt : r * E.n + s < i.toNat * E.n := by
      have : (r + 1) * E.n ≤ i.toNat * E.n := Nat.mul_le_mul_right _ hri
      rw [Nat.add_mul, Nat.one_mul] at this; omega
    have hzs : z.cells.size = E.n := by rw [q5]
    have h6 : (r * E.n + s) % z.cells.size = s := by rw [hzs, Nat.add_comm, Nat.add_mul_mod_self_right, Nat.mod_eq_of_lt hs]
    have h7 : z.cells[s]? = some v := by simpa using hv
    have h8 : (madeCells z.cells (i.toNat * q.size))[r * E.n + s]? = some (z.cells[(r * E.n + s) % z.cells.size]!) := by
      unfold madeCells
      rw [Array.getElem?_map, Array.getElem?_range, if_pos (by rw [q2]; exact hlt)]
      rfl
    rw [h8, h6]
    simp [getElem!_def, h7]
  · rintro _ _ _ - ⟨a, n, c, e', rfl, rfl, rfl, h⟩
    exact k a n c e' h
/-- What a copy leaves. -/
def splice {α : Type} (xs : List α) (lo n : Nat) (ys : List α) : List α := xs.take lo ++ (ys.take n ++ xs.drop (lo + min n ys.length))
theorem put_get (cs : Array Value) (o : Nat) (vs : List Value) (h : o + vs.length ≤ cs.size) (q : Nat) : (Tw.put cs o vs)[q]? = if q < o then cs[q]? else if q < o + vs.length then vs[q - o]? else cs[q]? := by
  simp only [Tw.put, List.getElem?_toArray, List.append_assoc]
  by_cases q1 : q < o
  · rw [if_pos q1, List.getElem?_append_left (by simp; omega), List.getElem?_take_of_lt q1]; simp
  · rw [if_neg q1, List.getElem?_append_right (by simp; omega)]
    have e1 : q - (List.take o cs.toList).length = q - o := by simp; omega
    rw [e1]
    by_cases q2 : q < o + vs.length
    · rw [if_pos q2, List.getElem?_append_left (by omega)]
    · rw [if_neg q2, List.getElem?_append_right (by omega), List.getElem?_drop]
      have e2 : o + vs.length + (q - o - vs.length) = q := by omega
      rw [e2]; simp
theorem copy_own {P : Program} {M0 : Mem} {H0 : List Ent} {w0 w : World} {T2 ty m c' c2 lo hi n' : Nat} {a' a2 : Option Addr} (j : Nat) (ht : Tr M0 H0 w0 M H w) (hT : Sl P T e E.n) (hpos : 0 < E.n) (hO : OSl M E xs a n c e ent) (hj : H[j]? = some ent)
    (hw : Win n a c E.n lo hi n' a' c') (hS : Rds M H E ys a2 m) :
    ∃ w' e', (Builtin.copy_ #[T, T2] ty #[.slice a' n' c', .slice a2 m c2]).run P w = .ok (goInt ((min m n' : Nat) : Int)) w' ∧ Tr M0 H0 w0 M (H.set j e') w' ∧ OSl M E (splice xs lo n' ys) a n c e e' := by
  obtain ⟨u1, u2⟩ := hT
  have hle := hw.le; have hleN := hw.leN; have hn' := hw.n; have hlen := hO.len; have hcap := hO.cap; have hm := hS.len
  cases hq : P.info? e with
  | none => simp [hq] at u2
  | some q =>
    have hs : q.size = E.n := by simpa [hq] using u2
    by_cases h0 : min m n' = 0
    · refine ⟨w, ent, ?_, ?_, ?_⟩
      · have e1 : Nat.min m n' = 0 := h0
        rw [h0]
        cases a' <;> cases a2 <;> simp [Builtin.copy_, run_underlying u1, Builtin.lenOf, Builtin.firstCells, sizeOf, typeInfo, hq, e1, loadCells, loadCellsFrom, storeCells]
      · obtain ⟨hl, h⟩ := List.getElem?_eq_some_iff.1 hj
        rw [← h, List.set_getElem_self]; exact ht
      · have : splice xs lo n' ys = xs := by
          unfold splice
          rw [Nat.min_comm, ← hm, h0, Nat.add_zero]
          have : ys.take n' = [] := by
            rcases (by omega : n' = 0 ∨ m = 0) with h | h
            · rw [h, List.take_zero]
            · have h2 : ys = [] := List.eq_nil_of_length_eq_zero (by omega)
              rw [h2, List.take_nil]
          rw [this, List.nil_append, List.take_append_drop]
        rw [this]; exact hO
    · rcases hS.out with rfl | ⟨b2, o2, cs2, t2, fz2, rfl, hh2, hx2⟩
      · simp at hm; omega
      rcases hO.out with ⟨_, h, _⟩ | ⟨b, cs, rfl, rfl, h3, h4⟩
      · subst h; simp at hlen hleN; omega
      have ha' : a' = some ⟨b, lo * E.n, none⟩ := by rw [hw.addr, if_neg (by omega), pa_some, Nat.zero_add]
      subst ha'
      obtain ⟨n1, n2, n3⟩ := cells_of (M := M) hpos hx2
      have hb := (ht.st.own b _ (List.mem_of_getElem? hj)).1
      have hb2 := hh2.heap ht.rd
      have hk : min m n' ≤ ys.length := by omega
      have hkk : min m n' * E.n ≤ ys.length * E.n := Nat.mul_le_mul_right _ hk
      obtain ⟨vs, hvs⟩ : ∃ vs, vs = ((cs2.toList.drop o2).take (ys.length * E.n)).take (min m n' * E.n) := ⟨_, rfl⟩
      have hvl : vs.length = min m n' * E.n := by rw [hvs, List.length_take, n1]; omega
      have hv1 : ∀ u ∈ vs, u.oneCell' = true := fun u hu => n2 u (by rw [hvs] at hu; exact List.mem_of_mem_take hu)
      have hvg : ∀ r, r < min m n' * E.n → vs[r]? = cs2[o2 + r]? := fun r hr => by rw [hvs, List.getElem?_take_of_lt hr, n3 r (by omega)]
      have hsrc : ∀ r v, vs[r]? = some v → w.cell? ((⟨b2, o2, none⟩ : Addr).add r) = some v := fun r v hv => by
        have hr : r < min m n' * E.n := by have := (List.getElem?_eq_some_iff.1 hv).1; rw [hvl] at this; exact this
        rw [hvg r hr] at hv
        rw [Addr.add_mid]
        simp [World.cell?, hb2, hv]
      have hfit : lo * E.n + vs.length ≤ cs.size := by
        rw [hvl, h3, ← Nat.add_mul]; exact Nat.mul_le_mul_right _ (by omega)
      have hl := run_loadCells_list (P := P) w ⟨b2, o2, none⟩ vs hsrc
      obtain ⟨w', hst, ht'⟩ := ht.storeCells (off := lo * E.n) (es := vs) hj (by simpa using hfit) hv1 P
      refine ⟨w', _, ?_, ht', ?_⟩
      · rw [hvl] at hl
        have e1 : Nat.min m n' = min m n' := rfl
        simp [Builtin.copy_, run_underlying u1, Builtin.lenOf, Builtin.firstCells, sizeOf, typeInfo, hq, hs, e1, hl, hst]
      · have hxl : (splice xs lo n' ys).length = xs.length := by unfold splice; simp; omega
        refine ⟨by rw [hxl]; exact hlen, hcap, .inr ⟨b, _, rfl, rfl, by rw [← h3]; simp only [Tw.put, List.size_toArray, List.length_append, List.length_take, List.length_drop, Array.length_toList]; omega, fun i x hi => ?_⟩⟩
        have hil : i < xs.length := by have := (List.getElem?_eq_some_iff.1 hi).1; omega
        have at_ : ∀ es, E.rep M x es → (∀ r v, es[r]? = some v → (Tw.put cs (lo * E.n) vs)[i * E.n + r]? = some v) → ∃ es, E.rep M x es ∧ At (Tw.put cs (lo * E.n) vs) (i * E.n) es := fun es h1 h2 => ⟨es, h1, h2⟩
        unfold splice at hi
        have hkm : min n' ys.length = min m n' := by omega
        rw [hkm] at hi
        by_cases c1 : i < lo
        · rw [List.getElem?_append_left (by simp; omega), List.getElem?_take_of_lt c1] at hi
          obtain ⟨es, f1, f2⟩ := h4 i x hi
          refine at_ es f1 fun r v hv => ?_
          have hr : r < E.n := by have := (List.getElem?_eq_some_iff.1 hv).1; rw [E.len f1] at this; exact this
          have : (i + 1) * E.n ≤ lo * E.n := Nat.mul_le_mul_right _ c1
          rw [Nat.add_mul, Nat.one_mul] at this
          rw [put_get cs _ vs hfit, if_pos (by omega)]; exact f2 r v hv
        · rw [List.getElem?_append_right (by simp; omega)] at hi
          have e1 : i - (List.take lo xs).length = i - lo := by simp; omega
          rw [e1] at hi
          by_cases c2 : i < lo + min m n'
          · have ht1 : (List.take n' ys).length = min m n' := by simp; omega
            rw [List.getElem?_append_left (by omega), List.getElem?_take_of_lt (by omega)] at hi
            obtain ⟨es, f1, f2⟩ := hx2 _ x hi
            refine at_ es f1 fun r v hv => ?_
            have hr : r < E.n := by have := (List.getElem?_eq_some_iff.1 hv).1; rw [E.len f1] at this; exact this
            have h5 : lo * E.n ≤ i * E.n := Nat.mul_le_mul_right _ (by omega)
            have h6 : (i - lo + 1) * E.n ≤ min m n' * E.n := Nat.mul_le_mul_right _ (by omega)
            rw [Nat.add_mul, Nat.one_mul] at h6
            have h7 : i * E.n = lo * E.n + (i - lo) * E.n := by rw [← Nat.add_mul]; congr 1; omega
            rw [put_get cs _ vs hfit, if_neg (by omega), if_pos (by omega)]
            have h8 : i * E.n + r - lo * E.n = (i - lo) * E.n + r := by omega
            rw [h8, hvg _ (by omega), ← Nat.add_assoc]
            exact f2 r v hv
          · have ht1 : (List.take n' ys).length = min m n' := by simp; omega
            rw [List.getElem?_append_right (by omega), List.getElem?_drop] at hi
            have e2 : lo + min m n' + (i - lo - (List.take n' ys).length) = i := by omega
            rw [e2] at hi
            obtain ⟨es, f1, f2⟩ := h4 i x hi
            refine at_ es f1 fun r v hv => ?_
            have h6 : (lo + min m n') * E.n ≤ i * E.n := Nat.mul_le_mul_right _ (by omega)
            rw [Nat.add_mul] at h6
            rw [put_get cs _ vs hfit, if_neg (by omega), if_neg (by omega)]; exact f2 r v hv
theorem OSl.whole (h : OSl M E xs a n c e ent) : Win n a c E.n 0 n n a c := ⟨Nat.zero_le _, Nat.le_refl _, by
  by_cases q : c = 0
  · rw [if_pos q]
  · rw [if_neg q, Nat.zero_mul]
    rcases h.out with ⟨h1, _, h2, _⟩ | ⟨b, cs, h1, _⟩
    · exact absurd h2 q
    · rw [h1, pa_some], rfl, rfl⟩
/-- A copy into an owned slice. -/
theorem cpy {H' : Ent → List Ent} {T2 m c' c2 lo hi n' : Nat} {x y : Operand} {a' a2 : Option Addr} {ty ps af g dst} (j : Nat) (hc : vok ops l ⟨dst, .call { callee := .builtin .copy, args := #[x, y], argTypes := #[T, T2] }, ty, ps, af, g⟩ C.N = some d) (hT : Sl C.P T e E.n) (hpos : Nat.blt 0 E.n = true)
    (hx : ev l x = some (.slice a' n' c')) (hy : ev l y = some (.slice a2 m c2)) (hO : OSl M E xs a n c e ent) (hj : nthO j H = some ent) (hw : Win n a c E.n lo hi n' a' c') (hS : Rds M H E ys a2 m)
    (hset : ∀ e', setK H j e' some = some (H' e')) (k : ∀ e', OSl M E (splice xs lo (hi - lo) ys) a n c e e' → Ops u C Q ops rest M (H' e') ((d, .int .i64 ((min ys.length (hi - lo) : Nat) : Int)) :: l)) : Ops u C Q ops (⟨dst, .call { callee := .builtin .copy, args := #[x, y], argTypes := #[T, T2] }, ty, ps, af, g⟩ :: rest) M H l := by
  obtain ⟨h1, h2, h3⟩ := vok.out hc
  have hm := hS.len
  have hn := hw.n
  subst hm; subst hn
  refine Ops.mem (R := fun v M' H' => v = .int .i64 ((min ys.length (hi - lo) : Nat) : Int) ∧ M = M' ∧ ∃ e', H' = H.set j e' ∧ OSl M E (splice xs lo (hi - lo) ys) a n c e e') h1 h2 h3 ?_ ?_
  · intro ρ w ha ht
    obtain ⟨w', e', g1, g2, g3⟩ := copy_own (T2 := T2) (ty := ty) (c2 := c2) j ht hT (by simpa using hpos) hO (by rw [← nthO_eq]; exact hj) hw hS
    exact ⟨_, w', M, _, by simp only [execOp, resolve, invoke, builtin, Sem.run_bind]; simp [ha x _ hx, ha y _ hy, resolve, invoke, builtin, Sem.run_bind, g1, goInt], g2, Mem.le_refl _, rfl, rfl, e', rfl, g3⟩
  · rintro _ _ _ - ⟨rfl, rfl, e', rfl, h⟩
    rw [Option.some.inj (setK_eq (hset e'))]
    exact k e' h
theorem cp0 {H' : Ent → List Ent} {T2 m c2 : Nat} {x y : Operand} {a2 : Option Addr} {ty ps af g dst} (j : Nat) (hc : vok ops l ⟨dst, .call { callee := .builtin .copy, args := #[x, y], argTypes := #[T, T2] }, ty, ps, af, g⟩ C.N = some d) (hT : Sl C.P T e E.n) (hpos : Nat.blt 0 E.n = true)
    (hx : ev l x = some (.slice a n c)) (hy : ev l y = some (.slice a2 m c2)) (hO : OSl M E xs a n c e ent) (hj : nthO j H = some ent) (hS : Rds M H E ys a2 m)
    (hset : ∀ e', setK H j e' some = some (H' e')) (k : ∀ e', OSl M E (splice xs 0 xs.length ys) a n c e e' → Ops u C Q ops rest M (H' e') ((d, .int .i64 ((min ys.length xs.length : Nat) : Int)) :: l)) : Ops u C Q ops (⟨dst, .call { callee := .builtin .copy, args := #[x, y], argTypes := #[T, T2] }, ty, ps, af, g⟩ :: rest) M H l := by
  have hn := hO.len
  subst hn
  have h := cpy (C := C) (Q := Q) (u := u) (rest := rest) (H' := H') j hc hT hpos hx hy hO hj hO.whole hS hset
  rw [Nat.sub_zero] at h
  exact h k
theorem wnd_get {α : Type} {xs : List α} {lo hi i : Nat} {x : α} (h : (wnd xs lo hi)[i]? = some x) : xs[lo + i]? = some x := by
  unfold wnd at h
  have hl := (List.getElem?_eq_some_iff.1 h).1
  simp at hl
  rwa [List.getElem?_take_of_lt (by omega), List.getElem?_drop] at h
/-- A store of a whole element, through a window. -/
theorem sww {H' : Ent → List Ent} {i m lo hi n' c' : Nat} {x y : Operand} {z z' : α} {v : Value} {t : TypeId} {a' : Option Addr} {ii : Int} {ty ps af g dst} (j : Nat) (hc : vok0 ops l ⟨dst, .store T x y, ty, ps, af, g⟩ = true) (hs : Sz C.P T m) (hx : ev l x = some (.pointer (pa a' (ii.toNat * E.n)))) (hw : Win n a c E.n lo hi n' a' c')
    (hO : OSl M E xs a n c t ent) (hy : ev l y = some v) (hi' : ii < n') (hz : (wnd xs lo hi)[ii.toNat]? = some z) (hj : nthO j H = some ent) (hnew : E.rep M z' v.cells.toList) (hn : (Nat.beq v.cells.size m && Nat.beq m E.n && v.cells.toList.all (·.oneCell')) = true)
    (hset : ∀ e', setK H j e' some = some (H' e')) (k : ∀ e', OSl M E (xs.set (lo + ii.toNat) z') a n c t e' → Ops u C Q ops rest M (H' e') l) :
    Ops u C Q ops (⟨dst, .store T x y, ty, ps, af, g⟩ :: rest) M H l := by
  have hl : ii.toNat < n' := by
    have h1 := (List.getElem?_eq_some_iff.1 hz).1
    have h2 := hw.n; have h3 := hw.leN; have h4 := hO.len
    simp [wnd] at h1; omega
  rw [hw.pa hO.cap hl hO.plain] at hx
  exact sw1 j hc hs hx hy hO hj (wnd_get hz) hn hnew hset k
end

/-! ### Arrays -/
structure Ar (P : Program) (T n e k : Nat) : Prop where out : P.underlying T = some (.array n e) ∧ (P.info? e).map (·.size) = some k
section
variable {P : Program} {J : World → Prop} {l : Slots} {M : Mem} {H : List Ent}
theorem ixA {T n e k : Nat} {x y : Operand} {a : Addr} {kk : IntKind} {i : Int} {dst ty ps af g} (hT : Ar P T n e k) (hx : ev l x = some (.pointer (some a))) (hy : ev l y = some (.int kk i)) (h0 : 0 ≤ i) (h1 : i < (n : Int)) :
    RunV P J ⟨dst, .indexAddr T x y, ty, ps, af, g⟩ l (.pointer (pa (some a) (i.toNat * k))) := fun ρ w ha _ => by
  obtain ⟨u1, u2⟩ := hT
  cases hq : P.info? e with
  | none => simp [hq] at u2
  | some q =>
    have hs : q.size = k := by simpa [hq] using u2
    simp [execOp, ha x _ hx, ha y _ hy, Instr.indexAt, Instr.sureAddr, asIntOf, Sem.run_bind, run_underlying u1, h0, h1, sizeOf, typeInfo, hq, hs, pa]
theorem iA {T n e : Nat} {x y : Operand} {cs : Array Value} {kk k : IntKind} {i b : Int} {xs : List Int} {dst ty ps af g} (hT : Ar P T n e 1) (ho : One P e) (hx : ev l x = some (.agg cs)) (hy : ev l y = some (.int kk i)) (hc : cs.toList = xs.map (Value.int k)) (hn : Nat.beq n xs.length = true) (hi : idx xs i = some b) :
    RunV P J ⟨dst, .index T x y, ty, ps, af, g⟩ l (.int k b) := fun ρ w ha _ => by
  obtain ⟨u1, u2⟩ := hT
  obtain ⟨h0, h1, h2⟩ := idx_some hi
  have hn := Nat.eq_of_beq_eq_true hn
  have hg : cs[i.toNat]? = some (.int k b) := by
    have : cs.toList[i.toNat]? = some (.int k b) := by rw [hc, List.getElem?_map, h2]; rfl
    simpa using this
  have h3 : i < (n : Int) := by omega
  cases hq : P.info? e with
  | none => simp [hq] at u2
  | some q =>
    have hs : q.size = 1 := by simpa [hq] using u2
    simp [execOp, ha x _ hx, ha y _ hy, Instr.index, asIntOf, Sem.run_bind, run_underlying u1, h0, h3, sizeOf, typeInfo, hq, hs, part, run_isAgg_one ho, hg]
theorem bvals.lt {l : Slots} {n k : Nat} : ∀ {ps : List (Nat × Operand)} {cs r : List Value}, bvals l (litPl n k) cs ps = some r → ps.all (fun p => Nat.blt p.1 n) = true
  | [], _, _, _ => rfl
  | (i, x) :: ps, cs, r, h => by
    simp only [bvals] at h
    cases h1 : ev l x with
    | none => simp [h1] at h
    | some v =>
      simp only [h1] at h
      cases h2 : (litPl n k)[i]? with
      | none => simp [h2] at h
      | some p =>
        obtain ⟨off, size⟩ := p
        simp only [h2] at h
        cases h3 : (Nat.beq v.cells.toList.length size && Nat.ble (off + size) cs.length) with
        | false => rw [h3] at h; cases h
        | true =>
          simp only [h3, cond_true] at h
          have hi : i < n := by
            have := (List.getElem?_eq_some_iff.1 h2).1
            simpa [litPl] using this
          rw [List.all_cons, bvals.lt h]
          simpa using hi
theorem bdA {T n e k : Nat} {z : Value} {ps : List (Nat × Operand)} {cells : List Value} {dst ty pos af g} (hT : Ar P T n e k) (hZ : Zr P T z) (hv : bvals l (litPl n k) z.cells.toList ps = some cells) : RunV P J ⟨dst, .build T ps.toArray, ty, pos, af, g⟩ l (.agg cells.toArray) := fun ρ w ha _ => by
  obtain ⟨u1, u2⟩ := hT
  obtain ⟨vs, h1, h2⟩ := bvals.out hv
  have hlt := bvals.lt hv
  have hm : ps.map (fun x => (x.1, ρ x.2)) = vs := h1.map ha
  obtain ⟨hz⟩ := hZ
  cases hq : P.info? e with
  | none => simp [hq] at u2
  | some q =>
    have hs : q.size = k := by simpa [hq] using u2
    subst hs
    cases hq2 : P.info? T with
    | none => simp [hq2] at hz
    | some i =>
      have hzz : i.zero = some z := by simpa [hq2] using hz
      have hzr : (zeroValue T).run P w = .ok z w := by simp [zeroValue, typeInfo, Sem.run_bind, hq2, hzz]
      have hfill : Instr.fill (fun j => some (j * q.size, q.size)) z.cells vs = some cells.toArray := by
        rw [fill_congr (q := ((litPl n q.size).toArray[·]?)) vs _ (fun i v hi => ?_)]
        · have := fill_eq (litPl n q.size) vs z.cells.toList
          rw [h2] at this
          simpa using this
        · rw [← hm] at hi
          obtain ⟨p, hp, he⟩ := List.mem_map.1 hi
          have h4 : p.1 < n := by have := List.all_eq_true.1 hlt _ hp; simpa using this
          cases he
          simp [litPl, h4]
      have e2 : (ps.toArray.map (fun x => (x.1, ρ x.2))).toList = vs := by simpa using hm
      simp only [execOp, Instr.build, Sem.run_bind, hzr, Result.andThen_ok, run_underlying u1, sizeOf, typeInfo, program, Sem.run, hq]
      simp [hm, hfill, Sem.run_bind]
theorem OSl.arr {α : Type} {E : Enc α} {xs : List α} {cells : List Value} {b n : Nat} {t : TypeId} (hx : Reps M E xs cells) (hn : Nat.beq n xs.length = true) : OSl M E xs (some ⟨b, 0, none⟩) n n t (some (b, .cells cells.toArray t (0, 0))) := by
  obtain ⟨r1, r2⟩ := hx.out
  have hn := Nat.eq_of_beq_eq_true hn
  exact OSl.lits hn (by rw [r1, hn]) r2
end
section
variable {u : Bool} {C : Cx} {Q : Post} {ops : Array Oper} {rest : List Oper} {M : Mem} {H : List Ent} {l : Slots} {d : Nat}
/-- A store of a whole array. -/
theorem sA {α : Type} {E : Enc α} {T m b : Nat} {x y : Operand} {xs ys : List α} {v : Value} {n c : Nat} {t : TypeId} {ent : Ent} {H' : Ent → List Ent} {ty ps af g dst} (j : Nat) (hc : vok0 ops l ⟨dst, .store T x y, ty, ps, af, g⟩ = true) (hs : Sz C.P T m) (hx : ev l x = some (.pointer (some ⟨b, 0, none⟩))) (hy : ev l y = some v)
    (hO : OSl M E xs (some ⟨b, 0, none⟩) n c t ent) (hj : nthO j H = some ent) (hm : (Nat.beq v.cells.size m && Nat.beq m (n * E.n) && Nat.beq n c && v.cells.toList.all (·.oneCell')) = true) (hr : Reps M E ys v.cells.toList) (hl : Nat.beq n ys.length = true)
    (hset : ∀ e', setK H j e' some = some (H' e')) (k : ∀ e', OSl M E ys (some ⟨b, 0, none⟩) n c t e' → Ops u C Q ops rest M (H' e') l) : Ops u C Q ops (⟨dst, .store T x y, ty, ps, af, g⟩ :: rest) M H l := by
  obtain ⟨h1, h2⟩ := vok0.out hc
  rw [nthO_eq] at hj
  simp only [Bool.and_eq_true] at hm
  obtain ⟨⟨⟨m1, m2⟩, m3⟩, m4⟩ := hm
  have m1 := Nat.eq_of_beq_eq_true m1
  have m2 := Nat.eq_of_beq_eq_true m2
  have m3 := Nat.eq_of_beq_eq_true m3
  have hl := Nat.eq_of_beq_eq_true hl
  subst m3
  rcases hO.out with ⟨h, _⟩ | ⟨b', cs, h3, rfl, h4, _⟩
  · cases h
  · cases h3
    have hsz : v.cells.toList.length = cs.size := by simp; omega
    have e1 : Tw.put cs 0 v.cells.toList = v.cells.toList.toArray := by
      simp only [Tw.put, List.take_zero, List.nil_append, Nat.zero_add]
      rw [hsz, List.drop_eq_nil_of_le (by simp), List.append_nil]
    have hnew : OSl M E ys (some ⟨b, 0, none⟩) n n t (some (b, .cells (Tw.put cs 0 v.cells.toList) t (0, 0))) := by
      rw [e1]; exact OSl.arr hr (by rw [hl]; exact Nat.beq_refl _)
    refine Ops.sto h1 h2 (run_store (off := 0) rfl hs hx hy hj m1 (by simp; omega) m4) ?_
    rw [Option.some.inj (setK_eq (hset _))]
    exact k _ hnew
end
end Go.Proofs.Ytjbfolnnepjidaa.Tw
