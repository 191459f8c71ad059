/-
  How Go's data lie in memory, for the generated walks of this claim: encodings of elements, slices that are read, slices that are owned, places that a pointer leads to.
-/
import Derived.Test.YtjbfolnnepjidaaRules
import Derived.Laws.CopyRow
import Derived.Laws.Rows
import Derived.Deep.MidRow
set_option linter.unusedVariables false
set_option linter.unusedSimpArgs false
namespace Go.Proofs.Ytjbfolnnepjidaa.Tw
open Go

/-- How an element of a slice lies: in n cells. -/
structure Enc (α : Type) where
  n : Nat
  rep : Mem → α → List Value → Prop
  len : ∀ {M x es}, rep M x es → es.length = n
  mono : ∀ {M M' x es}, Mem.le M M' → rep M x es → rep M' x es
  cell : ∀ {M x es}, rep M x es → ∀ v ∈ es, v.oneCell' = true

def eInt (k : IntKind) : Enc Int := ⟨1, fun _ x es => es = [.int k x], fun h => by subst h; rfl, fun _ h => h, fun h v hv => by subst h; simp at hv; subst hv; rfl⟩
def eBool : Enc Bool := ⟨1, fun _ x es => es = [.bool x], fun h => by subst h; rfl, fun _ h => h, fun h v hv => by subst h; simp at hv; subst hv; rfl⟩
def eStr : Enc ByteArray := ⟨1, fun _ x es => es = [.string x], fun h => by subst h; rfl, fun _ h => h, fun h v hv => by subst h; simp at hv; subst hv; rfl⟩

/-- The cells es lie from offset o on. -/
def At (cs : Array Value) (o : Nat) (es : List Value) : Prop := ∀ j v, es[j]? = some v → cs[o + j]? = some v
theorem At.all (cs : Array Value) : At cs 0 cs.toList := fun j v h => by simpa using h
theorem At.mid {cs : Array Value} {o : Nat} {a b c : List Value} (h : At cs o (a ++ (b ++ c))) : At cs (o + a.length) b := fun j v hv => by
  have := h (a.length + j) v (by
    rw [List.getElem?_append_right (by omega), Nat.add_sub_cancel_left]
    rw [List.getElem?_append_left (by have := (List.getElem?_eq_some_iff.1 hv).1; omega)]; exact hv)
  rw [Nat.add_assoc]; exact this
theorem At.of {cs : Array Value} {o : Nat} {es fs : List Value} (k m : Nat) (h : At cs o es) (e : (es.drop k).take m = fs) : At cs (o + k) fs := fun j v hv => by
  subst e
  have hj : j < m := by
    have := (List.getElem?_eq_some_iff.1 hv).1
    simp at this; omega
  rw [List.getElem?_take_of_lt hj, List.getElem?_drop] at hv
  rw [Nat.add_assoc]; exact h _ v hv

/-- Where a pointer leads to, and what lies there. -/
structure Pt (M : Mem) (H : List Ent) (p : Option Addr) (es : List Value) : Prop where
  out : ∃ b o cs t fz, p = some ⟨b, o, none⟩ ∧ Held M H b (.cells cs t fz) ∧ At cs o es
def pa (p : Option Addr) (k : Nat) : Option Addr := p.map fun a => a.add k
theorem pa_some (b o k : Nat) : pa (some ⟨b, o, none⟩) k = some ⟨b, o + k, none⟩ := by simp [pa, Addr.add_mid]
theorem Pt.box {M : Mem} {H : List Ent} {b : Nat} {cs : Array Value} {t : TypeId} {fz : Nat × Nat} (j : Nat) (h : H[j]? = some (some (b, .cells cs t fz))) {es : List Value} (he : cs.toList = es) : Pt M H (some ⟨b, 0, none⟩) es :=
  ⟨⟨b, 0, cs, t, fz, rfl, .inr (List.mem_of_getElem? h), he ▸ At.all cs⟩⟩
theorem Pt.part {M : Mem} {H : List Ent} {p : Option Addr} {es fs : List Value} (k m : Nat) (h : Pt M H p es) (e : (es.drop k).take m = fs) : Pt M H (pa p k) fs := by
  obtain ⟨b, o, cs, t, fz, rfl, hh, ha⟩ := h
  exact ⟨⟨b, o + k, cs, t, fz, pa_some b o k, hh, ha.of k m e⟩⟩
theorem Pt.le {M M' : Mem} {H H' : List Ent} {p : Option Addr} {es : List Value} (h : Pt M H p es) (hm : Mem.le M M') (hh : Incl H H') : Pt M' H' p es := by
  obtain ⟨b, o, cs, t, fz, rfl, hd, ha⟩ := h
  exact ⟨⟨b, o, cs, t, fz, rfl, hd.elim (fun x => .inl (hm _ _ x)) (fun x => .inr (hh _ _ x)), ha⟩⟩

/-- A slice that is read: of frozen memory. -/
structure SRep {α : Type} (M : Mem) (E : Enc α) (xs : List α) (a : Option Addr) (n c : Nat) : Prop where
  len : n = xs.length
  cap : n ≤ c
  out : xs = [] ∨ ∃ b o cs t fz, a = some ⟨b, o, none⟩ ∧ M b = some (.cells cs t fz) ∧ ∀ i x, xs[i]? = some x → ∃ es, E.rep M x es ∧ At cs (o + i * E.n) es
theorem SRep.mono {α : Type} {M M' : Mem} {E : Enc α} {xs : List α} {a : Option Addr} {n c : Nat} (hm : Mem.le M M') (h : SRep M E xs a n c) : SRep M' E xs a n c :=
  ⟨h.len, h.cap, h.out.imp id fun ⟨b, o, cs, t, fz, ha, hb, hx⟩ => ⟨b, o, cs, t, fz, ha, hm _ _ hb, fun i x hi => let ⟨es, h1, h2⟩ := hx i x hi; ⟨es, E.mono hm h1, h2⟩⟩⟩
theorem SRep.nil {α : Type} (M : Mem) (E : Enc α) (a : Option Addr) (c : Nat) : SRep M E ([] : List α) a 0 c := ⟨rfl, Nat.zero_le _, .inl rfl⟩
theorem SRep.pt {α : Type} {M : Mem} {E : Enc α} {xs : List α} {a : Option Addr} {n c : Nat} (h : SRep M E xs a n c) (H : List Ent) {i : Nat} {x : α} (hi : xs[i]? = some x) : ∃ es, E.rep M x es ∧ Pt M H (pa a (i * E.n)) es := by
  rcases h.out with rfl | ⟨b, o, cs, t, fz, rfl, hb, hx⟩
  · simp at hi
  · obtain ⟨es, h1, h2⟩ := hx i x hi
    exact ⟨es, h1, ⟨b, o + i * E.n, cs, t, fz, pa_some _ _ _, .inl hb, h2⟩⟩
theorem SRep.cut {α : Type} {M : Mem} {E : Enc α} {xs : List α} {a : Option Addr} {n c : Nat} (h : SRep M E xs a n c) (lo hi : Nat) (h1 : lo ≤ hi) (h2 : hi ≤ xs.length) :
    SRep M E ((xs.drop lo).take (hi - lo)) (if c = lo then a else pa a (lo * E.n)) (hi - lo) (c - lo) := by
  have hc := h.cap; have hl := h.len
  refine ⟨by simp; omega, by omega, ?_⟩
  rcases h.out with rfl | ⟨b, o, cs, t, fz, rfl, hb, hx⟩
  · exact .inl (by simp)
  · by_cases e : c = lo
    · exact .inl (by have : hi - lo = 0 := by omega
                     simp [this])
    · refine .inr ⟨b, o + lo * E.n, cs, t, fz, by rw [if_neg e, pa_some], hb, fun i x hi' => ?_⟩
      have hlt : i < hi - lo := by
        have := (List.getElem?_eq_some_iff.1 hi').1
        simp at this; omega
      rw [List.getElem?_take_of_lt hlt, List.getElem?_drop] at hi'
      obtain ⟨es, e1, e2⟩ := hx _ x hi'
      refine ⟨es, e1, ?_⟩
      rw [Nat.add_mul, ← Nat.add_assoc] at e2; exact e2

/-- A slice as an element of memory. -/
def eSlice {α : Type} (E : Enc α) : Enc (List α) := ⟨1, fun M xs es => ∃ a n c, es = [.slice a n c] ∧ SRep M E xs a n c, fun h => by obtain ⟨a, n, c, rfl, _⟩ := h; rfl,
  fun hm h => by obtain ⟨a, n, c, rfl, h⟩ := h; exact ⟨a, n, c, rfl, h.mono hm⟩, fun h v hv => by obtain ⟨a, n, c, rfl, _⟩ := h; simp at hv; subst hv; rfl⟩

/-- A slice that is owned: nil, or a whole block of its own (entry e). -/
structure OSl {α : Type} (M : Mem) (E : Enc α) (xs : List α) (a : Option Addr) (n c : Nat) (t : TypeId) (e : Ent) : Prop where
  len : n = xs.length
  cap : n ≤ c
  out : (a = none ∧ xs = [] ∧ c = 0 ∧ e = none) ∨ ∃ b cs, a = some ⟨b, 0, none⟩ ∧ e = some (b, .cells cs t (0, 0)) ∧ cs.size = c * E.n ∧ ∀ i x, xs[i]? = some x → ∃ es, E.rep M x es ∧ At cs (i * E.n) es
theorem OSl.nil {α : Type} (M : Mem) (E : Enc α) (t : TypeId) : OSl M E ([] : List α) none 0 0 t none := ⟨rfl, Nat.le_refl _, .inl ⟨rfl, rfl, rfl, rfl⟩⟩
theorem OSl.mono {α : Type} {M M' : Mem} {E : Enc α} {xs : List α} {a : Option Addr} {n c : Nat} {t : TypeId} {e : Ent} (hm : Mem.le M M') (h : OSl M E xs a n c t e) : OSl M' E xs a n c t e :=
  ⟨h.len, h.cap, h.out.imp id fun ⟨b, cs, ha, he, hs, hx⟩ => ⟨b, cs, ha, he, hs, fun i x hi => let ⟨es, h1, h2⟩ := hx i x hi; ⟨es, E.mono hm h1, h2⟩⟩⟩
theorem OSl.pt {α : Type} {M : Mem} {E : Enc α} {xs : List α} {a : Option Addr} {n c : Nat} {t : TypeId} {e : Ent} (h : OSl M E xs a n c t e) {H : List Ent} (j : Nat) (hj : H[j]? = some e) {i : Nat} {x : α} (hi : xs[i]? = some x) :
    ∃ es, E.rep M x es ∧ Pt M H (pa a (i * E.n)) es := by
  rcases h.out with ⟨_, rfl, _⟩ | ⟨b, cs, rfl, rfl, hs, hx⟩
  · simp at hi
  · obtain ⟨es, h1, h2⟩ := hx i x hi
    exact ⟨es, h1, ⟨b, 0 + i * E.n, cs, t, (0, 0), pa_some _ _ _, .inr (List.mem_of_getElem? hj), by rw [Nat.zero_add]; exact h2⟩⟩
end Go.Proofs.Ytjbfolnnepjidaa.Tw
