/-
  A clone of a snap, whose rows are each owned; and the law that turns them: both out of gen3.py's print, with the owned rows by hand.
-/
import Derived.Test.YtjbfolnnepjidaaGa2
set_option linter.unusedVariables false
set_option linter.unusedSimpArgs false
namespace Go.Proofs.Ytjbfolnnepjidaa.Tw
open Go

section
variable {u : Bool} {C : Cx} {Q : Post} {ops : Array Oper} {rest : List Oper} {M : Mem} {H H' : List Ent} {l : Slots} {x : Exit} {c : Code}
theorem pmX (p : H.Perm H') (h : Ex C Q x M H' l) : Ex C Q x M H l := fun a w ha => h a w (ha.ghost (·.perm p))
theorem pmO (p : H.Perm H') (h : Ops u C Q ops rest M H' l) : Ops u C Q ops rest M H l := fun a w ha => h a w (ha.ghost (·.perm p))
theorem pmC (p : H.Perm H') (h : Cd C Q c M H' l) : Cd C Q c M H l := fun a w ha => h a w (ha.ghost (·.perm p))
theorem pmid {α : Type} (A K B : List α) : ((A ++ K) ++ B).Perm ((A ++ B) ++ K) := by rw [List.append_assoc, List.append_assoc]; exact List.perm_append_comm.append_left A
theorem psnoc {α : Type} (A : List α) (x : α) (K : List α) : ((A ++ [x]) ++ K).Perm (A ++ (K ++ [x])) := by rw [List.append_assoc]; exact List.perm_append_comm.append_left A
end

/-- A row as it lies in a slice: its header. -/
structure Raw where
  a : Option Addr
  n : Nat
  c : Nat
  w : Bool
def Eq' : Enc Raw where
  n := 2
  rep := fun M x es => es = [.slice x.a x.n x.c, .bool x.w]
  len := fun h => by subst h; rfl
  mono := fun hm h => h
  cell := fun h v hv => by subst h; simp at hv; rcases hv with rfl | rfl <;> rfl
/-- Rows whose cells are owned, each by an entry of its own. -/
def Deep (M : Mem) : List Raw → List Row → List Ent → Prop
  | [], [], [] => True
  | q :: qs, r :: rs, e :: es => OSl M E39 r.Cells q.a q.n q.c 39 e ∧ Deep M qs rs es
  | _, _, _ => False
theorem Deep.mono {M M' : Mem} (hm : Mem.le M M') : ∀ {qs : List Raw} {rs : List Row} {K : List Ent}, Deep M qs rs K → Deep M' qs rs K
  | [], [], [], _ => trivial
  | q :: qs, r :: rs, e :: es, h => ⟨h.1.mono hm, Deep.mono hm h.2⟩
  | [], _ :: _, _, h => h.elim
  | _ :: _, [], _, h => h.elim
  | [], [], _ :: _, h => h.elim
  | _ :: _, _ :: _, [], h => h.elim
theorem Deep.snoc {M : Mem} {q : Raw} {r : Row} {e : Ent} (h0 : OSl M E39 r.Cells q.a q.n q.c 39 e) : ∀ {qs : List Raw} {rs : List Row} {K : List Ent}, Deep M qs rs K → Deep M (qs ++ [q]) (rs ++ [r]) (K ++ [e])
  | [], [], [], _ => ⟨h0, trivial⟩
  | q' :: qs, r' :: rs, e' :: es, h => ⟨h.1, Deep.snoc h0 h.2⟩
  | [], _ :: _, _, h => h.elim
  | _ :: _, [], _, h => h.elim
  | [], [], _ :: _, h => h.elim
  | _ :: _, _ :: _, [], h => h.elim
theorem Deep.len {M : Mem} : ∀ {qs : List Raw} {rs : List Row} {K : List Ent}, Deep M qs rs K → qs.length = rs.length
  | [], [], [], _ => rfl
  | q :: qs, r :: rs, e :: es, h => by simp [Deep.len h.2]
  | [], _ :: _, _, h => h.elim
  | _ :: _, [], _, h => h.elim
  | [], [], _ :: _, h => h.elim
  | _ :: _, _ :: _, [], h => h.elim
/-- One of the rows, apart from the others; and back. -/
theorem Deep.at {M : Mem} : ∀ {qs : List Raw} {rs : List Row} {K : List Ent} {i : Nat} {r : Row}, Deep M qs rs K → rs[i]? = some r → ∃ q e K', qs[i]? = some q ∧ K.Perm (e :: K') ∧ OSl M E39 r.Cells q.a q.n q.c 39 e ∧
      ∀ M', Mem.le M M' → ∀ cs e', OSl M' E39 cs q.a q.n q.c 39 e' → ∃ K'', (e' :: K').Perm K'' ∧ Deep M' qs (rs.set i ⟨cs, r.Wrapped⟩) K''
  | q :: qs, r :: rs, e :: es, 0, r0, h, hr => by
    simp only [List.getElem?_cons_zero, Option.some.injEq] at hr
    subst hr
    exact ⟨q, e, es, rfl, .refl _, h.1, fun M' hm cs e' he => ⟨_, .refl _, he, h.2.mono hm⟩⟩
  | q :: qs, r :: rs, e :: es, i + 1, r0, h, hr => by
    obtain ⟨q1, e1, K1, h1, h2, h3, h4⟩ := Deep.at (i := i) h.2 (by simpa using hr)
    refine ⟨q1, e1, e :: K1, by simpa using h1, (h2.cons e).trans (.swap _ _ _), h3, fun M' hm cs e' he => ?_⟩
    obtain ⟨K2, g1, g2⟩ := h4 M' hm cs e' he
    exact ⟨e :: K2, (List.Perm.swap _ _ _).trans (g1.cons e), h.1.mono hm, g2⟩
  | [], [], [], _, _, _, hr => by simp at hr
  | [], _ :: _, _, _, _, h, _ => h.elim
  | _ :: _, [], _, _, _, h, _ => h.elim
  | [], [], _ :: _, _, _, h, _ => h.elim
  | _ :: _, _ :: _, [], _, _, h, _ => h.elim
def lens (l : List Row) : List Nat := l.map (·.Cells.length)
theorem lens_at {l m : List Row} {i : Nat} {r : Row} (h : lens l = lens m) (hr : m[i]? = some r) : ∃ q, l[i]? = some q ∧ q.Cells.length = r.Cells.length := by
  have h1 : (lens l)[i]? = some r.Cells.length := by rw [h]; simp [lens, hr]
  simp only [lens, List.getElem?_map, Option.map_eq_some_iff] at h1
  exact h1
theorem lens_set {l m : List Row} {i : Nat} {q : Row} {cs : List Cell} {b : Bool} (h : lens l = lens m) (hq : l[i]? = some q) (hc : cs.length = q.Cells.length) : lens (l.set i ⟨cs, b⟩) = lens m := by
  rw [← h]
  obtain ⟨hil, rfl⟩ := List.getElem?_eq_some_iff.1 hq
  apply List.ext_getElem?
  intro k
  simp only [lens, List.getElem?_map, List.getElem?_set]
  by_cases e : i = k
  · subst e; simp [hil, hc]
  · simp [e]
theorem lens_len {l m : List Row} (h : lens l = lens m) : l.length = m.length := by simpa [lens] using congrArg List.length h
theorem EqEl {n by_ : Nat} {z : Value} {P : Program} {t : TypeId} (h : El P t 2 by_ z) : El P t Eq'.n by_ z := h
theorem pmL {C : Cx} {Q : Post} {M : Mem} {H H' : List Ent} {l : Slots} {c : Code} (p : H.Perm H') (h : Lp C Q c M H' l) : Lp C Q c M H l := fun a w ha => h a w (ha.ghost (·.perm p))
theorem pfirst {α : Type} (A : List α) (x : α) (K : List α) : (A ++ x :: K).Perm (A.head?.toList ++ x :: (A.tail ++ K)) := by
  cases A with
  | nil => exact .refl _
  | cons a A => exact (List.perm_middle (a := x) (l₁ := A) (l₂ := K)).cons a
set_option maxRecDepth 20000 in
set_option maxHeartbeats 4000000 in
theorem Clone_deep {M : Mem} {x0 : Snap} {pa0 : Option Addr} {pn0 pc0 : Nat} {pe0 : Ent} {pa1 : Option Addr} {pn1 pc1 : Nat} {pe1 : Ent} {r : Snap} (ph0 : RdE M E37 x0.Rows pa0 pn0 pc0 pe0) (ph1 : RdE M E41 x0.Begun pa1 pn1 pc1 pe1) (hk : snap_Snap_Clone x0 = some r) :
    Does Try.prog 7 [.agg #[.int .i64 x0.K, .int .i64 x0.W, .int .i64 x0.H, .int .i64 x0.X, .int .i64 x0.Y, .string x0.Title, .slice pa0 pn0 pc0, .int .i64 x0.Len, .int .i64 x0.Chain, .slice pa1 pn1 pc1]].toArray M [pe0, pe1] (fun v M' H' => ∃ a101 n102 c103 e105 qs K a106 n107 c108 e110, v = .agg #[.int .i64 r.K, .int .i64 r.W, .int .i64 r.H, .int .i64 r.X, .int .i64 r.Y, .string r.Title, .slice a101 n102 c103, .int .i64 r.Len, .int .i64 r.Chain, .slice a106 n107 c108] ∧ OSl M' Eq' qs a101 n102 c103 37 e105 ∧ Deep M' qs r.Rows K ∧ OSl M' E41 r.Begun a106 n107 c108 41 e110 ∧ H' = [pe0, pe1, e105, e110] ++ K) := by
 refine Does.of Try.func7 rfl rfl fun w0 => sq <| rg <| bx rfl rfl fun b111 => al rfl Zr25 fun b112 => nx <| sq <| rg <| pn 1 rfl <| ?_
 refine nx <| sq <| sq <| rg <| va rfl (fd Fld25_6 rfl (bi 1 rfl rfl)) <| va rfl (ld One22 rfl (Pt.part 6 1 (bi 1 rfl rfl) rfl)) <| va rfl (lf Try.underlying22 ph0.len rfl) <| pn 1 rfl <| nx <| ?_
 refine bk <| bs hk fun y223 e224 hk => Cd.loop <| ?_
 refine blL <| seL [0, 3, 4, 2, 1] rfl <| ls (l' := [(1, .pointer (some ⟨b111, 0, none⟩)), (2, .pointer (some ⟨b112, 0, none⟩)), (3, .slice none 0 0), (7, .slice pa0 pn0 pc0), (8, .int .i64 (x0.Rows.length : Int)), (9, .int .i64 0)]) rfl <| ?_
 refine Lp.lst (xs := x0.Rows) e224 (fun ys_ p212 M213 H' l' => ∃ p206 a207 n210 c208 e211 qs K, Mem.le M M213 ∧ OSl M213 Eq' qs a207 n210 c208 37 e211 ∧ Deep M213 qs p206 K ∧ snap_Snap_Clone_l1 x0 ys_ p206 = some r ∧ l' = [(1, .pointer (some ⟨b111, 0, none⟩)), (2, .pointer (some ⟨b112, 0, none⟩)), (3, .slice a207 n210 c208), (7, .slice pa0 pn0 pc0), (8, .int .i64 (x0.Rows.length : Int)), (9, .int .i64 p212)] ∧ H' = [e211, pe0, pe1, some (b111, .cells #[.int .i64 x0.K, .int .i64 x0.W, .int .i64 x0.H, .int .i64 x0.X, .int .i64 x0.Y, .string x0.Title, .slice pa0 pn0 pc0, .int .i64 x0.Len, .int .i64 x0.Chain, .slice pa1 pn1 pc1] 25 (0, 0)), some (b112, .cells #[.int .i64 0, .int .i64 0, .int .i64 0, .int .i64 0, .int .i64 0, .string (⟨#[]⟩ : ByteArray), .slice none 0 0, .int .i64 0, .int .i64 0, .slice none 0 0] 25 (0, 0))] ++ K) ?_ ?_ _ _ _ ⟨([] : List Row), _, _, _, _, [], [], lr, (OSl.nil _ _ _), trivial, hk, rfl, rfl⟩
 · rintro p212 e217 M213 H' l' ⟨p206, a207, n210, c208, e211, qs, K, hle214, h209, hD, hk, rfl, rfl⟩
   refine sq <| rg <| pn 1 rfl <| nx <| sq <| cn rfl e217 <| ex <| te <| te <| ?_
   refine xe <| xn <| sq <| rg <| pn 1 rfl <| va rfl (fd Fld25_9 rfl (bi 3 rfl rfl)) <| va rfl (ld One23 rfl (Pt.part 9 1 (bi 3 rfl rfl) rfl)) <| ?_
   have ph1 := ph1.mono hle214
   refine st 5 [2, 0, 1, 3, 4] rfl rfl rfl <| bs hk fun y226 e227 hk => ca rfl Ok20 (slices_Clone_row_Glyph_2_does (ph1.rde) e227) rfl rfl <| ?_
   rintro _ M228 _ l229 ⟨a230, n231, c232, e234, rfl, h233, rfl⟩
   refine va rfl (fd Fld25_6 rfl (bi 4 rfl rfl)) <| sr 4 rfl Sz22 rfl rfl rfl rfl rfl <| va rfl (fd Fld25_9 rfl (bi 4 rfl rfl)) <| sr 4 rfl Sz23 rfl rfl rfl rfl rfl <| nx <| sq <| rg <| va rfl (lN Rowy25 Sz25 rfl (bi 4 rfl rfl) rfl) <| sr 5 rfl Sz25 rfl rfl rfl rfl rfl <| ?_
   refine nx <| rt <| ?_
   obtain rfl := si hk
   refine stX 6 [3, 0, 2, 1, 5] rfl rfl rfl <| pmX (pmid [pe0, pe1, e211, e234] [_] K) <| ?_
   have h209 := h209.mono l229
   have hD := hD.mono l229
   exact Ex.out ([pe0, pe1, e211, e234] ++ K).length rfl (.inl rfl) rfl (rs := [_]) (vs := [_]) ⟨⟨_, rfl, .inr ⟨Rowy25, _, _, rfl, Sz25, ⟨⟨b112, 0, _, _, _, rfl, .inr (List.mem_append_right _ (List.mem_singleton.2 rfl)), At.all _⟩⟩, rfl⟩⟩, trivial⟩ rfl ⟨_, _, _, _, qs, K, _, _, _, _, rfl, h209, hD, h233, List.take_left⟩
 rintro y221 ys222 p212 e217 i218 j219 h220 w216 ih215 M213 H' l' ⟨p206, a207, n210, c208, e211, qs, K, hle214, h209, hD, hk, rfl, rfl⟩
 refine sq <| rg <| pn 1 rfl <| nx <| sq <| cy rfl e217 <| sk <| xn <| sq <| ?_
 refine bk <| sq <| rg <| ?_
 have ph0 := ph0.mono hle214
 obtain ⟨_, ⟨a236, n237, c238, rfl, h239⟩, h235⟩ := ph0.el h220
 refine va rfl (ix Sl22 rfl rfl i218 (lt_of ph0.len j219) h235.ne) <| va rfl (lN Rowy37 Sz37 rfl (h235.pt 1 rfl) rfl) <| al rfl Zr37 fun b240 => sr 0 rfl Sz37 rfl rfl rfl rfl rfl <| nx <| ?_
 refine dt [0, 2, 3, 4, 5] rfl 9 rfl (.tk [0, 1, 2, 4, 5] (.one 3 (.tk [6] (.one 7 (.one 8 .nil))))) Mixed (by kernel_rfl) <| dn 1 rfl <| dv rfl rfl (fd Fld37_0 rfl (bi 0 rfl rfl)) <| dv rfl rfl (ld One35 rfl (Pt.part 0 1 (bi 0 rfl rfl) rfl)) <| dv rfl rfl (fd Fld37_1 rfl (bi 0 rfl rfl)) <| dv rfl rfl (ld One4 rfl (Pt.part 1 1 (bi 0 rfl rfl) rfl)) <| da rfl <| bs hk fun y261 e262 hk => ca rfl Ok19 (slices_Clone_row_Cell_does h239 e262) rfl rfl <| ?_
 rintro _ M263 _ l264 ⟨a265, n266, c267, e269, rfl, h268, rfl⟩
 refine db [1, 3, 4, 5, 6] l264 rfl <| dv rfl rfl (bd (cells := [.slice a265 n266 c267, .bool y221.Wrapped]) Bld37 rfl) <| da rfl <| ?_
 refine li Eq' [(⟨a265, n266, c267, y221.Wrapped⟩ : Raw)] rfl Sl22 El37 rfl rfl ⟨rfl, rfl⟩ fun b270 h271 => db [2, 4, 5, 6, 7] l264 rfl <| bs hk fun y274 e275 hk => da rfl <| ap (E := Eq') 3 rfl Sl22 El37 rfl rfl (h209.mono l264) rfl (RdE.rds h271.rde 0 rfl) (by rw [List.length_singleton, hD.len]; exact e275) rfl (fun _ => rfl) fun a276 n277 c278 e279 h280 => db [2, 4, 5, 6, 7] l264 rfl <| dd <| td rfl <| pn 1 rfl <| ?_
 refine on <| xb <| xn <| rg <| pn 2 rfl <| on <| sx 9 w216 rfl <| stX 8 [3, 4, 5, 6, 7, 1] rfl rfl rfl <| pmX (psnoc [_, _, _, _, _] e269 K) <| ?_
 exact asx (ih215 _ _ _ ⟨(p206 ++ ([(⟨y261, y221.Wrapped⟩ : Row)] : List Row)), _, _, _, _, _, _, (hle214.t l264), h280, (hD.mono l264).snoc h268, hk, rfl, rfl⟩) rfl
set_option maxRecDepth 20000 in
set_option maxHeartbeats 4000000 in
theorem tidewracklaw16_SnapClones_does {M : Mem} {x0 : Snap} {x1 : Int} {pa0 : Option Addr} {pn0 pc0 : Nat} {pa1 : Option Addr} {pn1 pc1 : Nat} {r : Bool} (ph0 : SRep M E37 x0.Rows pa0 pn0 pc0) (ph1 : SRep M E41 x0.Begun pa1 pn1 pc1) (hk : tidewracklaw16_SnapClones x0 x1 = some r) :
    Does Try.prog 3 [.agg #[.int .i64 x0.K, .int .i64 x0.W, .int .i64 x0.H, .int .i64 x0.X, .int .i64 x0.Y, .string x0.Title, .slice pa0 pn0 pc0, .int .i64 x0.Len, .int .i64 x0.Chain, .slice pa1 pn1 pc1], .int .i64 x1].toArray M [] (fun v M' H' => v = .bool r ∧ H' = []) := by
 refine Does.of Try.func3 rfl rfl fun w0 => sq <| rg <| bx rfl rfl fun b101 => pn 1 rfl <| nx <| sq <| sq <| rg <| ?_
 refine bs hk fun y102 e103 hk => caq rfl Ok4 (tidewracklaw16_awake_does e103) rfl rfl <| pn 1 rfl <| nx <| ?_
 rcases cs hk with ⟨e106, hk⟩ | ⟨e106, hk⟩
 · refine cy rfl e106 <| sq <| rg <| pn 1 rfl <| nx <| rt <| tr <| ?_
   obtain rfl := si hk
   exact seX [] rfl <| oR 0 rfl rfl ⟨rfl, rfl⟩
 refine cn rfl e106 <| sk <| xn <| sq <| rg <| va rfl (lN Rowy25 Sz25 rfl (bi 0 rfl rfl) rfl) <| bs hk fun y107 e108 hk => ca rfl Ok5 (tidewracklaw16_Cut_does ph0 ph1 e108) rfl rfl <| ?_
 rintro _ M109 _ l110 ⟨a111, n112, c113, e115, a116, n117, c118, e120, rfl, h114, h119, rfl⟩
 refine sr 2 rfl Sz25 rfl rfl rfl rfl rfl <| nx <| sq <| rg <| va rfl (lN Rowy25 Sz25 rfl (bi 2 rfl rfl) rfl) <| bs hk fun y121 e122 hk => ca rfl Ok6 (tidewracklaw16_Told_does (h114.rde) (h119.rde) e122) rfl rfl <| ?_
 rintro _ M123 _ l124 ⟨a125, n126, c127, e129, a130, n131, c132, e134, rfl, h128, h133, rfl⟩
 refine al rfl Zr32 fun b135 => sr 0 rfl Sz32 rfl rfl rfl rfl rfl <| nx <| sq <| rg <| va rfl (lN Rowy25 Sz25 rfl (bi 5 rfl rfl) rfl) <| ?_
 have h114 := h114.mono l124
 have h119 := h119.mono l124
 refine se [1, 2, 0, 3, 4, 5] rfl <| bs hk fun y136 e137 hk => ca rfl Ok7 (Clone_deep (h114.rde) (h119.rde) e137) rfl rfl <| ?_
 rintro _ M138 _ l139 ⟨a140, n141, c142, e144, qs, K, a145, n146, c147, e149, rfl, h143, hD, h148, rfl⟩
 refine pmO (pmid [e115, e120, e144, e149] K [_, _, _, _]) <| ?_
 have hq := hD.len
 refine al rfl Zr25 fun b150 => sr 0 rfl Sz25 rfl rfl rfl rfl rfl <| nx <| sq <| sq <| rg <| va rfl (fd Fld25_6 rfl (bi 0 rfl rfl)) <| va rfl (ld One22 rfl (Pt.part 6 1 (bi 0 rfl rfl) rfl)) <| va rfl (lf Try.underlying22 (h143.len.trans hq) rfl) <| ?_
 refine pn 1 rfl <| nx <| bk <| bs hk fun y301 e302 hk => Cd.loop <| ?_
 refine stL 9 [1, 2, 6, 7, 3, 4, 8, 5, 0] rfl rfl rfl <| ls (l' := [(1, .int .i64 x1), (2, .pointer (some ⟨b101, 0, none⟩)), (4, .bool false), (5, .pointer (some ⟨b135, 0, none⟩)), (6, .pointer (some ⟨b150, 0, none⟩)), (20, .int .i64 (y136.Rows.length : Int)), (21, .int .i64 0)]) rfl <| ?_
 refine Lp.lst (xs := y136.Rows) e302 (fun ys_ p290 M291 H' l' => ∃ ps K, Mem.le M138 M291 ∧ Deep M291 qs ps K ∧ lens ps = lens y136.Rows ∧ tidewracklaw16_SnapClones_l1 y136 y107 y121 ys_ p290 = some r ∧ l' = [(1, .int .i64 x1), (2, .pointer (some ⟨b101, 0, none⟩)), (4, .bool false), (5, .pointer (some ⟨b135, 0, none⟩)), (6, .pointer (some ⟨b150, 0, none⟩)), (20, .int .i64 (y136.Rows.length : Int)), (21, .int .i64 p290)] ∧ H' = [e115, e120, e129, e134, e144, e149, some (b101, .cells #[.int .i64 y107.K, .int .i64 y107.W, .int .i64 y107.H, .int .i64 y107.X, .int .i64 y107.Y, .string y107.Title, .slice a111 n112 c113, .int .i64 y107.Len, .int .i64 y107.Chain, .slice a116 n117 c118] 25 (0, 0)), some (b135, .cells #[.int .i64 y121.K, .int .i64 y121.W, .int .i64 y121.H, .int .i64 y121.X, .int .i64 y121.Y, .string y121.Title, .slice a125 n126 c127, .int .i64 y121.Len, .int .i64 y121.Chain, .slice a130 n131 c132] 32 (0, 0)), some (b150, .cells #[.int .i64 y136.K, .int .i64 y136.W, .int .i64 y136.H, .int .i64 y136.X, .int .i64 y136.Y, .string y136.Title, .slice a140 n141 c142, .int .i64 y136.Len, .int .i64 y136.Chain, .slice a145 n146 c147] 25 (0, 0))] ++ K) ?_ ?_ _ _ _ ⟨y136.Rows, K, lr, hD, rfl, hk, rfl, rfl⟩
 · rintro p290 e295 M291 H' l' ⟨ps, K, hle292, hD, hL, hk, rfl, rfl⟩
   refine sq <| rg <| pn 1 rfl <| nx <| sq <| cn rfl e295 <| ex <| te <| te <| ?_
   refine xe <| xn <| sq <| sq <| rg <| va rfl (fd Fld25_9 rfl (bi 8 rfl rfl)) <| va rfl (ld One23 rfl (Pt.part 9 1 (bi 8 rfl rfl) rfl)) <| va rfl (lf Try.underlying23 h148.len rfl) <| pn 1 rfl <| ?_
   refine nx <| bk <| bs hk fun y348 e349 hk => Cd.loop <| ?_
   refine seL [5, 0, 1, 2, 3, 4, 6, 7, 8] rfl <| ?_
   have h148 := h148.mono hle292
   refine ls (l' := [(2, .pointer (some ⟨b101, 0, none⟩)), (4, .bool false), (5, .pointer (some ⟨b135, 0, none⟩)), (6, .pointer (some ⟨b150, 0, none⟩)), (54, .int .i64 (y136.Begun.length : Int)), (55, .int .i64 0)]) rfl <| ?_
   refine Lp.nat (n := (y136.Begun.length : Int)) (of_decide_eq_true (need_some e349)) (fun ys_ p337 M338 H' l' => ∃ p331 e336, Mem.le M291 M338 ∧ OSl M338 E41 p331 a145 n146 c147 41 e336 ∧ tidewracklaw16_SnapClones_l2 y136 y107 y121 ys_ p337 p331 = some r ∧ l' = [(2, .pointer (some ⟨b101, 0, none⟩)), (4, .bool false), (5, .pointer (some ⟨b135, 0, none⟩)), (6, .pointer (some ⟨b150, 0, none⟩)), (54, .int .i64 (y136.Begun.length : Int)), (55, .int .i64 p337)] ∧ H' = [e336, e115, e120, e129, e134, e144, some (b101, .cells #[.int .i64 y107.K, .int .i64 y107.W, .int .i64 y107.H, .int .i64 y107.X, .int .i64 y107.Y, .string y107.Title, .slice a111 n112 c113, .int .i64 y107.Len, .int .i64 y107.Chain, .slice a116 n117 c118] 25 (0, 0)), some (b135, .cells #[.int .i64 y121.K, .int .i64 y121.W, .int .i64 y121.H, .int .i64 y121.X, .int .i64 y121.Y, .string y121.Title, .slice a125 n126 c127, .int .i64 y121.Len, .int .i64 y121.Chain, .slice a130 n131 c132] 32 (0, 0)), some (b150, .cells #[.int .i64 y136.K, .int .i64 y136.W, .int .i64 y136.H, .int .i64 y136.X, .int .i64 y136.Y, .string y136.Title, .slice a140 n141 c142, .int .i64 y136.Len, .int .i64 y136.Chain, .slice a145 n146 c147] 25 (0, 0))]) ?_ ?_ _ _ _ ⟨y136.Begun, _, lr, h148, hk, rfl, rfl⟩
   · rintro p337 e342 M338 H' l' ⟨p331, e336, hle339, h334, hk, rfl, rfl⟩
     refine sq <| rg <| pn 1 rfl <| nx <| sq <| cn rfl e342 <| ex <| te <| te <| ?_
     refine xe <| xn <| sq <| rg <| va rfl (fd Fld25_6 rfl (bi 8 rfl rfl)) <| va rfl (ld One22 rfl (Pt.part 6 1 (bi 8 rfl rfl) rfl)) <| va rfl (bd (cells := [.slice none 0 0, .bool false]) Bld37 rfl) <| ?_
     refine li Eq' [(⟨none, 0, 0, false⟩ : Raw)] rfl Sl22 El37 rfl rfl ⟨rfl, rfl⟩ fun b351 h352 => bs hk fun y353 e354 hk => ?_
     have h143 := h143.mono (hle292.t hle339)
     refine ap (E := Eq') 6 rfl Sl22 El37 rfl rfl h143 rfl (RdE.rds h352.rde 0 rfl) (by rw [hq]; exact e354) rfl (fun _ => rfl) fun a355 n356 c357 e358 h359 => va rfl (fd Fld25_6 rfl (bi 9 rfl rfl)) <| sr 9 rfl Sz22 rfl rfl rfl rfl rfl <| nx <| sq <| rg <| va rfl (lN Rowy25 Sz25 rfl (bi 7 rfl rfl) rfl) <| va rfl (lN Rowy32 Sz32 rfl (bi 8 rfl rfl) rfl) <| ?_
     have h114 := h114.mono ((l139.t hle292).t hle339)
     have h119 := h119.mono ((l139.t hle292).t hle339)
     have h128 := h128.mono ((l139.t hle292).t hle339)
     have h133 := h133.mono ((l139.t hle292).t hle339)
     refine se [2, 3, 4, 5, 0, 1, 6, 7, 8, 9] rfl <| bs hk fun y360 e361 hk => caq rfl Ok8 (tidewracklaw16_Is_does (h114.rde) (h119.rde) (h128.rde) (h133.rde) e361) rfl rfl <| pn 1 rfl <| nx <| rt <| ?_
     obtain rfl := si hk
     exact seX [] rfl <| oR 0 rfl rfl ⟨rfl, rfl⟩
   rintro k347 p337 e342 i343 j344 w341 ih340 M338 H' l' ⟨p331, e336, hle339, h334, hk, rfl, rfl⟩
   refine sq <| rg <| pn 1 rfl <| nx <| sq <| cy rfl e342 <| sk <| xn <| sq <| ?_
   refine bk <| sq <| rg <| pn 2 rfl <| nx <| rg <| va rfl (fd Fld25_9 rfl (bi 8 rfl rfl)) <| va rfl (ld One23 rfl (Pt.part 9 1 (bi 8 rfl rfl) rfl)) <| pn 1 rfl <| ?_
   refine bs hk fun y365 e366 hk => ?_
   obtain ⟨i367, j368, h369⟩ := idx_some e366
   obtain ⟨_, rfl, h364⟩ := h334.el h369
   refine va rfl (ix Sl23 rfl rfl i367 (lt_of h334.len j368) h364.ne) <| va rfl (fd Fld41_0 rfl (h364.pt 0 rfl)) <| va rfl (ld One21 rfl (Pt.part 0 1 (h364.pt 0 rfl) rfl)) <| pn 1 rfl <| va rfl (ix Sl23 rfl rfl i367 (lt_of h334.len j368) h364.ne) <| va rfl (fd Fld41_0 rfl (h364.pt 0 rfl)) <| so (i := p337.toNat) (off := 0) (z' := (⟨(IntKind.i32.wrap (y365.Rune + 1)), y365.Style⟩ : Glyph)) 0 rfl Sz21 rfl (pa_pa _ _ _ h334.plain) rfl h334 rfl h369 rfl (fun _ h => by subst h; rfl) (fun _ => rfl) fun e370 h371 => on <| xb <| ?_
   refine xn <| rg <| pn 2 rfl <| on <| sx 55 w341 rfl <| ?_
   exact asx (ih340 _ _ _ ⟨(p331.set p337.toNat (⟨(IntKind.i32.wrap (y365.Rune + 1)), y365.Style⟩ : Glyph)), _, hle339, h371, hk, rfl, rfl⟩) rfl
 rintro y299 ys300 p290 e295 i296 j297 h298 w294 ih293 M291 H' l' ⟨ps, K, hle292, hD, hL, hk, rfl, rfl⟩
 refine sq <| rg <| pn 1 rfl <| nx <| sq <| cy rfl e295 <| sk <| xn <| sq <| ?_
 refine bk <| sq <| rg <| pn 2 rfl <| nx <| sq <| rg <| va rfl (fd Fld25_6 rfl (bi 8 rfl rfl)) <| va rfl (ld One22 rfl (Pt.part 6 1 (bi 8 rfl rfl) rfl)) <| ?_
 refine pn 1 rfl <| ?_
 have h143 := h143.mono hle292
 obtain ⟨row, hrow, hrl⟩ := lens_at hL h298
 obtain ⟨q, eK, K1, hqi, hKp, hO, hback⟩ := hD.at hrow
 obtain ⟨_, rfl, h372⟩ := h143.el hqi
 refine va rfl (ix Sl22 rfl rfl i296 (lt_of (h143.len.trans hq) j297) h372.ne) <| va rfl (fd Fld37_0 rfl (h372.pt 4 rfl)) <| va rfl (ld One35 rfl (Pt.part 0 1 (h372.pt 4 rfl) rfl)) <| va rfl (lf Try.underlying35 (hO.len.trans hrl) rfl) <| pn 1 rfl <| nx <| bk <| bs hk fun y415 e416 hk => Cd.loop <| ?_
 refine stL 9 [4, 0, 1, 2, 3, 5, 6, 7, 8] rfl rfl rfl <| pmL ((hKp.append_left _).trans (pfirst [_, _, _, _, _, _, _, _, _] eK K1)) <| ls (l' := [(1, .int .i64 x1), (2, .pointer (some ⟨b101, 0, none⟩)), (4, .bool false), (5, .pointer (some ⟨b135, 0, none⟩)), (6, .pointer (some ⟨b150, 0, none⟩)), (7, .int .i64 p290), (20, .int .i64 (y136.Rows.length : Int)), (21, .int .i64 p290), (22, .bool (decide (p290 < (y136.Rows.length : Int)))), (23, .int .i64 p290), (24, .pointer (pa (some ⟨b150, 0, none⟩) 6)), (25, .slice a140 n141 c142), (26, .int .i64 p290), (29, .slice q.a q.n q.c), (30, .int .i64 (y299.Cells.length : Int)), (31, .int .i64 0)]) rfl <| ?_
 refine Lp.nat (n := (y299.Cells.length : Int)) (of_decide_eq_true (need_some e416)) (fun ys_ p404 M405 H' l' => ∃ cs e, Mem.le M291 M405 ∧ OSl M405 E39 cs q.a q.n q.c 39 e ∧ cs.length = row.Cells.length ∧ tidewracklaw16_SnapClones_l3 (tidewracklaw16_SnapClones_l1 y136 y107 y121 ys300 (p290 + 1)) y136 p290 ys_ p404 = some r ∧ l' = [(1, .int .i64 x1), (2, .pointer (some ⟨b101, 0, none⟩)), (4, .bool false), (5, .pointer (some ⟨b135, 0, none⟩)), (6, .pointer (some ⟨b150, 0, none⟩)), (7, .int .i64 p290), (20, .int .i64 (y136.Rows.length : Int)), (21, .int .i64 p290), (22, .bool (decide (p290 < (y136.Rows.length : Int)))), (23, .int .i64 p290), (24, .pointer (pa (some ⟨b150, 0, none⟩) 6)), (25, .slice a140 n141 c142), (26, .int .i64 p290), (29, .slice q.a q.n q.c), (30, .int .i64 (y299.Cells.length : Int)), (31, .int .i64 p404)] ∧ H' = [e144, e, e115, e120, e129, e134, e149, some (b101, .cells #[.int .i64 y107.K, .int .i64 y107.W, .int .i64 y107.H, .int .i64 y107.X, .int .i64 y107.Y, .string y107.Title, .slice a111 n112 c113, .int .i64 y107.Len, .int .i64 y107.Chain, .slice a116 n117 c118] 25 (0, 0)), some (b135, .cells #[.int .i64 y121.K, .int .i64 y121.W, .int .i64 y121.H, .int .i64 y121.X, .int .i64 y121.Y, .string y121.Title, .slice a125 n126 c127, .int .i64 y121.Len, .int .i64 y121.Chain, .slice a130 n131 c132] 32 (0, 0)), some (b150, .cells #[.int .i64 y136.K, .int .i64 y136.W, .int .i64 y136.H, .int .i64 y136.X, .int .i64 y136.Y, .string y136.Title, .slice a140 n141 c142, .int .i64 y136.Len, .int .i64 y136.Chain, .slice a145 n146 c147] 25 (0, 0))] ++ K1) ?_ ?_ _ _ _ ⟨row.Cells, eK, lr, hO, rfl, hk, rfl, rfl⟩
 · rintro p404 e409 M405 H' l' ⟨cs, e, hle406, hO, hcl, hk, rfl, rfl⟩
   refine sq <| rg <| pn 1 rfl <| nx <| sq <| cn rfl e409 <| ex <| te <| te <| ?_
   refine xe <| xb <| xn <| rg <| pn 2 rfl <| on <| sx 21 w294 rfl <| stX 10 [2, 3, 4, 5, 0, 6, 7, 8, 9, 1] rfl rfl rfl <| ?_
   obtain ⟨K2, hp2, hD2⟩ := hback _ hle406 cs e hO
   refine pmX (hp2.append_left [_, _, _, _, _, _, _, _, _]) <| ?_
   exact asx (ih293 _ _ _ ⟨_, K2, (hle292.t hle406), hD2, lens_set hL hrow hcl, hk, rfl, rfl⟩) rfl
 rintro k414 p404 e409 i410 j411 w408 ih407 M405 H' l' ⟨cs, e, hle406, hO, hcl, hk, rfl, rfl⟩
 refine sq <| rg <| pn 1 rfl <| nx <| sq <| cy rfl e409 <| sk <| xn <| sq <| ?_
 refine bk <| sq <| rg <| pn 2 rfl <| nx <| rg <| va rfl (fd Fld25_6 rfl (bi 9 rfl rfl)) <| va rfl (ld One22 rfl (Pt.part 6 1 (bi 9 rfl rfl) rfl)) <| pn 1 rfl <| ?_
 refine bs hk fun y419 e420 hk => ?_
 obtain ⟨i421, j422, h423⟩ := idx_some e420
 have h143 := h143.mono hle406
 have hy : y419 = y299 := by rw [h298] at h423; exact (Option.some.inj h423).symm
 obtain ⟨_, rfl, h418⟩ := h143.el hqi
 refine va rfl (ix Sl22 rfl rfl i421 (lt_of (h143.len.trans hq) j422) h418.ne) <| va rfl (fd Fld37_0 rfl (h418.pt 0 rfl)) <| va rfl (ld One35 rfl (Pt.part 0 1 (h418.pt 0 rfl) rfl)) <| pn 1 rfl <| bs hk fun y429 e430 hk => ?_
 obtain ⟨i431, j432, h433⟩ := idx_some e430
 have hlt : p404.toNat < cs.length := by have := (List.getElem?_eq_some_iff.1 h433).1; rw [hy] at this; omega
 obtain ⟨z, hz⟩ : ∃ z, cs[p404.toNat]? = some z := ⟨_, List.getElem?_eq_getElem hlt⟩
 obtain ⟨_, rfl, h428⟩ := hO.el hz
 have hn1 : q.n = y419.Cells.length := by rw [hy]; exact hO.len.trans (hcl.trans hrl)
 refine va rfl (ix Sl35 rfl rfl i431 (lt_of hn1 j432) h428.ne) <| va rfl (fd Fld39_1 rfl (h428.pt 1 rfl)) <| va rfl (ld One3 rfl (Pt.part 1 1 (h428.pt 1 rfl) rfl)) <| pn 4 rfl <| va rfl (ix Sl35 rfl rfl i431 (lt_of hn1 j432) h428.ne) <| va rfl (fd Fld39_1 rfl (h428.pt 1 rfl)) <| ?_
 refine so (i := p404.toNat) (off := 1) (z' := ({ z with Style := w64 (z.Style + w64 (1 + band .i64 x1 7)) } : Cell)) 1 rfl Sz3 rfl (pa_pa _ _ _ hO.plain) rfl hO rfl hz rfl (fun _ h => by subst h; rfl) (fun _ => rfl) fun e' hO' => ?_
 refine on <| xb <| xn <| rg <| pn 2 rfl <| on <| sx 31 w408 rfl <| ?_
 exact asx (ih407 _ _ _ ⟨_, _, hle406, hO', by rw [List.length_set]; exact hcl, hk, rfl, rfl⟩) rfl
end Go.Proofs.Ytjbfolnnepjidaa.Tw
