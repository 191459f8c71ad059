/-
  Written by gen3.py for this claim: plain functions and walks (part 2).
-/
import Derived.Test.YtjbfolnnepjidaaGa1
import Derived.Test.YtjbfolnnepjidaaProg
set_option linter.unusedVariables false
namespace Go.Proofs.Ytjbfolnnepjidaa.Tw
open Go

/-! 48 slices.EqualFunc[[]tidewrack/row.Row,[]tidewrack/row.Row,tidewrack/row.Row,tidewrack/row.Row] -/
def slices_EqualFunc_row_Row_l1 (x1 : List Row) : List Row → Int → Option (Bool)
  | [], p161 =>
  some true
  | y170 :: ys171, p161 =>
  (idx x1 p161).bind fun y182 => (row_Row_Same y170 y182).bind fun y192 => (bif (!y192) then some false else (slices_EqualFunc_row_Row_l1 x1 ys171 (p161 + 1)))
def slices_EqualFunc_row_Row (x0 : List Row) (x1 : List Row) : Option (Bool) :=
  (bif ((x0.length : Int) != (x1.length : Int)) then some false else (cap x0.length).bind fun y172 => slices_EqualFunc_row_Row_l1 x1 x0 0)
set_option maxRecDepth 20000 in
set_option maxHeartbeats 4000000 in
theorem slices_EqualFunc_row_Row_does {M : Mem} {x0 : List Row} {x1 : List Row} {pa0 : Option Addr} {pn0 pc0 : Nat} {pe0 : Ent} {pa1 : Option Addr} {pn1 pc1 : Nat} {pe1 : Ent} {r : Bool} (ph0 : RdE M E37 x0 pa0 pn0 pc0 pe0) (ph1 : RdE M E37 x1 pa1 pn1 pc1 pe1) (hk : slices_EqualFunc_row_Row x0 x1 = some r) :
    Does Try.prog 48 [.slice pa0 pn0 pc0, .slice pa1 pn1 pc1, .func (.func 49) #[] #[]].toArray M [pe0, pe1] (fun v M' H' => v = .bool r ∧ H' = [pe0, pe1]) := by
 refine Does.of Try.func48 rfl rfl fun w0 => sq <| rg <| pn 1 rfl <| nx <| sq <| sq <| rg <| pn 1 rfl <| ?_
 refine va rfl (lf Try.underlying22 ph0.len rfl) <| pn 1 rfl <| va rfl (lf Try.underlying22 ph1.len rfl) <| pn 1 rfl <| nx <| ?_
 rcases cs hk with ⟨e101, hk⟩ | ⟨e101, hk⟩
 · refine cy rfl e101 <| sq <| rg <| pn 1 rfl <| nx <| rt <| tr <| ?_
   obtain rfl := si hk
   exact oR 2 rfl rfl ⟨rfl, rfl⟩
 refine cn rfl e101 <| sk <| xn <| sq <| sq <| rg <| pn 1 rfl <| va rfl (lf Try.underlying22 ph0.len rfl) <| pn 1 rfl <| ?_
 refine nx <| bk <| bs hk fun y172 e173 hk => Cd.loop <| ?_
 refine seL [1, 0] rfl <| ls (l' := [(1, .slice pa1 pn1 pc1), (2, .func (.func 49) #[] #[]), (6, .bool false), (15, .slice pa0 pn0 pc0), (16, .int .i64 (x0.length : Int)), (17, .int .i64 0)]) rfl <| ?_
 refine Lp.lst (xs := x0) e173 (fun ys_ p161 M162 H' l' => Mem.le M M162 ∧ slices_EqualFunc_row_Row_l1 x1 ys_ p161 = some r ∧ l' = [(1, .slice pa1 pn1 pc1), (2, .func (.func 49) #[] #[]), (6, .bool false), (15, .slice pa0 pn0 pc0), (16, .int .i64 (x0.length : Int)), (17, .int .i64 p161)] ∧ H' = [pe1, pe0]) ?_ ?_ _ _ _ ⟨lr, hk, rfl, rfl⟩
 · rintro p161 e166 M162 H' l' ⟨hle163, hk, rfl, rfl⟩
   refine sq <| rg <| pn 1 rfl <| nx <| sq <| cn rfl e166 <| ex <| te <| te <| ?_
   refine xe <| xn <| sq <| rg <| pn 1 rfl <| nx <| rt <| ?_
   obtain rfl := si hk
   exact seX [1, 0] rfl <| oR 2 rfl rfl ⟨rfl, rfl⟩
 rintro y170 ys171 p161 e166 i167 j168 h169 w165 ih164 M162 H' l' ⟨hle163, hk, rfl, rfl⟩
 refine sq <| rg <| pn 1 rfl <| nx <| sq <| cy rfl e166 <| sk <| xn <| sq <| ?_
 refine bk <| sq <| rg <| pn 1 rfl <| ?_
 have ph0 := ph0.mono hle163
 obtain ⟨_, ⟨a176, n177, c178, rfl, h179⟩, h175⟩ := ph0.el h169
 refine va rfl (ix Sl22 rfl rfl i167 (lt_of ph0.len j168) h175.ne) <| va rfl (lN Rowy37 Sz37 rfl (h175.pt 1 rfl) rfl) <| al rfl Zr37 fun b180 => pn 1 rfl <| sr 0 rfl Sz37 rfl rfl rfl rfl rfl <| nx <| sq <| rg <| pn 2 rfl <| ?_
 refine bs hk fun y182 e183 hk => ?_
 obtain ⟨i184, j185, h186⟩ := idx_some e183
 have ph1 := ph1.mono hle163
 obtain ⟨_, ⟨a187, n188, c189, rfl, h190⟩, h181⟩ := ph1.el h186
 refine va rfl (ix Sl22 rfl rfl i184 (lt_of ph1.len j185) h181.ne) <| va rfl (lN Rowy37 Sz37 rfl (h181.pt 1 rfl) rfl) <| al rfl Zr37 fun b191 => sr 0 rfl Sz37 rfl rfl rfl rfl rfl <| nx <| sq <| rg <| pn 1 rfl <| va rfl (lN Rowy37 Sz37 rfl (bi 1 rfl rfl) rfl) <| ?_
 refine va rfl (lN Rowy37 Sz37 rfl (bi 0 rfl rfl) rfl) <| bs hk fun y192 e193 hk => cavq (vs := [_, _]) (cs := []) rfl Ok49 rfl (row_Row_Same_does h179 h190 e193) rfl rfl <| pn 1 rfl <| nx <| ?_
 rcases cs hk with ⟨e196, hk⟩ | ⟨e196, hk⟩
 · refine cy rfl e196 <| sq <| rg <| pn 1 rfl <| nx <| rt <| xr <| tr <| tr <| ?_
   refine xr <| tr <| ?_
   obtain rfl := si hk
   exact seX [3, 2] rfl <| oR 2 rfl rfl ⟨rfl, rfl⟩
 refine cn rfl e196 <| sk <| xb <| xn <| rg <| pn 2 rfl <| on <| sx 17 w165 rfl <| seX [2, 3] rfl <| ?_
 exact asx (ih164 _ _ _ ⟨hle163, hk, rfl, rfl⟩) rfl
theorem Ok48 : CallOk Try.prog 48 := ⟨_, Try.func48, by kernel_rfl, by kernel_rfl⟩
theorem Eqt41 : EqT Try.prog 41 [(0, .int .i32), (1, .int .i64)] := ⟨_, Try.underlying41, by kernel_rfl, by kernel_rfl, by kernel_rfl⟩
/-! 50 slices.Equal[[]tidewrack/row.Glyph,tidewrack/row.Glyph] -/
def slices_Equal_row_Glyph_l1 (x1 : List Glyph) : List Glyph → Int → Option (Bool)
  | [], p133 =>
  some true
  | y142 :: ys143, p133 =>
  (idx x1 p133).bind fun y149 => (bif (!((y142.Rune == y149.Rune) && ((y142.Style == y149.Style) && true))) then some false else (slices_Equal_row_Glyph_l1 x1 ys143 (p133 + 1)))
def slices_Equal_row_Glyph (x0 : List Glyph) (x1 : List Glyph) : Option (Bool) :=
  (bif ((x0.length : Int) != (x1.length : Int)) then some false else (cap x0.length).bind fun y144 => slices_Equal_row_Glyph_l1 x1 x0 0)
set_option maxRecDepth 20000 in
set_option maxHeartbeats 4000000 in
theorem slices_Equal_row_Glyph_does {M : Mem} {x0 : List Glyph} {x1 : List Glyph} {pa0 : Option Addr} {pn0 pc0 : Nat} {pe0 : Ent} {pa1 : Option Addr} {pn1 pc1 : Nat} {pe1 : Ent} {r : Bool} (ph0 : RdE M E41 x0 pa0 pn0 pc0 pe0) (ph1 : RdE M E41 x1 pa1 pn1 pc1 pe1) (hk : slices_Equal_row_Glyph x0 x1 = some r) :
    Does Try.prog 50 [.slice pa0 pn0 pc0, .slice pa1 pn1 pc1].toArray M [pe0, pe1] (fun v M' H' => v = .bool r ∧ H' = [pe0, pe1]) := by
 refine Does.of Try.func50 rfl rfl fun w0 => sq <| rg <| pn 1 rfl <| nx <| sq <| sq <| rg <| pn 1 rfl <| ?_
 refine va rfl (lf Try.underlying23 ph0.len rfl) <| pn 1 rfl <| va rfl (lf Try.underlying23 ph1.len rfl) <| pn 1 rfl <| nx <| ?_
 rcases cs hk with ⟨e101, hk⟩ | ⟨e101, hk⟩
 · refine cy rfl e101 <| sq <| rg <| pn 1 rfl <| nx <| rt <| tr <| ?_
   obtain rfl := si hk
   exact oR 2 rfl rfl ⟨rfl, rfl⟩
 refine cn rfl e101 <| sk <| xn <| sq <| sq <| rg <| pn 1 rfl <| va rfl (lf Try.underlying23 ph0.len rfl) <| pn 1 rfl <| ?_
 refine nx <| bk <| bs hk fun y144 e145 hk => Cd.loop <| ?_
 refine ls (l' := [(0, .slice pa0 pn0 pc0), (1, .slice pa1 pn1 pc1), (4, .bool false), (12, .int .i64 (x0.length : Int)), (13, .int .i64 0)]) rfl <| ?_
 refine Lp.lst (xs := x0) e145 (fun ys_ p133 M134 H' l' => Mem.le M M134 ∧ slices_Equal_row_Glyph_l1 x1 ys_ p133 = some r ∧ l' = [(0, .slice pa0 pn0 pc0), (1, .slice pa1 pn1 pc1), (4, .bool false), (12, .int .i64 (x0.length : Int)), (13, .int .i64 p133)] ∧ H' = [pe0, pe1]) ?_ ?_ _ _ _ ⟨lr, hk, rfl, rfl⟩
 · rintro p133 e138 M134 H' l' ⟨hle135, hk, rfl, rfl⟩
   refine sq <| rg <| pn 1 rfl <| nx <| sq <| cn rfl e138 <| ex <| te <| te <| ?_
   refine xe <| xn <| sq <| rg <| pn 1 rfl <| nx <| rt <| ?_
   obtain rfl := si hk
   exact oR 2 rfl rfl ⟨rfl, rfl⟩
 rintro y142 ys143 p133 e138 i139 j140 h141 w137 ih136 M134 H' l' ⟨hle135, hk, rfl, rfl⟩
 refine sq <| rg <| pn 1 rfl <| nx <| sq <| cy rfl e138 <| sk <| xn <| sq <| ?_
 refine bk <| sq <| rg <| pn 2 rfl <| nx <| sq <| ?_
 refine dw [0, 1] rfl (.tk [0, 1, 2, 3, 4, 5, 6, 7, 8] .nil) Mixed (by kernel_rfl) <| dn 2 rfl <| ?_
 obtain ⟨_, rfl, h147⟩ := (ph0.mono hle135).el h141
 refine dv rfl rfl (ix Sl23 rfl rfl i139 (lt_of ph0.len j140) h147.ne) <| dv rfl rfl (lN Rowy41 Sz41 rfl (h147.pt 0 rfl) rfl) <| dn 2 rfl <| bs hk fun y149 e150 hk => ?_
 obtain ⟨i151, j152, h153⟩ := idx_some e150
 obtain ⟨_, rfl, h148⟩ := (ph1.mono hle135).el h153
 refine dv rfl rfl (ix Sl23 rfl rfl i151 (lt_of ph1.len j152) h148.ne) <| dv rfl rfl (lN Rowy41 Sz41 rfl (h148.pt 1 rfl) rfl) <| dv rfl rfl (run_neqS rfl rfl rfl Eqt41 rfl) <| dd <| xn <| ?_
 rcases cs hk with ⟨e154, hk⟩ | ⟨e154, hk⟩
 · refine cy rfl e154 <| sq <| rg <| pn 1 rfl <| nx <| rt <| xr <| tr <| tr <| ?_
   refine xr <| tr <| ?_
   obtain rfl := si hk
   exact oR 2 rfl rfl ⟨rfl, rfl⟩
 refine cn rfl e154 <| sk <| xb <| xn <| rg <| pn 2 rfl <| on <| sx 13 w137 rfl <| ?_
 exact asx (ih136 _ _ _ ⟨hle135, hk, rfl, rfl⟩) rfl
theorem Ok50 : CallOk Try.prog 50 := ⟨_, Try.func50, by kernel_rfl, by kernel_rfl⟩
/-! 14 (tidewrack/snap.Snap).Same -/
def snap_Snap_Same_j1  (p142 : Bool) : Option (Bool) :=
  some p142
def snap_Snap_Same (x0 : Snap) (x1 : Snap) : Option (Bool) :=
  (bif ((((((((x0.K == x1.K) && (x0.W == x1.W)) && (x0.H == x1.H)) && (x0.X == x1.X)) && (x0.Y == x1.Y)) && (seq x0.Title x1.Title)) && (x0.Len == x1.Len)) && (x0.Chain == x1.Chain)) then (slices_EqualFunc_row_Row x0.Rows x1.Rows).bind fun y172 => (bif y172 then (slices_Equal_row_Glyph x0.Begun x1.Begun).bind fun y181 => snap_Snap_Same_j1 y181 else snap_Snap_Same_j1 false) else snap_Snap_Same_j1 false)
set_option maxRecDepth 20000 in
set_option maxHeartbeats 4000000 in
theorem snap_Snap_Same_does {M : Mem} {x0 : Snap} {x1 : Snap} {pa0 : Option Addr} {pn0 pc0 : Nat} {pe0 : Ent} {pa1 : Option Addr} {pn1 pc1 : Nat} {pe1 : Ent} {pa2 : Option Addr} {pn2 pc2 : Nat} {pe2 : Ent} {pa3 : Option Addr} {pn3 pc3 : Nat} {pe3 : Ent} {r : Bool} (ph0 : RdE M E37 x0.Rows pa0 pn0 pc0 pe0) (ph1 : RdE M E41 x0.Begun pa1 pn1 pc1 pe1) (ph2 : RdE M E37 x1.Rows pa2 pn2 pc2 pe2) (ph3 : RdE M E41 x1.Begun pa3 pn3 pc3 pe3) (hk : snap_Snap_Same x0 x1 = some r) :
    Does Try.prog 14 [.agg #[.int .i64 x0.K, .int .i64 x0.W, .int .i64 x0.H, .int .i64 x0.X, .int .i64 x0.Y, .string x0.Title, .slice pa0 pn0 pc0, .int .i64 x0.Len, .int .i64 x0.Chain, .slice pa1 pn1 pc1], .agg #[.int .i64 x1.K, .int .i64 x1.W, .int .i64 x1.H, .int .i64 x1.X, .int .i64 x1.Y, .string x1.Title, .slice pa2 pn2 pc2, .int .i64 x1.Len, .int .i64 x1.Chain, .slice pa3 pn3 pc3]].toArray M [pe0, pe1, pe2, pe3] (fun v M' H' => v = .bool r ∧ H' = [pe0, pe1, pe2, pe3]) := by
 refine Does.of Try.func14 rfl rfl fun w0 => sq <| rg <| bx rfl rfl fun b101 => bx rfl rfl fun b102 => pn 1 rfl <| nx <| ?_
 refine Cd.join (fun M143 H' l' => ∃ p142, Mem.le M M143 ∧ snap_Snap_Same_j1 p142 = some r ∧ l' = [(4, .bool p142)] ∧ H' = [pe0, pe1, pe2, pe3]) ?_ ?_
 · rintro M143 H' l' ⟨p142, hle144, hk, rfl, rfl⟩
   refine rt <| ?_
   obtain rfl := si hk
   exact oR 4 rfl rfl ⟨rfl, rfl⟩
 intro J145
 refine rg <| va rfl (fd Fld25_0 rfl (bi 1 rfl rfl)) <| va rfl (ld One3 rfl (Pt.part 0 1 (bi 1 rfl rfl) rfl)) <| va rfl (fd Fld25_0 rfl (bi 0 rfl rfl)) <| va rfl (ld One3 rfl (Pt.part 0 1 (bi 0 rfl rfl) rfl)) <| pn 2 rfl <| jA 16 6 rfl (x0.W == x1.W) (fun J147 e146 => ?_) ?_
 · rcases cs e146 with ⟨e148, e146⟩ | ⟨e148, e146⟩
   · refine kt 10 e148 rfl <| va rfl (fd Fld25_1 rfl (bi 1 rfl rfl)) <| va rfl (ld One3 rfl (Pt.part 1 1 (bi 1 rfl rfl) rfl)) <| va rfl (fd Fld25_1 rfl (bi 0 rfl rfl)) <| va rfl (ld One3 rfl (Pt.part 1 1 (bi 0 rfl rfl) rfl)) <| pn 2 rfl <| ?_
     exact ji 7 J147 rfl rfl rfl e146
   exact kf 10 e148 rfl <| pn 6 rfl <| ji 7 J147 rfl rfl rfl e146
 refine pn 1 rfl <| jA 23 6 rfl (x0.H == x1.H) (fun J150 e149 => ?_) ?_
 · rcases cs e149 with ⟨e151, e149⟩ | ⟨e151, e149⟩
   · refine kt 17 e151 rfl <| va rfl (fd Fld25_2 rfl (bi 1 rfl rfl)) <| va rfl (ld One3 rfl (Pt.part 2 1 (bi 1 rfl rfl) rfl)) <| va rfl (fd Fld25_2 rfl (bi 0 rfl rfl)) <| va rfl (ld One3 rfl (Pt.part 2 1 (bi 0 rfl rfl) rfl)) <| pn 2 rfl <| ?_
     exact ji 7 J150 rfl rfl rfl e149
   exact kf 17 e151 rfl <| pn 6 rfl <| ji 7 J150 rfl rfl rfl e149
 refine pn 1 rfl <| jA 30 6 rfl (x0.X == x1.X) (fun J153 e152 => ?_) ?_
 · rcases cs e152 with ⟨e154, e152⟩ | ⟨e154, e152⟩
   · refine kt 24 e154 rfl <| va rfl (fd Fld25_3 rfl (bi 1 rfl rfl)) <| va rfl (ld One3 rfl (Pt.part 3 1 (bi 1 rfl rfl) rfl)) <| va rfl (fd Fld25_3 rfl (bi 0 rfl rfl)) <| va rfl (ld One3 rfl (Pt.part 3 1 (bi 0 rfl rfl) rfl)) <| pn 2 rfl <| ?_
     exact ji 7 J153 rfl rfl rfl e152
   exact kf 24 e154 rfl <| pn 6 rfl <| ji 7 J153 rfl rfl rfl e152
 refine pn 1 rfl <| jA 37 6 rfl (x0.Y == x1.Y) (fun J156 e155 => ?_) ?_
 · rcases cs e155 with ⟨e157, e155⟩ | ⟨e157, e155⟩
   · refine kt 31 e157 rfl <| va rfl (fd Fld25_4 rfl (bi 1 rfl rfl)) <| va rfl (ld One3 rfl (Pt.part 4 1 (bi 1 rfl rfl) rfl)) <| va rfl (fd Fld25_4 rfl (bi 0 rfl rfl)) <| va rfl (ld One3 rfl (Pt.part 4 1 (bi 0 rfl rfl) rfl)) <| pn 2 rfl <| ?_
     exact ji 7 J156 rfl rfl rfl e155
   exact kf 31 e157 rfl <| pn 6 rfl <| ji 7 J156 rfl rfl rfl e155
 refine pn 1 rfl <| jA 44 6 rfl (seq x0.Title x1.Title) (fun J159 e158 => ?_) ?_
 · rcases cs e158 with ⟨e160, e158⟩ | ⟨e160, e158⟩
   · refine kt 38 e160 rfl <| va rfl (fd Fld25_5 rfl (bi 1 rfl rfl)) <| va rfl (ld One9 rfl (Pt.part 5 1 (bi 1 rfl rfl) rfl)) <| va rfl (fd Fld25_5 rfl (bi 0 rfl rfl)) <| va rfl (ld One9 rfl (Pt.part 5 1 (bi 0 rfl rfl) rfl)) <| va rfl (run_seql rfl rfl rfl) <| pn 1 rfl <| ?_
     exact ji 7 J159 rfl rfl rfl e158
   exact kf 38 e160 rfl <| pn 6 rfl <| ji 7 J159 rfl rfl rfl e158
 refine pn 1 rfl <| jA 51 6 rfl (x0.Len == x1.Len) (fun J162 e161 => ?_) ?_
 · rcases cs e161 with ⟨e163, e161⟩ | ⟨e163, e161⟩
   · refine kt 45 e163 rfl <| va rfl (fd Fld25_7 rfl (bi 1 rfl rfl)) <| va rfl (ld One3 rfl (Pt.part 7 1 (bi 1 rfl rfl) rfl)) <| va rfl (fd Fld25_7 rfl (bi 0 rfl rfl)) <| va rfl (ld One3 rfl (Pt.part 7 1 (bi 0 rfl rfl) rfl)) <| pn 2 rfl <| ?_
     exact ji 7 J162 rfl rfl rfl e161
   exact kf 45 e163 rfl <| pn 6 rfl <| ji 7 J162 rfl rfl rfl e161
 refine pn 1 rfl <| jA 58 6 rfl (x0.Chain == x1.Chain) (fun J165 e164 => ?_) ?_
 · rcases cs e164 with ⟨e166, e164⟩ | ⟨e166, e164⟩
   · refine kt 52 e166 rfl <| va rfl (fd Fld25_8 rfl (bi 1 rfl rfl)) <| va rfl (ld One3 rfl (Pt.part 8 1 (bi 1 rfl rfl) rfl)) <| va rfl (fd Fld25_8 rfl (bi 0 rfl rfl)) <| va rfl (ld One3 rfl (Pt.part 8 1 (bi 0 rfl rfl) rfl)) <| pn 2 rfl <| ?_
     exact ji 7 J165 rfl rfl rfl e164
   exact kf 52 e166 rfl <| pn 6 rfl <| ji 7 J165 rfl rfl rfl e164
 refine pn 1 rfl <| ?_
 rcases cs hk with ⟨e171, hk⟩ | ⟨e171, hk⟩
 · refine kt 59 e171 rfl <| va rfl (fd Fld25_6 rfl (bi 1 rfl rfl)) <| va rfl (ld One22 rfl (Pt.part 6 1 (bi 1 rfl rfl) rfl)) <| va rfl (fd Fld25_6 rfl (bi 0 rfl rfl)) <| va rfl (ld One22 rfl (Pt.part 6 1 (bi 0 rfl rfl) rfl)) <| se [2, 4, 0, 1, 3, 5] rfl <| bs hk fun y172 e173 hk => caq rfl Ok48 (slices_EqualFunc_row_Row_does (ph0.rde) (ph2.rde) e173) rfl rfl <| pn 2 rfl <| ?_
   rcases cs hk with ⟨e180, hk⟩ | ⟨e180, hk⟩
   · refine kt 66 e180 rfl <| va rfl (fd Fld25_9 rfl (bi 3 rfl rfl)) <| va rfl (ld One23 rfl (Pt.part 9 1 (bi 3 rfl rfl) rfl)) <| va rfl (fd Fld25_9 rfl (bi 2 rfl rfl)) <| va rfl (ld One23 rfl (Pt.part 9 1 (bi 2 rfl rfl) rfl)) <| se [4, 5, 0, 1, 2, 3] rfl <| bs hk fun y181 e182 hk => caq rfl Ok50 (slices_Equal_row_Glyph_does (ph1.rde) (ph3.rde) e182) rfl rfl <| pn 2 rfl <| ?_
     refine on <| seX [2, 0, 3, 1] rfl <| ?_
     exact asx (J145 _ _ _ ⟨y181, lr, hk, rfl, rfl⟩) rfl
   exact kf 66 e180 rfl <| pn 7 rfl <| on <| seX [0, 4, 1, 5] rfl <| asx (J145 _ _ _ ⟨false, lr, hk, rfl, rfl⟩) rfl
 exact kf 59 e171 rfl <| pn 14 rfl <| on <| seX [2, 3, 4, 5] rfl <| asx (J145 _ _ _ ⟨false, lr, hk, rfl, rfl⟩) rfl
theorem Ok14 : CallOk Try.prog 14 := ⟨_, Try.func14, by kernel_rfl, by kernel_rfl⟩
/-! 20 slices.Clone[[]tidewrack/row.Glyph,tidewrack/row.Glyph] -/
def slices_Clone_row_Glyph_2 (x0 : List Glyph) : Option (List Glyph) :=
  (cap (([] : List Glyph).length + x0.length)).bind fun y110 => some (([] : List Glyph) ++ x0)
set_option maxRecDepth 20000 in
set_option maxHeartbeats 4000000 in
theorem slices_Clone_row_Glyph_2_does {M : Mem} {x0 : List Glyph} {pa0 : Option Addr} {pn0 pc0 : Nat} {pe0 : Ent} {r : List Glyph} (ph0 : RdE M E41 x0 pa0 pn0 pc0 pe0) (hk : slices_Clone_row_Glyph_2 x0 = some r) :
    Does Try.prog 20 [.slice pa0 pn0 pc0].toArray M [pe0] (fun v M' H' => ∃ a101 n102 c103 e105, v = .slice a101 n102 c103 ∧ OSl M' E41 r a101 n102 c103 41 e105 ∧ H' = [pe0, e105]) := by
 refine Does.of Try.func20 rfl rfl fun w0 => sq <| rg <| pn 1 rfl <| nx <| sq <| sq <| rg <| pn 1 rfl <| ?_
 refine va rfl (run_nilS rfl Try.underlying23 rfl) <| nx <| ?_
 rcases Bool.eq_false_or_eq_true (Option.isNone pa0) with hb106 | hb106
 · have he107 := ph0.empty hb106
   subst he107
   replace hk : some ([] : List Glyph) = some r := hk
   refine cy rfl hb106 <| sq <| rg <| pn 1 rfl <| nx <| rt <| tr <| ?_
   obtain rfl := si hk
   exact blX <| seX [1, 0] rfl <| oR 2 rfl rfl ⟨_, _, _, _, rfl, (OSl.nil _ _ _), rfl⟩
 refine cn rfl hb106 <| sk <| xn <| sq <| rg <| l0 E41 rfl Sl23 El41 fun b108 h109 => pn 1 rfl <| bs hk fun y110 e111 hk => ap (E := E41) 0 rfl Sl23 El41 rfl rfl h109 rfl (RdE.rds ph0.rde 1 rfl) e111 rfl (fun _ => rfl) fun a112 n113 c114 e115 h116 => ?_
 refine pn 1 rfl <| nx <| rt <| ?_
 obtain rfl := si hk
 exact seX [1, 0] rfl <| oR 2 rfl rfl ⟨_, _, _, _, rfl, h116, rfl⟩
theorem Sz23 : Sz Try.prog 23 1 := ⟨by kernel_rfl⟩
/-! 7 (tidewrack/snap.Snap).Clone -/
def snap_Snap_Clone_l1 (x0 : Snap) : List Row → (List Row) → Option (Snap)
  | [], p206 =>
  (slices_Clone_row_Glyph_2 x0.Begun).bind fun y226 => some ({ x0 with Rows := p206, Begun := y226 } : Snap)
  | y221 :: ys222, p206 =>
  (slices_Clone_row_Cell y221.Cells).bind fun y261 => (cap (p206.length + ([(⟨y261, y221.Wrapped⟩ : Row)] : List Row).length)).bind fun y274 => (snap_Snap_Clone_l1 x0 ys222 (p206 ++ ([(⟨y261, y221.Wrapped⟩ : Row)] : List Row)))
def snap_Snap_Clone (x0 : Snap) : Option (Snap) :=
  (cap x0.Rows.length).bind fun y223 => snap_Snap_Clone_l1 x0 x0.Rows ([] : List Row)
set_option maxRecDepth 20000 in
set_option maxHeartbeats 4000000 in
theorem snap_Snap_Clone_does {M : Mem} {x0 : Snap} {pa0 : Option Addr} {pn0 pc0 : Nat} {pe0 : Ent} {pa1 : Option Addr} {pn1 pc1 : Nat} {pe1 : Ent} {r : Snap} (ph0 : RdE M E37 x0.Rows pa0 pn0 pc0 pe0) (ph1 : RdE M E41 x0.Begun pa1 pn1 pc1 pe1) (hk : snap_Snap_Clone x0 = some r) :
    Does Try.prog 7 [.agg #[.int .i64 x0.K, .int .i64 x0.W, .int .i64 x0.H, .int .i64 x0.X, .int .i64 x0.Y, .string x0.Title, .slice pa0 pn0 pc0, .int .i64 x0.Len, .int .i64 x0.Chain, .slice pa1 pn1 pc1]].toArray M [pe0, pe1] (fun v M' H' => ∃ a101 n102 c103 e105 a106 n107 c108 e110, v = .agg #[.int .i64 r.K, .int .i64 r.W, .int .i64 r.H, .int .i64 r.X, .int .i64 r.Y, .string r.Title, .slice a101 n102 c103, .int .i64 r.Len, .int .i64 r.Chain, .slice a106 n107 c108] ∧ OSl M' E37 r.Rows a101 n102 c103 37 e105 ∧ OSl M' E41 r.Begun a106 n107 c108 41 e110 ∧ H' = [pe0, pe1, e105, e110]) := by
 refine Does.of Try.func7 rfl rfl fun w0 => sq <| rg <| bx rfl rfl fun b111 => al rfl Zr25 fun b112 => nx <| sq <| rg <| pn 1 rfl <| ?_
 refine nx <| sq <| sq <| rg <| va rfl (fd Fld25_6 rfl (bi 1 rfl rfl)) <| va rfl (ld One22 rfl (Pt.part 6 1 (bi 1 rfl rfl) rfl)) <| va rfl (lf Try.underlying22 ph0.len rfl) <| pn 1 rfl <| nx <| ?_
 refine bk <| bs hk fun y223 e224 hk => Cd.loop <| ?_
 refine blL <| seL [0, 3, 4, 2, 1] rfl <| ls (l' := [(1, .pointer (some ⟨b111, 0, none⟩)), (2, .pointer (some ⟨b112, 0, none⟩)), (3, .slice none 0 0), (7, .slice pa0 pn0 pc0), (8, .int .i64 (x0.Rows.length : Int)), (9, .int .i64 0)]) rfl <| ?_
 refine Lp.lst (xs := x0.Rows) e224 (fun ys_ p212 M213 H' l' => ∃ p206 a207 n210 c208 e211, Mem.le M M213 ∧ OSl M213 E37 p206 a207 n210 c208 37 e211 ∧ snap_Snap_Clone_l1 x0 ys_ p206 = some r ∧ l' = [(1, .pointer (some ⟨b111, 0, none⟩)), (2, .pointer (some ⟨b112, 0, none⟩)), (3, .slice a207 n210 c208), (7, .slice pa0 pn0 pc0), (8, .int .i64 (x0.Rows.length : Int)), (9, .int .i64 p212)] ∧ H' = [e211, pe0, pe1, some (b111, .cells #[.int .i64 x0.K, .int .i64 x0.W, .int .i64 x0.H, .int .i64 x0.X, .int .i64 x0.Y, .string x0.Title, .slice pa0 pn0 pc0, .int .i64 x0.Len, .int .i64 x0.Chain, .slice pa1 pn1 pc1] 25 (0, 0)), some (b112, .cells #[.int .i64 0, .int .i64 0, .int .i64 0, .int .i64 0, .int .i64 0, .string (⟨#[]⟩ : ByteArray), .slice none 0 0, .int .i64 0, .int .i64 0, .slice none 0 0] 25 (0, 0))]) ?_ ?_ _ _ _ ⟨([] : List Row), _, _, _, _, lr, (OSl.nil _ _ _), hk, rfl, rfl⟩
 · rintro p212 e217 M213 H' l' ⟨p206, a207, n210, c208, e211, hle214, h209, hk, rfl, rfl⟩
   refine sq <| rg <| pn 1 rfl <| nx <| sq <| cn rfl e217 <| ex <| te <| te <| ?_
   refine xe <| xn <| sq <| rg <| pn 1 rfl <| va rfl (fd Fld25_9 rfl (bi 3 rfl rfl)) <| va rfl (ld One23 rfl (Pt.part 9 1 (bi 3 rfl rfl) rfl)) <| ?_
   have ph1 := ph1.mono hle214
   refine se [2, 0, 1, 3, 4] rfl <| bs hk fun y226 e227 hk => ca rfl Ok20 (slices_Clone_row_Glyph_2_does (ph1.rde) e227) rfl rfl <| ?_
   rintro _ M228 _ l229 ⟨a230, n231, c232, e234, rfl, h233, rfl⟩
   refine va rfl (fd Fld25_6 rfl (bi 4 rfl rfl)) <| sr 4 rfl Sz22 rfl rfl rfl rfl rfl <| va rfl (fd Fld25_9 rfl (bi 4 rfl rfl)) <| sr 4 rfl Sz23 rfl rfl rfl rfl rfl <| nx <| sq <| rg <| va rfl (lN Rowy25 Sz25 rfl (bi 4 rfl rfl) rfl) <| sr 5 rfl Sz25 rfl rfl rfl rfl rfl <| ?_
   refine nx <| rt <| ?_
   obtain rfl := si hk
   refine seX [3, 0, 2, 1, 5] rfl <| ?_
   have h209 := h209.mono l229
   exact Ex.out 4 rfl (.inl rfl) rfl (rs := [_]) (vs := [_]) ⟨⟨_, rfl, .inr ⟨Rowy25, _, _, rfl, Sz25, (bi 4 rfl rfl), rfl⟩⟩, trivial⟩ rfl ⟨_, _, _, _, _, _, _, _, rfl, h209, h233, rfl⟩
 rintro y221 ys222 p212 e217 i218 j219 h220 w216 ih215 M213 H' l' ⟨p206, a207, n210, c208, e211, hle214, h209, hk, rfl, rfl⟩
 refine sq <| rg <| pn 1 rfl <| nx <| sq <| cy rfl e217 <| sk <| xn <| sq <| ?_
 refine bk <| sq <| rg <| ?_
 have ph0 := ph0.mono hle214
 obtain ⟨_, ⟨a236, n237, c238, rfl, h239⟩, h235⟩ := ph0.el h220
 refine va rfl (ix Sl22 rfl rfl i218 (lt_of ph0.len j219) h235.ne) <| va rfl (lN Rowy37 Sz37 rfl (h235.pt 1 rfl) rfl) <| al rfl Zr37 fun b240 => sr 0 rfl Sz37 rfl rfl rfl rfl rfl <| nx <| ?_
 refine dt [0, 2, 3, 4, 5] rfl 9 rfl (.tk [0, 1, 2, 4, 5] (.one 3 (.tk [6] (.one 7 (.one 8 .nil))))) Mixed (by kernel_rfl) <| dn 1 rfl <| dv rfl rfl (fd Fld37_0 rfl (bi 0 rfl rfl)) <| dv rfl rfl (ld One35 rfl (Pt.part 0 1 (bi 0 rfl rfl) rfl)) <| dv rfl rfl (fd Fld37_1 rfl (bi 0 rfl rfl)) <| dv rfl rfl (ld One4 rfl (Pt.part 1 1 (bi 0 rfl rfl) rfl)) <| da rfl <| bs hk fun y261 e262 hk => ca rfl Ok19 (slices_Clone_row_Cell_does h239 e262) rfl rfl <| ?_
 rintro _ M263 _ l264 ⟨a265, n266, c267, e269, rfl, h268, rfl⟩
 refine db [1, 3, 4, 5, 6] l264 rfl <| dv rfl rfl (bd (cells := [.slice a265 n266 c267, .bool y221.Wrapped]) Bld37 rfl) <| da rfl <| fz 0 h268 rfl rfl fun M272 l273 h268 => ?_
 refine li E37 [(⟨y261, y221.Wrapped⟩ : Row)] rfl Sl22 El37 rfl rfl ⟨⟨_, _, _, rfl, h268⟩, rfl⟩ fun b270 h271 => db [1, 3, 4, 5, 6] (l264.t l273) rfl <| bs hk fun y274 e275 hk => da rfl <| ap (E := E37) 2 rfl Sl22 El37 rfl rfl (h209.mono (l264.t l273)) rfl (RdE.rds h271.rde 0 rfl) e275 rfl (fun _ => rfl) fun a276 n277 c278 e279 h280 => db [1, 3, 4, 5, 6] (l264.t l273) rfl <| dd <| td rfl <| pn 1 rfl <| ?_
 refine on <| xb <| xn <| rg <| pn 2 rfl <| on <| sx 9 w216 rfl <| seX [2, 3, 4, 5, 6] rfl <| ?_
 exact asx (ih215 _ _ _ ⟨(p206 ++ ([(⟨y261, y221.Wrapped⟩ : Row)] : List Row)), _, _, _, _, ((hle214.t l264).t l273), h280, hk, rfl, rfl⟩) rfl
theorem Ok7 : CallOk Try.prog 7 := ⟨_, Try.func7, by kernel_rfl, by kernel_rfl⟩
/-! 4 tidewrack/tidewracklaw16.awake -/
def tidewracklaw16_awake_j1  (p189 : Bool) : Option (Bool) :=
  some p189
def tidewracklaw16_awake  : Option (Bool) :=
  (screen_New 1 1).bind fun y101 => book_New.bind fun y112 => (snap_Of 1 y101 y112).bind fun y130 => (snap_Snap_Pack y130).bind fun y145 => (snap_Parse y145).bind fun y149 => (bif (seq y145 (⟨#[1, 1, 1, 0, 0, 0, 0, 0, 0, 0, 1, 32, 0, 0]⟩ : ByteArray)) then (bif (y149.2 == 0) then (snap_Snap_Same y130 y149.1).bind fun y195 => (bif y195 then (snap_Snap_Clone y130).bind fun y200 => (snap_Snap_Same y149.1 y200).bind fun y214 => tidewracklaw16_awake_j1 y214 else tidewracklaw16_awake_j1 false) else tidewracklaw16_awake_j1 false) else tidewracklaw16_awake_j1 false)
set_option maxRecDepth 20000 in
set_option maxHeartbeats 4000000 in
theorem tidewracklaw16_awake_does {M : Mem}   {r : Bool}  (hk : tidewracklaw16_awake = some r) :
    Does Try.prog 4 [].toArray M [] (fun v M' H' => v = .bool r ∧ H' = []) := by
 refine Does.of Try.func4 rfl rfl fun w0 => sq <| rg <| pn 1 rfl <| nx <| sq <| rg <| bs hk fun y101 e102 hk => ca rfl Ok9 (screen_New_does e102) rfl rfl <| ?_
 rintro _ M103 _ l104 ⟨b105, b106, a107, n108, c109, e111, rfl, h110, rfl⟩
 refine bs hk fun y112 e113 hk => ca rfl Ok10 (book_New_does e113) rfl rfl <| ?_
 rintro _ M114 _ l115 ⟨b116, a117, n118, c119, a121, n122, c123, e125, a126, n127, c128, rfl, h120, h124, h129, rfl⟩
 refine pn 2 rfl <| nx <| sq <| sq <| rg <| pn 1 rfl <| va rfl (run_nilq rfl Try.underlying44 rfl) <| pn 2 rfl <| va rfl (run_nilq rfl Try.underlying46 rfl) <| ?_
 refine pn 1 rfl <| nx <| cn rfl rfl <| sk <| xn <| sq <| rg <| pn 2 rfl <| ?_
 have h110 := h110.mono l115
 refine se [2, 3, 4, 0, 1] rfl <| bs hk fun y130 e131 hk => ca rfl Ok11 (snap_Of_does h110 h120 h124 h129 e131) rfl rfl <| ?_
 rintro _ M132 _ l133 ⟨a134, n135, c136, e138, a139, n140, c141, e143, rfl, h137, h142, rfl⟩
 refine al rfl Zr25 fun b144 => sr 0 rfl Sz25 rfl rfl rfl rfl rfl <| nx <| sq <| rg <| va rfl (lN Rowy25 Sz25 rfl (bi 0 rfl rfl) rfl) <| se [6, 7, 0, 1, 2, 3, 4, 5] rfl <| bs hk fun y145 e146 hk => caq rfl Ok12 (snap_Snap_Pack_does (h137.rde) (h142.rde) e146) rfl rfl <| ?_
 refine pn 1 rfl <| nx <| sq <| rg <| pn 1 rfl <| bs hk fun y149 e150 hk => ca rfl Ok13 (snap_Parse_does e150) rfl rfl <| ?_
 rintro _ M151 _ l152 ⟨a153, n154, c155, e157, a158, n159, c160, e162, rfl, h156, h161, rfl⟩
 refine pn 3 rfl <| al rfl Zr25 fun b163 => sr 0 rfl Sz25 rfl rfl rfl rfl rfl <| pn 1 rfl <| nx <| ?_
 refine Cd.join (fun M190 H' l' => ∃ p189, Mem.le M151 M190 ∧ tidewracklaw16_awake_j1 p189 = some r ∧ l' = [(0, .bool p189)] ∧ H' = []) ?_ ?_
 · rintro M190 H' l' ⟨p189, hle191, hk, rfl, rfl⟩
   refine rt <| ?_
   obtain rfl := si hk
   exact oR 0 rfl rfl ⟨rfl, rfl⟩
 intro J192
 refine dt [0, 1, 2, 3, 4, 5, 6, 7, 8, 9, 10] rfl 17 rfl (.tk [0, 1, 2, 3, 4, 5, 6, 7, 8] (.one 9 (.tk [10, 11, 12, 13] (.one 14 (.one 15 (.tk [16] .nil)))))) Mixed (by kernel_rfl) <| dn 1 rfl <| dv rfl rfl (run_seql rfl rfl rfl) <| dn 1 rfl <| ?_
 rcases cs hk with ⟨e193, hk⟩ | ⟨e193, hk⟩
 · refine ktd 27 e193 rfl <| dn 4 rfl <| ?_
   rcases cs hk with ⟨e194, hk⟩ | ⟨e194, hk⟩
   · refine ktd 31 e194 rfl <| dv rfl rfl (lN Rowy25 Sz25 rfl (bi 5 rfl rfl) rfl) <| dv rfl rfl (lN Rowy25 Sz25 rfl (bi 0 rfl rfl) rfl) <| da rfl <| se [3, 4, 1, 2, 0, 5, 6, 7, 8, 9, 10] rfl <| bs hk fun y195 e196 hk => caq rfl Ok14 (snap_Snap_Same_does ((h137.mono l152).rde) ((h142.mono l152).rde) (h156.rde) (h161.rde) e196) rfl rfl <| db [4, 2, 3, 0, 1, 5, 6, 7, 8, 9, 10] lr rfl <| dn 2 rfl <| ?_
     rcases cs hk with ⟨e199, hk⟩ | ⟨e199, hk⟩
     · refine ktd 36 e199 rfl <| dv rfl rfl (lN Rowy25 Sz25 rfl (bi 0 rfl rfl) rfl) <| dv rfl rfl (lN Rowy25 Sz25 rfl (bi 5 rfl rfl) rfl) <| da rfl <| bs hk fun y200 e201 hk => ca rfl Ok7 (snap_Snap_Clone_does ((h137.mono l152).rde) ((h142.mono l152).rde) e201) rfl rfl <| ?_
       rintro _ M202 _ l203 ⟨a204, n205, c206, e208, a209, n210, c211, e213, rfl, h207, h212, rfl⟩
       refine db [6, 4, 5, 0, 1, 7, 8, 9, 10, 11, 12] l203 rfl <| da rfl <| se [4, 5, 2, 3, 0, 1, 6, 7, 8, 9, 10, 11, 12] rfl <| bs hk fun y214 e215 hk => caq rfl Ok14 (snap_Snap_Same_does ((h156.mono l203).rde) ((h161.mono l203).rde) (h207.rde) (h212.rde) e215) rfl rfl <| db [6, 0, 1, 4, 5, 7, 8, 9, 10, 11, 12] l203 rfl <| dn 1 rfl <| dd <| td rfl <| ?_
       refine pn 1 rfl <| on <| seX [] rfl <| ?_
       exact asx (J192 _ _ _ ⟨y214, l203, hk, rfl, rfl⟩) rfl
     refine kfd 36 e199 rfl <| dn 2 rfl <| da rfl <| pn 1 rfl <| db [4, 2, 3, 0, 1, 5, 6, 7, 8, 9, 10] lr rfl <| da rfl <| pn 1 rfl <| db [4, 2, 3, 0, 1, 5, 6, 7, 8, 9, 10] lr rfl <| dn 1 rfl <| ?_
     refine dd <| td rfl <| pn 1 rfl <| on <| seX [] rfl <| ?_
     exact asx (J192 _ _ _ ⟨false, lr, hk, rfl, rfl⟩) rfl
   refine kfd 31 e194 rfl <| dn 2 rfl <| da rfl <| pn 1 rfl <| db [0, 1, 2, 3, 4, 5, 6, 7, 8, 9, 10] lr rfl <| dn 4 rfl <| da rfl <| pn 1 rfl <| db [0, 1, 2, 3, 4, 5, 6, 7, 8, 9, 10] lr rfl <| ?_
   refine da rfl <| pn 1 rfl <| db [0, 1, 2, 3, 4, 5, 6, 7, 8, 9, 10] lr rfl <| dn 1 rfl <| dd <| td rfl <| pn 1 rfl <| on <| seX [] rfl <| ?_
   exact asx (J192 _ _ _ ⟨false, lr, hk, rfl, rfl⟩) rfl
 refine kfd 27 e193 rfl <| dn 6 rfl <| da rfl <| pn 1 rfl <| db [0, 1, 2, 3, 4, 5, 6, 7, 8, 9, 10] lr rfl <| dn 4 rfl <| da rfl <| pn 1 rfl <| db [0, 1, 2, 3, 4, 5, 6, 7, 8, 9, 10] lr rfl <| ?_
 refine da rfl <| pn 1 rfl <| db [0, 1, 2, 3, 4, 5, 6, 7, 8, 9, 10] lr rfl <| dn 1 rfl <| dd <| td rfl <| pn 1 rfl <| on <| seX [] rfl <| ?_
 exact asx (J192 _ _ _ ⟨false, lr, hk, rfl, rfl⟩) rfl
theorem Ok4 : CallOk Try.prog 4 := ⟨_, Try.func4, by kernel_rfl, by kernel_rfl⟩
/-! 15 tidewrack/tidewracklaw01.Cut -/
def tidewracklaw01_Cut (x0 : ByteArray) (x1 : Int) : Option (ByteArray) :=
  (bif (decide ((x0.size : Int) > x1)) then (scut x0 0 x1).bind fun y102 => some y102 else some x0)
set_option maxRecDepth 20000 in
set_option maxHeartbeats 4000000 in
theorem tidewracklaw01_Cut_does {M : Mem} {x0 : ByteArray} {x1 : Int}  {r : ByteArray}  (hk : tidewracklaw01_Cut x0 x1 = some r) :
    Does Try.prog 15 [.string x0, .int .i64 x1].toArray M [] (fun v M' H' => v = .string r ∧ H' = []) := by
 refine Does.of Try.func15 rfl rfl fun w0 => sq <| rg <| pn 1 rfl <| nx <| sq <| sq <| rg <| pn 1 rfl <| ?_
 refine va rfl (sln Try.underlying9 rfl) <| pn 2 rfl <| nx <| ?_
 rcases cs hk with ⟨e101, hk⟩ | ⟨e101, hk⟩
 · refine cy rfl e101 <| sq <| rg <| pn 2 rfl <| bs hk fun y102 e103 hk => va rfl (sc Try.underlying9 rfl rfl ⟨_, rfl⟩ e103) <| pn 1 rfl <| nx <| rt <| ?_
   refine tr <| ?_
   obtain rfl := si hk
   exact oR 0 rfl rfl ⟨rfl, rfl⟩
 refine cn rfl e101 <| sk <| xn <| sq <| rg <| pn 2 rfl <| nx <| rt <| ?_
 obtain rfl := si hk
 exact oR 0 rfl rfl ⟨rfl, rfl⟩
theorem Ok15 : CallOk Try.prog 15 := ⟨_, Try.func15, by kernel_rfl, by kernel_rfl⟩
/-! 16 tidewrack/tidewracklaw09.Any -/
def tidewracklaw09_Any (x0 : List Cell) (x1 : Bool) : Option (Row) :=
  (lcut x0 0 (gmin (x0.length : Int) 40)).bind fun y109 => (cap (([] : List Cell).length + y109.length)).bind fun y115 => some (⟨(([] : List Cell) ++ y109), x1⟩ : Row)
set_option maxRecDepth 20000 in
set_option maxHeartbeats 4000000 in
theorem tidewracklaw09_Any_does {M : Mem} {x0 : List Cell} {x1 : Bool} {pa0 : Option Addr} {pn0 pc0 : Nat} {r : Row} (ph0 : SRep M E39 x0 pa0 pn0 pc0) (hk : tidewracklaw09_Any x0 x1 = some r) :
    Does Try.prog 16 [.slice pa0 pn0 pc0, .bool x1].toArray M [] (fun v M' H' => ∃ a101 n102 c103 e105, v = .agg #[.slice a101 n102 c103, .bool r.Wrapped] ∧ OSl M' E39 r.Cells a101 n102 c103 39 e105 ∧ H' = [e105]) := by
 refine Does.of Try.func16 rfl rfl fun w0 => sq <| rg <| al rfl Zr37 fun b106 => nx <| sq <| rg <| l0 E39 rfl Sl35 El39 fun b107 h108 => pn 2 rfl <| ?_
 refine va rfl (lf Try.underlying35 ph0.len rfl) <| va rfl (mi rfl rfl) <| bs hk fun y109 e110 hk => ct rfl Sl35 rfl ph0 rfl ⟨_, rfl⟩ e110 fun a111 n112 c113 h114 => bs hk fun y115 e116 hk => ap (E := E39) 0 rfl Sl35 El39 rfl rfl h108 rfl (h114.rds _) e116 rfl (fun _ => rfl) fun a117 n118 c119 e120 h121 => pn 1 rfl <| va rfl (bd (cells := [.slice a117 n118 c119, .bool x1]) Bld37 rfl) <| sr 1 rfl Sz37 rfl rfl rfl rfl rfl <| ?_
 refine nx <| rt <| ?_
 obtain rfl := si hk
 exact Ex.out 1 rfl (.inl rfl) rfl (rs := [_]) (vs := [_]) ⟨⟨_, rfl, .inr ⟨Rowy37, _, _, rfl, Sz37, (bi 1 rfl rfl), rfl⟩⟩, trivial⟩ rfl ⟨_, _, _, _, rfl, h121, rfl⟩
theorem Ok16 : CallOk Try.prog 16 := ⟨_, Try.func16, by kernel_rfl, by kernel_rfl⟩
/-! 5 tidewrack/tidewracklaw16.Cut -/
def tidewracklaw16_Cut_l1 (x0 : Snap) (y113 : ByteArray) (y119 : List Glyph) : Nat → (List Row) → Int → Option (Snap)
  | 0, _, _ => none
  | k + 1, p259, p265 =>
  (bif ((decide (p265 < (x0.Rows.length : Int))) && (decide (p265 < 8))) then (idx x0.Rows p265).bind fun y316 => (tidewracklaw09_Any y316.Cells y316.Wrapped).bind fun y325 => (cap (p259.length + ([y325] : List Row).length)).bind fun y338 => (tidewracklaw16_Cut_l1 x0 y113 y119 k (p259 ++ ([y325] : List Row)) (w64 (p265 + 1))) else some ({ x0 with Title := y113, Rows := p259, Begun := (([] : List Glyph) ++ y119) } : Snap))
def tidewracklaw16_Cut (x0 : Snap) : Option (Snap) :=
  (tidewracklaw01_Cut x0.Title 210).bind fun y113 => (lcut x0.Begun 0 (gmin (x0.Begun.length : Int) 30)).bind fun y119 => (cap (([] : List Glyph).length + y119.length)).bind fun y125 => tidewracklaw16_Cut_l1 x0 y113 y119 4294967296 ([] : List Row) 0
set_option maxRecDepth 20000 in
set_option maxHeartbeats 4000000 in
theorem tidewracklaw16_Cut_does {M : Mem} {x0 : Snap} {pa0 : Option Addr} {pn0 pc0 : Nat} {pa1 : Option Addr} {pn1 pc1 : Nat} {r : Snap} (ph0 : SRep M E37 x0.Rows pa0 pn0 pc0) (ph1 : SRep M E41 x0.Begun pa1 pn1 pc1) (hk : tidewracklaw16_Cut x0 = some r) :
    Does Try.prog 5 [.agg #[.int .i64 x0.K, .int .i64 x0.W, .int .i64 x0.H, .int .i64 x0.X, .int .i64 x0.Y, .string x0.Title, .slice pa0 pn0 pc0, .int .i64 x0.Len, .int .i64 x0.Chain, .slice pa1 pn1 pc1]].toArray M [] (fun v M' H' => ∃ a101 n102 c103 e105 a106 n107 c108 e110, v = .agg #[.int .i64 r.K, .int .i64 r.W, .int .i64 r.H, .int .i64 r.X, .int .i64 r.Y, .string r.Title, .slice a101 n102 c103, .int .i64 r.Len, .int .i64 r.Chain, .slice a106 n107 c108] ∧ OSl M' E37 r.Rows a101 n102 c103 37 e105 ∧ OSl M' E41 r.Begun a106 n107 c108 41 e110 ∧ H' = [e105, e110]) := by
 refine Does.of Try.func5 rfl rfl fun w0 => sq <| rg <| bx rfl rfl fun b111 => al rfl Zr25 fun b112 => nx <| sq <| rg <| va rfl (fd Fld25_5 rfl (bi 1 rfl rfl)) <| ?_
 refine va rfl (ld One9 rfl (Pt.part 5 1 (bi 1 rfl rfl) rfl)) <| bs hk fun y113 e114 hk => caq rfl Ok15 (tidewracklaw01_Cut_does e114) rfl rfl <| va rfl (fd Fld25_5 rfl (bi 1 rfl rfl)) <| sr 1 rfl Sz9 rfl rfl rfl rfl rfl <| nx <| sq <| rg <| l0 E41 rfl Sl23 El41 fun b117 h118 => ?_
 refine va rfl (fd Fld25_9 rfl (bi 2 rfl rfl)) <| va rfl (ld One23 rfl (Pt.part 9 1 (bi 2 rfl rfl) rfl)) <| va rfl (fd Fld25_9 rfl (bi 2 rfl rfl)) <| va rfl (ld One23 rfl (Pt.part 9 1 (bi 2 rfl rfl) rfl)) <| va rfl (lf Try.underlying23 ph1.len rfl) <| va rfl (mi rfl rfl) <| bs hk fun y119 e120 hk => ct rfl Sl23 rfl ph1 rfl ⟨_, rfl⟩ e120 fun a121 n122 c123 h124 => bs hk fun y125 e126 hk => ?_
 refine ap (E := E41) 0 rfl Sl23 El41 rfl rfl h118 rfl (h124.rds _) e126 rfl (fun _ => rfl) fun a127 n128 c129 e130 h131 => va rfl (fd Fld25_9 rfl (bi 2 rfl rfl)) <| sr 2 rfl Sz23 rfl rfl rfl rfl rfl <| nx <| sq <| rg <| pn 1 rfl <| nx <| sq <| ?_
 refine sq <| rg <| pn 1 rfl <| nx <| bk <| Cd.loop <| ?_
 refine blL <| seL [0, 1, 3, 2] rfl <| ls (l' := [(1, .pointer (some ⟨b111, 0, none⟩)), (2, .pointer (some ⟨b112, 0, none⟩)), (3, .slice none 0 0), (4, .int .i64 0)]) rfl <| ?_
 refine Lp.ind (fun k M266 H' l' => ∃ p259 p265 a260 n263 c261 e264, Mem.le M M266 ∧ OSl M266 E37 p259 a260 n263 c261 37 e264 ∧ tidewracklaw16_Cut_l1 x0 y113 y119 k p259 p265 = some r ∧ l' = [(1, .pointer (some ⟨b111, 0, none⟩)), (2, .pointer (some ⟨b112, 0, none⟩)), (3, .slice a260 n263 c261), (4, .int .i64 p265)] ∧ H' = [e264, e130, some (b111, .cells #[.int .i64 x0.K, .int .i64 x0.W, .int .i64 x0.H, .int .i64 x0.X, .int .i64 x0.Y, .string y113, .slice pa0 pn0 pc0, .int .i64 x0.Len, .int .i64 x0.Chain, .slice a127 n128 c129] 25 (0, 0)), some (b112, .cells #[.int .i64 0, .int .i64 0, .int .i64 0, .int .i64 0, .int .i64 0, .string (⟨#[]⟩ : ByteArray), .slice none 0 0, .int .i64 0, .int .i64 0, .slice none 0 0] 25 (0, 0))]) ?_ ?_ 4294967296 _ _ _ ⟨([] : List Row), 0, _, _, _, _, lr, (OSl.nil _ _ _), hk, rfl, rfl⟩
 · rintro M266 H' l' ⟨p259, p265, a260, n263, c261, e264, hle267, h262, hk, -, -⟩; cases hk
 rintro k268 ih269 M266 H' l' ⟨p259, p265, a260, n263, c261, e264, hle267, h262, hk, rfl, rfl⟩
 refine sq <| sq <| rg <| pn 1 rfl <| va rfl (fd Fld25_6 rfl (bi 2 rfl rfl)) <| va rfl (ld One22 rfl (Pt.part 6 1 (bi 2 rfl rfl) rfl)) <| va rfl (lf Try.underlying22 ph0.len rfl) <| pn 2 rfl <| jA 27 3 rfl (decide (p265 < 8)) (fun J282 e281 => ?_) ?_
 · rcases cs e281 with ⟨e283, e281⟩ | ⟨e283, e281⟩
   · exact kt 24 e283 rfl <| pn 3 rfl <| ji 4 J282 rfl rfl rfl e281
   exact kf 24 e283 rfl <| pn 3 rfl <| ji 4 J282 rfl rfl rfl e281
 refine nx <| ?_
 rcases cs hk with ⟨e284, hk⟩ | ⟨e284, hk⟩
 · refine cy rfl e284 <| sk <| xn <| sq <| bk <| ?_
   refine dt [1, 2, 3] rfl 16 rfl (.tk [0, 1, 2, 3, 4, 5, 6, 7, 8, 9, 10, 11, 12] (.one 13 (.one 14 (.one 15 .nil)))) Mixed (by kernel_rfl) <| dn 1 rfl <| dv rfl rfl (fd Fld25_6 rfl (bi 1 rfl rfl)) <| dv rfl rfl (ld One22 rfl (Pt.part 6 1 (bi 1 rfl rfl) rfl)) <| dn 1 rfl <| bs hk fun y316 e317 hk => ?_
   obtain ⟨i318, j319, h320⟩ := idx_some e317
   obtain ⟨_, ⟨a321, n322, c323, rfl, h324⟩, h315⟩ := (ph0.mono hle267).pt [] h320
   refine dv rfl rfl (ix Sl22 rfl rfl i318 (lt_of ph0.len j319) (Pt.ne h315)) <| dv rfl rfl (fd Fld37_0 rfl (Pt.any h315 _)) <| dv rfl rfl (ld One35 rfl (Pt.part 0 1 (Pt.any h315 _) rfl)) <| dv rfl rfl (fd Fld25_6 rfl (bi 1 rfl rfl)) <| dv rfl rfl (ld One22 rfl (Pt.part 6 1 (bi 1 rfl rfl) rfl)) <| dn 1 rfl <| dv rfl rfl (ix Sl22 rfl rfl i318 (lt_of ph0.len j319) (Pt.ne h315)) <| dv rfl rfl (fd Fld37_1 rfl (Pt.any h315 _)) <| dv rfl rfl (ld One4 rfl (Pt.part 1 1 (Pt.any h315 _) rfl)) <| ?_
   refine da rfl <| bs hk fun y325 e326 hk => ca rfl Ok16 (tidewracklaw09_Any_does h324 e326) rfl rfl <| ?_
   rintro _ M327 _ l328 ⟨a329, n330, c331, e333, rfl, h332, rfl⟩
   refine db [2, 3, 4] l328 rfl <| da rfl <| fz 0 h332 rfl rfl fun M336 l337 h332 => ?_
   refine li E37 [y325] rfl Sl22 El37 rfl rfl ⟨⟨_, _, _, rfl, h332⟩, rfl⟩ fun b334 h335 => db [2, 3, 4] (l328.t l337) rfl <| bs hk fun y338 e339 hk => da rfl <| ap (E := E37) 1 rfl Sl22 El37 rfl rfl (h262.mono (l328.t l337)) rfl (RdE.rds h335.rde 0 rfl) e339 rfl (fun _ => rfl) fun a340 n341 c342 e343 h344 => db [2, 3, 4] (l328.t l337) rfl <| dd <| td rfl <| pn 1 rfl <| ?_
   refine on <| xb <| xn <| rg <| pn 3 rfl <| on <| seX [1, 2, 3, 4] rfl <| ?_
   exact asx (ih269 _ _ _ ⟨(p259 ++ ([y325] : List Row)), (w64 (p265 + 1)), _, _, _, _, ((hle267.t l328).t l337), h344, hk, rfl, rfl⟩) rfl
 refine cn rfl e284 <| ex <| te <| te <| xe <| xn <| sq <| rg <| pn 1 rfl <| ?_
 refine va rfl (fd Fld25_6 rfl (bi 2 rfl rfl)) <| sr 2 rfl Sz22 rfl rfl rfl rfl rfl <| nx <| sq <| rg <| va rfl (lN Rowy25 Sz25 rfl (bi 2 rfl rfl) rfl) <| sr 3 rfl Sz25 rfl rfl rfl rfl rfl <| nx <| rt <| ?_
 obtain rfl := si hk
 refine seX [0, 1, 3] rfl <| ?_
 have h131 := h131.mono hle267
 exact Ex.out 2 rfl (.inl rfl) rfl (rs := [_]) (vs := [_]) ⟨⟨_, rfl, .inr ⟨Rowy25, _, _, rfl, Sz25, (bi 2 rfl rfl), rfl⟩⟩, trivial⟩ rfl ⟨_, _, _, _, _, _, _, _, rfl, h262, h131, rfl⟩
theorem Ok5 : CallOk Try.prog 5 := ⟨_, Try.func5, by kernel_rfl, by kernel_rfl⟩
theorem Zr32 : Zr Try.prog 32 (.agg #[(.int .i64 0), (.int .i64 0), (.int .i64 0), (.int .i64 0), (.int .i64 0), (.string ⟨#[]⟩), (.slice none 0 0), (.int .i64 0), (.int .i64 0), (.slice none 0 0)]) := ⟨by kernel_rfl⟩
theorem Bld103 : Bld Try.prog 103 (.agg #[(.int .i64 0), (.int .i64 0)]) [(0, 1), (1, 1)] := ⟨_, Try.underlying103, by kernel_rfl, by kernel_rfl⟩
def E103 : Enc Glyph where
  n := 2
  rep := fun M x es => es = [.int .i64 x.Rune, .int .i64 x.Style]
  len := fun h => by subst h; rfl
  mono := fun hm h => by exact h
  cell := fun h v hv => by subst h; simp at hv; rcases hv with rfl | rfl <;> rfl
theorem Sl30 : Sl Try.prog 30 103 2 := ⟨Try.underlying30, by kernel_rfl⟩
theorem El103 : El Try.prog 103 2 16 (.agg #[(.int .i64 0), (.int .i64 0)]) := ⟨by kernel_rfl, rfl⟩
/-! 17 tidewrack/tidewracklaw14.Told -/
def tidewracklaw14_Told_l1  : List Glyph → (List Glyph) → Option (List Glyph)
  | [], p149 =>
  some p149
  | y164 :: ys165, p149 =>
  (cap (p149.length + ([(⟨(w64 y164.Rune), y164.Style⟩ : Glyph)] : List Glyph).length)).bind fun y173 => (tidewracklaw14_Told_l1 ys165 (p149 ++ ([(⟨(w64 y164.Rune), y164.Style⟩ : Glyph)] : List Glyph)))
def tidewracklaw14_Told (x0 : List Glyph) : Option (List Glyph) :=
  (cap x0.length).bind fun y166 => tidewracklaw14_Told_l1 x0 ([] : List Glyph)
set_option maxRecDepth 20000 in
set_option maxHeartbeats 4000000 in
theorem tidewracklaw14_Told_does {M : Mem} {x0 : List Glyph} {pa0 : Option Addr} {pn0 pc0 : Nat} {pe0 : Ent} {r : List Glyph} (ph0 : RdE M E41 x0 pa0 pn0 pc0 pe0) (hk : tidewracklaw14_Told x0 = some r) :
    Does Try.prog 17 [.slice pa0 pn0 pc0].toArray M [pe0] (fun v M' H' => ∃ a101 n102 c103 e105, v = .slice a101 n102 c103 ∧ OSl M' E103 r a101 n102 c103 103 e105 ∧ H' = [pe0, e105]) := by
 refine Does.of Try.func17 rfl rfl fun w0 => sq <| rg <| pn 1 rfl <| nx <| sq <| rg <| pn 1 rfl <| nx <| ?_
 refine sq <| sq <| rg <| pn 1 rfl <| va rfl (lf Try.underlying23 ph0.len rfl) <| pn 1 rfl <| nx <| bk <| bs hk fun y166 e167 hk => ?_
 refine Cd.loop <| ?_
 refine blL <| ls (l' := [(2, .slice none 0 0), (3, .slice none 0 0), (6, .slice pa0 pn0 pc0), (7, .int .i64 (x0.length : Int)), (8, .int .i64 0)]) rfl <| ?_
 refine Lp.lst (xs := x0) e167 (fun ys_ p155 M156 H' l' => ∃ p149 a150 n153 c151 e154, Mem.le M M156 ∧ OSl M156 E103 p149 a150 n153 c151 103 e154 ∧ tidewracklaw14_Told_l1 ys_ p149 = some r ∧ l' = [(2, .slice none 0 0), (3, .slice a150 n153 c151), (6, .slice pa0 pn0 pc0), (7, .int .i64 (x0.length : Int)), (8, .int .i64 p155)] ∧ H' = [e154, pe0]) ?_ ?_ _ _ _ ⟨([] : List Glyph), _, _, _, _, lr, (OSl.nil _ _ _), hk, rfl, rfl⟩
 · rintro p155 e160 M156 H' l' ⟨p149, a150, n153, c151, e154, hle157, h152, hk, rfl, rfl⟩
   refine sq <| rg <| pn 1 rfl <| nx <| sq <| cn rfl e160 <| ex <| te <| te <| ?_
   refine xe <| xn <| sq <| rg <| pn 2 rfl <| nx <| rt <| ?_
   obtain rfl := si hk
   exact seX [1, 0] rfl <| oR 2 rfl rfl ⟨_, _, _, _, rfl, h152, rfl⟩
 rintro y164 ys165 p155 e160 i161 j162 h163 w159 ih158 M156 H' l' ⟨p149, a150, n153, c151, e154, hle157, h152, hk, rfl, rfl⟩
 refine sq <| rg <| pn 1 rfl <| nx <| sq <| cy rfl e160 <| sk <| xn <| sq <| ?_
 refine bk <| sq <| rg <| ?_
 have ph0 := ph0.mono hle157
 obtain ⟨_, rfl, h169⟩ := ph0.el h163
 refine va rfl (ix Sl23 rfl rfl i161 (lt_of ph0.len j162) h169.ne) <| va rfl (lN Rowy41 Sz41 rfl (h169.pt 1 rfl) rfl) <| al rfl Zr41 fun b170 => sr 0 rfl Sz41 rfl rfl rfl rfl rfl <| nx <| rg <| pn 1 rfl <| va rfl (fd Fld41_0 rfl (bi 0 rfl rfl)) <| va rfl (ld One21 rfl (Pt.part 0 1 (bi 0 rfl rfl) rfl)) <| ?_
 refine va rfl (cv rfl Try.underlying3 Try.underlying21) <| va rfl (fd Fld41_1 rfl (bi 0 rfl rfl)) <| va rfl (ld One3 rfl (Pt.part 1 1 (bi 0 rfl rfl) rfl)) <| va rfl (bd (cells := [.int .i64 (w64 y164.Rune), .int .i64 y164.Style]) Bld103 rfl) <| ?_
 refine li E103 [(⟨(w64 y164.Rune), y164.Style⟩ : Glyph)] rfl Sl30 El103 rfl rfl ⟨rfl, rfl⟩ fun b171 h172 => bs hk fun y173 e174 hk => ap (E := E103) 2 rfl Sl30 El103 rfl rfl h152 rfl (RdE.rds h172.rde 0 rfl) e174 rfl (fun _ => rfl) fun a175 n176 c177 e178 h179 => pn 1 rfl <| on <| xb <| xn <| rg <| pn 2 rfl <| ?_
 refine on <| sx 8 w159 rfl <| seX [2, 3] rfl <| ?_
 exact asx (ih158 _ _ _ ⟨(p149 ++ ([(⟨(w64 y164.Rune), y164.Style⟩ : Glyph)] : List Glyph)), _, _, _, _, hle157, h179, hk, rfl, rfl⟩) rfl
theorem Ok17 : CallOk Try.prog 17 := ⟨_, Try.func17, by kernel_rfl, by kernel_rfl⟩
theorem Bld32 : Bld Try.prog 32 (.agg #[(.int .i64 0), (.int .i64 0), (.int .i64 0), (.int .i64 0), (.int .i64 0), (.string ⟨#[]⟩), (.slice none 0 0), (.int .i64 0), (.int .i64 0), (.slice none 0 0)]) [(0, 1), (1, 1), (2, 1), (3, 1), (4, 1), (5, 1), (6, 1), (7, 1), (8, 1), (9, 1)] := ⟨_, Try.underlying32, by kernel_rfl, by kernel_rfl⟩
theorem Sz32 : Sz Try.prog 32 10 := ⟨by kernel_rfl⟩
theorem Fld32_6 : Fld Try.prog 32 6 6 0 := ⟨_, _, Try.underlying32, rfl, rfl, by kernel_rfl⟩
theorem One28 : One Try.prog 28 := ⟨_, Try.underlying28, rfl⟩
theorem Zr59 : Zr Try.prog 59 (.agg #[(.slice none 0 0), (.bool false)]) := ⟨by kernel_rfl⟩
theorem Bld59 : Bld Try.prog 59 (.agg #[(.slice none 0 0), (.bool false)]) [(0, 1), (1, 1)] := ⟨_, Try.underlying59, by kernel_rfl, by kernel_rfl⟩
theorem Sz59 : Sz Try.prog 59 2 := ⟨by kernel_rfl⟩
theorem Fld59_0 : Fld Try.prog 59 0 0 0 := ⟨_, _, Try.underlying59, rfl, rfl, by kernel_rfl⟩
theorem One57 : One Try.prog 57 := ⟨_, Try.underlying57, rfl⟩
theorem Bld105 : Bld Try.prog 105 (.agg #[(.int .i64 0), (.int .i64 0), (.int .i64 0)]) [(0, 1), (1, 1), (2, 1)] := ⟨_, Try.underlying105, by kernel_rfl, by kernel_rfl⟩
def E105 : Enc Cell where
  n := 3
  rep := fun M x es => es = [.int .i64 x.Rune, .int .i64 x.Style, .int .i64 x.Part]
  len := fun h => by subst h; rfl
  mono := fun hm h => by exact h
  cell := fun h v hv => by subst h; simp at hv; rcases hv with rfl | rfl | rfl <;> rfl
theorem Sl57 : Sl Try.prog 57 105 3 := ⟨Try.underlying57, by kernel_rfl⟩
theorem El105 : El Try.prog 105 3 24 (.agg #[(.int .i64 0), (.int .i64 0), (.int .i64 0)]) := ⟨by kernel_rfl, rfl⟩
theorem Sz57 : Sz Try.prog 57 1 := ⟨by kernel_rfl⟩
theorem Rowy59 : Rowy Try.prog 59 := ⟨_, Try.underlying59, rfl⟩
/-! 18 tidewrack/tidewracklaw09.Told -/
def tidewracklaw09_Told_l1 (x0 : Row) : List Cell → (List Cell) → Option (Row)
  | [], p152 =>
  some (⟨p152, x0.Wrapped⟩ : Row)
  | y167 :: ys168, p152 =>
  (cap (p152.length + ([({ y167 with Rune := (w64 y167.Rune) } : Cell)] : List Cell).length)).bind fun y176 => (tidewracklaw09_Told_l1 x0 ys168 (p152 ++ ([({ y167 with Rune := (w64 y167.Rune) } : Cell)] : List Cell)))
def tidewracklaw09_Told (x0 : Row) : Option (Row) :=
  (cap x0.Cells.length).bind fun y169 => tidewracklaw09_Told_l1 x0 x0.Cells ([] : List Cell)
set_option maxRecDepth 20000 in
set_option maxHeartbeats 4000000 in
theorem tidewracklaw09_Told_does {M : Mem} {x0 : Row} {pa0 : Option Addr} {pn0 pc0 : Nat} {r : Row} (ph0 : SRep M E39 x0.Cells pa0 pn0 pc0) (hk : tidewracklaw09_Told x0 = some r) :
    Does Try.prog 18 [.agg #[.slice pa0 pn0 pc0, .bool x0.Wrapped]].toArray M [] (fun v M' H' => ∃ a101 n102 c103 e105, v = .agg #[.slice a101 n102 c103, .bool r.Wrapped] ∧ OSl M' E105 r.Cells a101 n102 c103 105 e105 ∧ H' = [e105]) := by
 refine Does.of Try.func18 rfl rfl fun w0 => sq <| rg <| bx rfl rfl fun b106 => al rfl Zr59 fun b107 => nx <| sq <| rg <| va rfl (fd Fld37_1 rfl (bi 1 rfl rfl)) <| ?_
 refine va rfl (ld One4 rfl (Pt.part 1 1 (bi 1 rfl rfl) rfl)) <| va rfl (bd (cells := [.slice none 0 0, .bool x0.Wrapped]) Bld59 rfl) <| al rfl Zr59 fun b108 => sr 0 rfl Sz59 rfl rfl rfl rfl rfl <| nx <| sq <| sq <| rg <| va rfl (fd Fld37_0 rfl (bi 2 rfl rfl)) <| ?_
 refine va rfl (ld One35 rfl (Pt.part 0 1 (bi 2 rfl rfl) rfl)) <| va rfl (lf Try.underlying35 ph0.len rfl) <| pn 1 rfl <| nx <| bk <| bs hk fun y169 e170 hk => Cd.loop <| ?_
 refine blL <| seL [0, 2, 1] rfl <| ls (l' := [(2, .pointer (some ⟨b107, 0, none⟩)), (3, .pointer (some ⟨b108, 0, none⟩)), (10, .slice pa0 pn0 pc0), (11, .int .i64 (x0.Cells.length : Int)), (12, .int .i64 0)]) rfl <| ?_
 refine Lp.lst (xs := x0.Cells) e170 (fun ys_ p158 M159 H' l' => ∃ p152 a153 n156 c154 e157, Mem.le M M159 ∧ OSl M159 E105 p152 a153 n156 c154 105 e157 ∧ tidewracklaw09_Told_l1 x0 ys_ p152 = some r ∧ l' = [(2, .pointer (some ⟨b107, 0, none⟩)), (3, .pointer (some ⟨b108, 0, none⟩)), (10, .slice pa0 pn0 pc0), (11, .int .i64 (x0.Cells.length : Int)), (12, .int .i64 p158)] ∧ H' = [e157, some (b107, .cells #[.slice none 0 0, .bool false] 59 (0, 0)), some (b108, .cells #[.slice a153 n156 c154, .bool x0.Wrapped] 59 (0, 0))]) ?_ ?_ _ _ _ ⟨([] : List Cell), _, _, _, _, lr, (OSl.nil _ _ _), hk, rfl, rfl⟩
 · rintro p158 e163 M159 H' l' ⟨p152, a153, n156, c154, e157, hle160, h155, hk, rfl, rfl⟩
   refine sq <| rg <| pn 1 rfl <| nx <| sq <| cn rfl e163 <| ex <| te <| te <| ?_
   refine xe <| xn <| sq <| rg <| va rfl (lN Rowy59 Sz59 rfl (bi 2 rfl rfl) rfl) <| sr 1 rfl Sz59 rfl rfl rfl rfl rfl <| nx <| rt <| ?_
   obtain rfl := si hk
   exact seX [0, 1] rfl <| Ex.out 1 rfl (.inl rfl) rfl (rs := [_]) (vs := [_]) ⟨⟨_, rfl, .inr ⟨Rowy59, _, _, rfl, Sz59, (bi 1 rfl rfl), rfl⟩⟩, trivial⟩ rfl ⟨_, _, _, _, rfl, h155, rfl⟩
 rintro y167 ys168 p158 e163 i164 j165 h166 w162 ih161 M159 H' l' ⟨p152, a153, n156, c154, e157, hle160, h155, hk, rfl, rfl⟩
 refine sq <| rg <| pn 1 rfl <| nx <| sq <| cy rfl e163 <| sk <| xn <| sq <| ?_
 refine bk <| sq <| rg <| ?_
 have ph0 := ph0.mono hle160
 obtain ⟨_, rfl, h172⟩ := ph0.pt [] h166
 refine va rfl (ix Sl35 rfl rfl i164 (lt_of ph0.len j165) (Pt.ne h172)) <| va rfl (lN Rowy39 Sz39 rfl (Pt.any h172 _) rfl) <| al rfl Zr39 fun b173 => sr 0 rfl Sz39 rfl rfl rfl rfl rfl <| nx <| rg <| va rfl (fd Fld59_0 rfl (bi 3 rfl rfl)) <| va rfl (ld One57 rfl (Pt.part 0 1 (bi 3 rfl rfl) rfl)) <| va rfl (fd Fld39_0 rfl (bi 0 rfl rfl)) <| ?_
 refine va rfl (ld One21 rfl (Pt.part 0 1 (bi 0 rfl rfl) rfl)) <| va rfl (cv rfl Try.underlying3 Try.underlying21) <| va rfl (fd Fld39_1 rfl (bi 0 rfl rfl)) <| va rfl (ld One3 rfl (Pt.part 1 1 (bi 0 rfl rfl) rfl)) <| va rfl (fd Fld39_2 rfl (bi 0 rfl rfl)) <| va rfl (ld One3 rfl (Pt.part 2 1 (bi 0 rfl rfl) rfl)) <| va rfl (bd (cells := [.int .i64 (w64 y167.Rune), .int .i64 y167.Style, .int .i64 y167.Part]) Bld105 rfl) <| ?_
 refine li E105 [({ y167 with Rune := (w64 y167.Rune) } : Cell)] rfl Sl57 El105 rfl rfl ⟨rfl, rfl⟩ fun b174 h175 => bs hk fun y176 e177 hk => ap (E := E105) 2 rfl Sl57 El105 rfl rfl h155 rfl (RdE.rds h175.rde 0 rfl) e177 rfl (fun _ => rfl) fun a178 n179 c180 e181 h182 => va rfl (fd Fld59_0 rfl (bi 4 rfl rfl)) <| sr 4 rfl Sz57 rfl rfl rfl rfl rfl <| on <| xb <| xn <| rg <| ?_
 refine pn 2 rfl <| on <| sx 12 w162 rfl <| seX [2, 3, 4] rfl <| ?_
 exact asx (ih161 _ _ _ ⟨(p152 ++ ([({ y167 with Rune := (w64 y167.Rune) } : Cell)] : List Cell)), _, _, _, _, hle160, h182, hk, rfl, rfl⟩) rfl
theorem Ok18 : CallOk Try.prog 18 := ⟨_, Try.func18, by kernel_rfl, by kernel_rfl⟩
def E59 : Enc Row where
  n := 2
  rep := fun M x es => ∃ a0 n0 c0, es = [.slice a0 n0 c0, .bool x.Wrapped] ∧ SRep M E105 x.Cells a0 n0 c0
  len := fun h => by obtain ⟨a0, n0, c0, rfl, h0⟩ := h; rfl
  mono := fun hm h => by obtain ⟨a0, n0, c0, rfl, h0⟩ := h; exact ⟨a0, n0, c0, rfl, h0.mono hm⟩
  cell := fun h v hv => by obtain ⟨a0, n0, c0, rfl, h0⟩ := h; simp at hv; rcases hv with rfl | rfl <;> rfl
theorem Sl28 : Sl Try.prog 28 59 2 := ⟨Try.underlying28, by kernel_rfl⟩
theorem El59 : El Try.prog 59 2 32 (.agg #[(.slice none 0 0), (.bool false)]) := ⟨by kernel_rfl, rfl⟩
theorem Sz28 : Sz Try.prog 28 1 := ⟨by kernel_rfl⟩
theorem Rowy32 : Rowy Try.prog 32 := ⟨_, Try.underlying32, rfl⟩
/-! 6 tidewrack/tidewracklaw16.Told -/
def tidewracklaw16_Told_l2 (x0 : Snap) (p134 : List Glyph) : List Row → (List Row) → Option (Snap)
  | [], p236 =>
  some ({ x0 with Rows := p236, Begun := p134 } : Snap)
  | y251 :: ys252, p236 =>
  (tidewracklaw09_Told y251).bind fun y282 => (cap (p236.length + ([y282] : List Row).length)).bind fun y295 => (tidewracklaw16_Told_l2 x0 p134 ys252 (p236 ++ ([y282] : List Row)))
def tidewracklaw16_Told_j1 (x0 : Snap) (p134 : List Glyph) : Option (Snap) :=
  (cap x0.Rows.length).bind fun y253 => tidewracklaw16_Told_l2 x0 p134 x0.Rows ([] : List Row)
def tidewracklaw16_Told (x0 : Snap) : Option (Snap) :=
  (tidewracklaw14_Told x0.Begun).bind fun y313 => tidewracklaw16_Told_j1 x0 y313
set_option maxRecDepth 20000 in
set_option maxHeartbeats 4000000 in
theorem tidewracklaw16_Told_does {M : Mem} {x0 : Snap} {pa0 : Option Addr} {pn0 pc0 : Nat} {pe0 : Ent} {pa1 : Option Addr} {pn1 pc1 : Nat} {pe1 : Ent} {r : Snap} (ph0 : RdE M E37 x0.Rows pa0 pn0 pc0 pe0) (ph1 : RdE M E41 x0.Begun pa1 pn1 pc1 pe1) (hk : tidewracklaw16_Told x0 = some r) :
    Does Try.prog 6 [.agg #[.int .i64 x0.K, .int .i64 x0.W, .int .i64 x0.H, .int .i64 x0.X, .int .i64 x0.Y, .string x0.Title, .slice pa0 pn0 pc0, .int .i64 x0.Len, .int .i64 x0.Chain, .slice pa1 pn1 pc1]].toArray M [pe0, pe1] (fun v M' H' => ∃ a101 n102 c103 e105 a106 n107 c108 e110, v = .agg #[.int .i64 r.K, .int .i64 r.W, .int .i64 r.H, .int .i64 r.X, .int .i64 r.Y, .string r.Title, .slice a101 n102 c103, .int .i64 r.Len, .int .i64 r.Chain, .slice a106 n107 c108] ∧ OSl M' E59 r.Rows a101 n102 c103 59 e105 ∧ OSl M' E103 r.Begun a106 n107 c108 103 e110 ∧ H' = [pe0, pe1, e105, e110]) := by
 refine Does.of Try.func6 rfl rfl fun w0 => sq <| rg <| bx rfl rfl fun b111 => al rfl Zr32 fun b112 => nx <| ?_
 refine Cd.join (fun M140 H' l' => ∃ p134 b133 a135 n138 c136 e139, Mem.le M M140 ∧ OSl M140 E103 p134 a135 n138 c136 103 e139 ∧ tidewracklaw16_Told_j1 x0 p134 = some r ∧ l' = [(1, .pointer (some ⟨b111, 0, none⟩)), (2, .pointer (some ⟨b112, 0, none⟩)), (3, .pointer (some ⟨b133, 0, none⟩))] ∧ H' = [e139, pe0, pe1, some (b111, .cells #[.int .i64 x0.K, .int .i64 x0.W, .int .i64 x0.H, .int .i64 x0.X, .int .i64 x0.Y, .string x0.Title, .slice pa0 pn0 pc0, .int .i64 x0.Len, .int .i64 x0.Chain, .slice pa1 pn1 pc1] 25 (0, 0)), some (b112, .cells #[.int .i64 0, .int .i64 0, .int .i64 0, .int .i64 0, .int .i64 0, .string (⟨#[]⟩ : ByteArray), .slice none 0 0, .int .i64 0, .int .i64 0, .slice none 0 0] 32 (0, 0)), some (b133, .cells #[.int .i64 x0.K, .int .i64 x0.W, .int .i64 x0.H, .int .i64 x0.X, .int .i64 x0.Y, .string x0.Title, .slice none 0 0, .int .i64 x0.Len, .int .i64 x0.Chain, .slice a135 n138 c136] 32 (0, 0))]) ?_ ?_
 · rintro M140 H' l' ⟨p134, b133, a135, n138, c136, e139, hle141, h137, hk, rfl, rfl⟩
   refine sq <| sq <| rg <| va rfl (fd Fld25_6 rfl (bi 3 rfl rfl)) <| va rfl (ld One22 rfl (Pt.part 6 1 (bi 3 rfl rfl) rfl)) <| va rfl (lf Try.underlying22 ph0.len rfl) <| pn 1 rfl <| nx <| bk <| ?_
   refine bs hk fun y253 e254 hk => Cd.loop <| ?_
   refine blL <| seL [0, 2, 1, 3, 5, 6] rfl <| ls (l' := [(2, .pointer (some ⟨b112, 0, none⟩)), (3, .pointer (some ⟨b133, 0, none⟩)), (27, .slice pa0 pn0 pc0), (28, .int .i64 (x0.Rows.length : Int)), (29, .int .i64 0)]) rfl <| ?_
   refine Lp.lst (xs := x0.Rows) e254 (fun ys_ p242 M243 H' l' => ∃ p236 a237 n240 c238 e241, Mem.le M140 M243 ∧ OSl M243 E59 p236 a237 n240 c238 59 e241 ∧ tidewracklaw16_Told_l2 x0 p134 ys_ p236 = some r ∧ l' = [(2, .pointer (some ⟨b112, 0, none⟩)), (3, .pointer (some ⟨b133, 0, none⟩)), (27, .slice pa0 pn0 pc0), (28, .int .i64 (x0.Rows.length : Int)), (29, .int .i64 p242)] ∧ H' = [e241, pe0, e139, pe1, some (b112, .cells #[.int .i64 0, .int .i64 0, .int .i64 0, .int .i64 0, .int .i64 0, .string (⟨#[]⟩ : ByteArray), .slice none 0 0, .int .i64 0, .int .i64 0, .slice none 0 0] 32 (0, 0)), some (b133, .cells #[.int .i64 x0.K, .int .i64 x0.W, .int .i64 x0.H, .int .i64 x0.X, .int .i64 x0.Y, .string x0.Title, .slice a237 n240 c238, .int .i64 x0.Len, .int .i64 x0.Chain, .slice a135 n138 c136] 32 (0, 0))]) ?_ ?_ _ _ _ ⟨([] : List Row), _, _, _, _, lr, (OSl.nil _ _ _), hk, rfl, rfl⟩
   · rintro p242 e247 M243 H' l' ⟨p236, a237, n240, c238, e241, hle244, h239, hk, rfl, rfl⟩
     refine sq <| rg <| pn 1 rfl <| nx <| sq <| cn rfl e247 <| ex <| te <| te <| ?_
     refine xe <| xn <| sq <| rg <| va rfl (lN Rowy32 Sz32 rfl (bi 5 rfl rfl) rfl) <| sr 4 rfl Sz32 rfl rfl rfl rfl rfl <| nx <| rt <| ?_
     obtain rfl := si hk
     refine seX [1, 3, 0, 2, 4] rfl <| ?_
     have h137 := h137.mono hle244
     exact Ex.out 4 rfl (.inl rfl) rfl (rs := [_]) (vs := [_]) ⟨⟨_, rfl, .inr ⟨Rowy32, _, _, rfl, Sz32, (bi 4 rfl rfl), rfl⟩⟩, trivial⟩ rfl ⟨_, _, _, _, _, _, _, _, rfl, h239, h137, rfl⟩
   rintro y251 ys252 p242 e247 i248 j249 h250 w246 ih245 M243 H' l' ⟨p236, a237, n240, c238, e241, hle244, h239, hk, rfl, rfl⟩
   refine sq <| rg <| pn 1 rfl <| nx <| sq <| cy rfl e247 <| sk <| xn <| sq <| ?_
   refine bk <| sq <| rg <| ?_
   have ph0 := ph0.mono (hle141.t hle244)
   obtain ⟨_, ⟨a257, n258, c259, rfl, h260⟩, h256⟩ := ph0.el h250
   refine va rfl (ix Sl22 rfl rfl i248 (lt_of ph0.len j249) h256.ne) <| va rfl (lN Rowy37 Sz37 rfl (h256.pt 1 rfl) rfl) <| al rfl Zr37 fun b261 => sr 0 rfl Sz37 rfl rfl rfl rfl rfl <| nx <| ?_
   refine dt [0, 2, 3, 4, 5, 6] rfl 6 rfl (.tk [0, 1, 2] (.one 3 (.one 4 (.one 5 .nil)))) Mixed (by kernel_rfl) <| dv rfl rfl (fd Fld32_6 rfl (bi 5 rfl rfl)) <| dv rfl rfl (ld One28 rfl (Pt.part 6 1 (bi 5 rfl rfl) rfl)) <| dv rfl rfl (lN Rowy37 Sz37 rfl (bi 0 rfl rfl) rfl) <| da rfl <| bs hk fun y282 e283 hk => ca rfl Ok18 (tidewracklaw09_Told_does h260 e283) rfl rfl <| ?_
   rintro _ M284 _ l285 ⟨a286, n287, c288, e290, rfl, h289, rfl⟩
   refine db [1, 3, 4, 5, 6, 7] l285 rfl <| da rfl <| fz 0 h289 rfl rfl fun M293 l294 h289 => ?_
   refine li E59 [y282] rfl Sl28 El59 rfl rfl ⟨⟨_, _, _, rfl, h289⟩, rfl⟩ fun b291 h292 => db [1, 3, 4, 5, 6, 7] (l285.t l294) rfl <| bs hk fun y295 e296 hk => da rfl <| ap (E := E59) 2 rfl Sl28 El59 rfl rfl (h239.mono (l285.t l294)) rfl (RdE.rds h292.rde 0 rfl) e296 rfl (fun _ => rfl) fun a297 n298 c299 e300 h301 => db [1, 3, 4, 5, 6, 7] (l285.t l294) rfl <| dd <| td rfl <| va rfl (fd Fld32_6 rfl (bi 7 rfl rfl)) <| ?_
   refine sr 7 rfl Sz28 rfl rfl rfl rfl rfl <| on <| xb <| xn <| rg <| pn 2 rfl <| on <| sx 29 w246 rfl <| seX [2, 3, 4, 5, 6, 7] rfl <| ?_
   exact asx (ih245 _ _ _ ⟨(p236 ++ ([y282] : List Row)), _, _, _, _, ((hle244.t l285).t l294), h301, hk, rfl, rfl⟩) rfl
 intro J142
 refine dt [0, 1, 2, 3] rfl 21 rfl (.tk [0, 1, 2, 3, 4, 5, 6, 7, 8, 9, 10, 11, 12, 13, 14, 15, 16, 17] (.two 18 (.tk [19] (.one 20 .nil)) 20 (.one 18 (.tk [19] .nil)))) Mixed (by kernel_rfl) <| dv rfl rfl (fd Fld25_0 rfl (bi 1 rfl rfl)) <| dv rfl rfl (ld One3 rfl (Pt.part 0 1 (bi 1 rfl rfl) rfl)) <| dv rfl rfl (fd Fld25_1 rfl (bi 1 rfl rfl)) <| dv rfl rfl (ld One3 rfl (Pt.part 1 1 (bi 1 rfl rfl) rfl)) <| dv rfl rfl (fd Fld25_2 rfl (bi 1 rfl rfl)) <| dv rfl rfl (ld One3 rfl (Pt.part 2 1 (bi 1 rfl rfl) rfl)) <| dv rfl rfl (fd Fld25_3 rfl (bi 1 rfl rfl)) <| dv rfl rfl (ld One3 rfl (Pt.part 3 1 (bi 1 rfl rfl) rfl)) <| ?_
 refine dv rfl rfl (fd Fld25_4 rfl (bi 1 rfl rfl)) <| dv rfl rfl (ld One3 rfl (Pt.part 4 1 (bi 1 rfl rfl) rfl)) <| dv rfl rfl (fd Fld25_5 rfl (bi 1 rfl rfl)) <| dv rfl rfl (ld One9 rfl (Pt.part 5 1 (bi 1 rfl rfl) rfl)) <| dv rfl rfl (fd Fld25_7 rfl (bi 1 rfl rfl)) <| dv rfl rfl (ld One3 rfl (Pt.part 7 1 (bi 1 rfl rfl) rfl)) <| dv rfl rfl (fd Fld25_8 rfl (bi 1 rfl rfl)) <| dv rfl rfl (ld One3 rfl (Pt.part 8 1 (bi 1 rfl rfl) rfl)) <| dv rfl rfl (fd Fld25_9 rfl (bi 1 rfl rfl)) <| ?_
 refine dv rfl rfl (ld One23 rfl (Pt.part 9 1 (bi 1 rfl rfl) rfl)) <| ?_
 refine Opd.two ?_ ?_
 · refine da rfl <| se [3, 0, 1, 2] rfl <| bs hk fun y302 e303 hk => ca rfl Ok17 (tidewracklaw14_Told_does (ph1.rde) e303) rfl rfl <| ?_
   rintro _ M304 _ l305 ⟨a306, n307, c308, e310, rfl, h309, rfl⟩
   refine db [2, 3, 4, 0] l305 rfl <| dv rfl rfl (bd (cells := [.int .i64 x0.K, .int .i64 x0.W, .int .i64 x0.H, .int .i64 x0.X, .int .i64 x0.Y, .string x0.Title, .slice none 0 0, .int .i64 x0.Len, .int .i64 x0.Chain, .slice a306 n307 c308]) Bld32 rfl) <| da rfl <| al rfl Zr32 fun b311 => db [3, 4, 5, 1] l305 rfl <| dd <| td rfl <| sr 0 rfl Sz32 rfl rfl rfl rfl rfl <| on <| ?_
   refine seX [2, 5, 1, 4, 3, 0] rfl <| ?_
   exact asx (J142 _ _ _ ⟨y302, _, _, _, _, _, l305, h309, hk, rfl, rfl⟩) rfl
 refine da rfl <| al rfl Zr32 fun b312 => db [1, 2, 3, 4] lr rfl <| da rfl <| se [4, 0, 1, 2, 3] rfl <| bs hk fun y313 e314 hk => ca rfl Ok17 (tidewracklaw14_Told_does (ph1.rde) e314) rfl rfl <| ?_
 rintro _ M315 _ l316 ⟨a317, n318, c319, e321, rfl, h320, rfl⟩
 refine db [3, 4, 5, 0] l316 rfl <| dv rfl rfl (bd (cells := [.int .i64 x0.K, .int .i64 x0.W, .int .i64 x0.H, .int .i64 x0.X, .int .i64 x0.Y, .string x0.Title, .slice none 0 0, .int .i64 x0.Len, .int .i64 x0.Chain, .slice a317 n318 c319]) Bld32 rfl) <| dd <| td rfl <| sr 2 rfl Sz32 rfl rfl rfl rfl rfl <| on <| seX [1, 5, 0, 4, 3, 2] rfl <| ?_
 exact asx (J142 _ _ _ ⟨y313, _, _, _, _, _, l316, h320, hk, rfl, rfl⟩) rfl
theorem Ok6 : CallOk Try.prog 6 := ⟨_, Try.func6, by kernel_rfl, by kernel_rfl⟩
theorem Sz21 : Sz Try.prog 21 1 := ⟨by kernel_rfl⟩
theorem Fld32_0 : Fld Try.prog 32 0 0 0 := ⟨_, _, Try.underlying32, rfl, rfl, by kernel_rfl⟩
theorem Fld32_1 : Fld Try.prog 32 1 1 0 := ⟨_, _, Try.underlying32, rfl, rfl, by kernel_rfl⟩
theorem Fld32_2 : Fld Try.prog 32 2 2 0 := ⟨_, _, Try.underlying32, rfl, rfl, by kernel_rfl⟩
theorem Fld32_3 : Fld Try.prog 32 3 3 0 := ⟨_, _, Try.underlying32, rfl, rfl, by kernel_rfl⟩
theorem Fld32_4 : Fld Try.prog 32 4 4 0 := ⟨_, _, Try.underlying32, rfl, rfl, by kernel_rfl⟩
theorem Fld32_5 : Fld Try.prog 32 5 5 0 := ⟨_, _, Try.underlying32, rfl, rfl, by kernel_rfl⟩
theorem Fld32_7 : Fld Try.prog 32 7 7 0 := ⟨_, _, Try.underlying32, rfl, rfl, by kernel_rfl⟩
theorem Fld32_8 : Fld Try.prog 32 8 8 0 := ⟨_, _, Try.underlying32, rfl, rfl, by kernel_rfl⟩
theorem Fld59_1 : Fld Try.prog 59 1 1 0 := ⟨_, _, Try.underlying59, rfl, rfl, by kernel_rfl⟩
theorem Fld105_0 : Fld Try.prog 105 0 0 0 := ⟨_, _, Try.underlying105, rfl, rfl, by kernel_rfl⟩
theorem Fld105_1 : Fld Try.prog 105 1 1 0 := ⟨_, _, Try.underlying105, rfl, rfl, by kernel_rfl⟩
theorem Fld105_2 : Fld Try.prog 105 2 2 0 := ⟨_, _, Try.underlying105, rfl, rfl, by kernel_rfl⟩
/-! 51 tidewrack/tidewracklaw09.Is -/
def tidewracklaw09_Is_j2 (rec267 : Option (Bool)) (p306 : Int) (p307 : Bool) (p308 : Bool) (p309 : Bool) (p310 : Bool) (p311 : Bool) : Option (Bool) :=
  (bif p311 then some false else (rec267))
def tidewracklaw09_Is_l1 (x1 : Row) : List Cell → Int → Option (Bool)
  | [], p254 =>
  some true
  | y263 :: ys264, p254 =>
  (idx x1.Cells p254).bind fun y317 => (bif ((w64 y263.Rune) != y317.Rune) then tidewracklaw09_Is_j2 (tidewracklaw09_Is_l1 x1 ys264 (p254 + 1)) y317.Rune ((w64 y263.Rune) != y317.Rune) true true true true else (bif (y263.Style != y317.Style) then tidewracklaw09_Is_j2 (tidewracklaw09_Is_l1 x1 ys264 (p254 + 1)) y317.Rune ((w64 y263.Rune) != y317.Rune) false (y263.Style != y317.Style) true true else tidewracklaw09_Is_j2 (tidewracklaw09_Is_l1 x1 ys264 (p254 + 1)) y317.Rune ((w64 y263.Rune) != y317.Rune) false (y263.Style != y317.Style) false (y263.Part != y317.Part)))
def tidewracklaw09_Is (x0 : Row) (x1 : Row) : Option (Bool) :=
  (bif (((x0.Cells.length : Int) != (x1.Cells.length : Int)) || (!(x0.Wrapped == x1.Wrapped))) then some false else (cap x0.Cells.length).bind fun y265 => tidewracklaw09_Is_l1 x1 x0.Cells 0)
set_option maxRecDepth 20000 in
set_option maxHeartbeats 4000000 in
theorem tidewracklaw09_Is_does {M : Mem} {x0 : Row} {x1 : Row} {pa0 : Option Addr} {pn0 pc0 : Nat} {pa1 : Option Addr} {pn1 pc1 : Nat} {r : Bool} (ph0 : SRep M E39 x0.Cells pa0 pn0 pc0) (ph1 : SRep M E105 x1.Cells pa1 pn1 pc1) (hk : tidewracklaw09_Is x0 x1 = some r) :
    Does Try.prog 51 [.agg #[.slice pa0 pn0 pc0, .bool x0.Wrapped], .agg #[.slice pa1 pn1 pc1, .bool x1.Wrapped]].toArray M [] (fun v M' H' => v = .bool r ∧ H' = []) := by
 refine Does.of Try.func51 rfl rfl fun w0 => sq <| rg <| bx rfl rfl fun b101 => bx rfl rfl fun b102 => pn 1 rfl <| nx <| sq <| sq <| rg <| va rfl (fd Fld37_0 rfl (bi 1 rfl rfl)) <| va rfl (ld One35 rfl (Pt.part 0 1 (bi 1 rfl rfl) rfl)) <| va rfl (lf Try.underlying35 ph0.len rfl) <| va rfl (fd Fld59_0 rfl (bi 0 rfl rfl)) <| va rfl (ld One57 rfl (Pt.part 0 1 (bi 0 rfl rfl) rfl)) <| va rfl (lf Try.underlying57 ph1.len rfl) <| pn 2 rfl <| jO 20 6 rfl (!(x0.Wrapped == x1.Wrapped)) (fun J114 e113 => ?_) ?_
 · rcases cs e113 with ⟨e115, e113⟩ | ⟨e115, e113⟩
   · exact kt 14 e115 rfl <| pn 6 rfl <| ji 7 J114 rfl rfl rfl e113
   refine kf 14 e115 rfl <| va rfl (fd Fld37_1 rfl (bi 1 rfl rfl)) <| va rfl (ld One4 rfl (Pt.part 1 1 (bi 1 rfl rfl) rfl)) <| va rfl (fd Fld59_1 rfl (bi 0 rfl rfl)) <| va rfl (ld One4 rfl (Pt.part 1 1 (bi 0 rfl rfl) rfl)) <| va rfl (run_bneq rfl rfl rfl Try.underlying4) <| pn 1 rfl <| ?_
   exact ji 7 J114 rfl rfl rfl e113
 refine nx <| ?_
 rcases cs hk with ⟨e116, hk⟩ | ⟨e116, hk⟩
 · refine cy rfl e116 <| sq <| rg <| pn 1 rfl <| nx <| rt <| tr <| ?_
   obtain rfl := si hk
   exact seX [] rfl <| oR 0 rfl rfl ⟨rfl, rfl⟩
 refine cn rfl e116 <| sk <| xn <| sq <| sq <| rg <| va rfl (fd Fld37_0 rfl (bi 1 rfl rfl)) <| va rfl (ld One35 rfl (Pt.part 0 1 (bi 1 rfl rfl) rfl)) <| va rfl (lf Try.underlying35 ph0.len rfl) <| ?_
 refine pn 1 rfl <| nx <| bk <| bs hk fun y265 e266 hk => Cd.loop <| ?_
 refine seL [0] rfl <| ls (l' := [(3, .pointer (some ⟨b102, 0, none⟩)), (4, .bool false), (22, .slice pa0 pn0 pc0), (23, .int .i64 (x0.Cells.length : Int)), (24, .int .i64 0)]) rfl <| ?_
 refine Lp.lst (xs := x0.Cells) e266 (fun ys_ p254 M255 H' l' => Mem.le M M255 ∧ tidewracklaw09_Is_l1 x1 ys_ p254 = some r ∧ l' = [(3, .pointer (some ⟨b102, 0, none⟩)), (4, .bool false), (22, .slice pa0 pn0 pc0), (23, .int .i64 (x0.Cells.length : Int)), (24, .int .i64 p254)] ∧ H' = [some (b102, .cells #[.slice pa1 pn1 pc1, .bool x1.Wrapped] 59 (0, 0))]) ?_ ?_ _ _ _ ⟨lr, hk, rfl, rfl⟩
 · rintro p254 e259 M255 H' l' ⟨hle256, hk, rfl, rfl⟩
   refine sq <| rg <| pn 1 rfl <| nx <| sq <| cn rfl e259 <| ex <| te <| te <| ?_
   refine xe <| xn <| sq <| rg <| pn 1 rfl <| nx <| rt <| ?_
   obtain rfl := si hk
   exact seX [] rfl <| oR 0 rfl rfl ⟨rfl, rfl⟩
 rintro y263 ys264 p254 e259 i260 j261 h262 w258 ih257 M255 H' l' ⟨hle256, hk, rfl, rfl⟩
 refine sq <| rg <| pn 1 rfl <| nx <| sq <| cy rfl e259 <| sk <| xn <| sq <| ?_
 refine bk <| sq <| rg <| pn 1 rfl <| ?_
 have ph0 := ph0.mono hle256
 obtain ⟨_, rfl, h296⟩ := ph0.pt [] h262
 refine va rfl (ix Sl35 rfl rfl i260 (lt_of ph0.len j261) (Pt.ne h296)) <| va rfl (lN Rowy39 Sz39 rfl (Pt.any h296 _) rfl) <| al rfl Zr39 fun b297 => pn 1 rfl <| sr 0 rfl Sz39 rfl rfl rfl rfl rfl <| nx <| ?_
 refine Cd.join (fun M312 H' l' => ∃ p306 p307 p308 p309 p310 p311, Mem.le M255 M312 ∧ tidewracklaw09_Is_j2 (tidewracklaw09_Is_l1 x1 ys264 (p254 + 1)) p306 p307 p308 p309 p310 p311 = some r ∧ l' = [(3, .pointer (some ⟨b102, 0, none⟩)), (4, .bool false), (5, .int .i64 p254), (6, .pointer (some ⟨b297, 0, none⟩)), (22, .slice pa0 pn0 pc0), (23, .int .i64 (x0.Cells.length : Int)), (24, .int .i64 p254), (25, .bool (decide (p254 < (x0.Cells.length : Int)))), (26, .int .i64 p254), (28, .agg #[.int .i32 y263.Rune, .int .i64 y263.Style, .int .i64 y263.Part]), (29, .pointer (some ⟨b297, 0, none⟩)), (30, .int .i32 y263.Rune), (31, .int .i64 (w64 y263.Rune)), (32, .pointer (some ⟨b102, 0, none⟩)), (33, .slice pa1 pn1 pc1), (34, .int .i64 p254), (37, .int .i64 p306), (38, .bool p307), (39, .bool p308), (49, .bool p309), (50, .bool p310), (60, .bool p311)] ∧ H' = [some (b102, .cells #[.slice pa1 pn1 pc1, .bool x1.Wrapped] 59 (0, 0)), some (b297, .cells #[.int .i32 y263.Rune, .int .i64 y263.Style, .int .i64 y263.Part] 39 (0, 0))]) ?_ ?_
 · rintro M312 H' l' ⟨p306, p307, p308, p309, p310, p311, hle313, hk, rfl, rfl⟩
   rcases cs hk with ⟨e315, hk⟩ | ⟨e315, hk⟩
   · refine cy rfl e315 <| sq <| rg <| pn 1 rfl <| nx <| rt <| xr <| tr <| tr <| ?_
     refine xr <| tr <| ?_
     obtain rfl := si hk
     exact seX [] rfl <| oR 0 rfl rfl ⟨rfl, rfl⟩
   refine cn rfl e315 <| sk <| xb <| xn <| rg <| pn 2 rfl <| on <| sx 24 w258 rfl <| seX [0] rfl <| ?_
   exact asx (ih257 _ _ _ ⟨(hle256.t hle313), hk, rfl, rfl⟩) rfl
 intro J314
 refine dw [0, 1] rfl (.tk [0, 1, 2, 3, 4, 5, 6, 7, 8, 9, 10, 11, 12, 13, 14, 15, 16, 17, 18, 19, 20, 21, 22, 23, 24, 25, 26, 27, 28, 29, 30, 31] .nil) Mixed (by kernel_rfl) <| dv rfl rfl (fd Fld39_0 rfl (bi 0 rfl rfl)) <| dv rfl rfl (ld One21 rfl (Pt.part 0 1 (bi 0 rfl rfl) rfl)) <| dv rfl rfl (cv rfl Try.underlying3 Try.underlying21) <| dv rfl rfl (fd Fld59_0 rfl (bi 1 rfl rfl)) <| dv rfl rfl (ld One57 rfl (Pt.part 0 1 (bi 1 rfl rfl) rfl)) <| dn 1 rfl <| bs hk fun y317 e318 hk => ?_
 obtain ⟨i319, j320, h321⟩ := idx_some e318
 obtain ⟨_, rfl, h316⟩ := (ph1.mono hle256).pt [] h321
 refine dv rfl rfl (ix Sl57 rfl rfl i319 (lt_of ph1.len j320) (Pt.ne h316)) <| dv rfl rfl (fd Fld105_0 rfl (Pt.any h316 _)) <| dv rfl rfl (ld One3 rfl (Pt.part 0 1 (Pt.any h316 _) rfl)) <| dn 2 rfl <| ?_
 rcases cs hk with ⟨e322, hk⟩ | ⟨e322, hk⟩
 · exact ktd 39 e322 rfl <| dn 21 rfl <| dd <| seX [1, 0] rfl <| asx (J314 _ _ _ ⟨y317.Rune, ((w64 y263.Rune) != y317.Rune), true, true, true, true, lr, hk, rfl, rfl⟩) rfl
 refine kfd 39 e322 rfl <| dv rfl rfl (fd Fld39_1 rfl (bi 0 rfl rfl)) <| dv rfl rfl (ld One3 rfl (Pt.part 1 1 (bi 0 rfl rfl) rfl)) <| dv rfl rfl (fd Fld59_0 rfl (bi 1 rfl rfl)) <| dv rfl rfl (ld One57 rfl (Pt.part 0 1 (bi 1 rfl rfl) rfl)) <| dn 1 rfl <| dv rfl rfl (ix Sl57 rfl rfl i319 (lt_of ph1.len j320) (Pt.ne h316)) <| dv rfl rfl (fd Fld105_1 rfl (Pt.any h316 _)) <| dv rfl rfl (ld One3 rfl (Pt.part 1 1 (Pt.any h316 _) rfl)) <| ?_
 refine dn 3 rfl <| ?_
 rcases cs hk with ⟨e323, hk⟩ | ⟨e323, hk⟩
 · exact ktd 50 e323 rfl <| dn 10 rfl <| dd <| seX [1, 0] rfl <| asx (J314 _ _ _ ⟨y317.Rune, ((w64 y263.Rune) != y317.Rune), false, (y263.Style != y317.Style), true, true, lr, hk, rfl, rfl⟩) rfl
 refine kfd 50 e323 rfl <| dv rfl rfl (fd Fld39_2 rfl (bi 0 rfl rfl)) <| dv rfl rfl (ld One3 rfl (Pt.part 2 1 (bi 0 rfl rfl) rfl)) <| dv rfl rfl (fd Fld59_0 rfl (bi 1 rfl rfl)) <| dv rfl rfl (ld One57 rfl (Pt.part 0 1 (bi 1 rfl rfl) rfl)) <| dn 1 rfl <| dv rfl rfl (ix Sl57 rfl rfl i319 (lt_of ph1.len j320) (Pt.ne h316)) <| dv rfl rfl (fd Fld105_2 rfl (Pt.any h316 _)) <| dv rfl rfl (ld One3 rfl (Pt.part 2 1 (Pt.any h316 _) rfl)) <| ?_
 refine dn 2 rfl <| dd <| seX [1, 0] rfl <| ?_
 exact asx (J314 _ _ _ ⟨y317.Rune, ((w64 y263.Rune) != y317.Rune), false, (y263.Style != y317.Style), false, (y263.Part != y317.Part), lr, hk, rfl, rfl⟩) rfl
theorem Ok51 : CallOk Try.prog 51 := ⟨_, Try.func51, by kernel_rfl, by kernel_rfl⟩
/-! 21 tidewrack/tidewracklaw10.Rows -/
def tidewracklaw10_Rows_l1 (x0 : List Row) : List Row → Int → Option (Bool)
  | [], p157 =>
  some true
  | y166 :: ys167, p157 =>
  (idx x0 p157).bind fun y172 => (tidewracklaw09_Is y172 y166).bind fun y186 => (bif (!y186) then some false else (tidewracklaw10_Rows_l1 x0 ys167 (p157 + 1)))
def tidewracklaw10_Rows (x0 : List Row) (x1 : List Row) : Option (Bool) :=
  (bif ((x0.length : Int) != (x1.length : Int)) then some false else (cap x1.length).bind fun y168 => tidewracklaw10_Rows_l1 x0 x1 0)
set_option maxRecDepth 20000 in
set_option maxHeartbeats 4000000 in
theorem tidewracklaw10_Rows_does {M : Mem} {x0 : List Row} {x1 : List Row} {pa0 : Option Addr} {pn0 pc0 : Nat} {pe0 : Ent} {pa1 : Option Addr} {pn1 pc1 : Nat} {pe1 : Ent} {r : Bool} (ph0 : RdE M E37 x0 pa0 pn0 pc0 pe0) (ph1 : RdE M E59 x1 pa1 pn1 pc1 pe1) (hk : tidewracklaw10_Rows x0 x1 = some r) :
    Does Try.prog 21 [.slice pa0 pn0 pc0, .slice pa1 pn1 pc1].toArray M [pe0, pe1] (fun v M' H' => v = .bool r ∧ H' = [pe0, pe1]) := by
 refine Does.of Try.func21 rfl rfl fun w0 => sq <| rg <| pn 1 rfl <| nx <| sq <| sq <| rg <| pn 1 rfl <| ?_
 refine va rfl (lf Try.underlying22 ph0.len rfl) <| pn 1 rfl <| va rfl (lf Try.underlying28 ph1.len rfl) <| pn 1 rfl <| nx <| ?_
 rcases cs hk with ⟨e101, hk⟩ | ⟨e101, hk⟩
 · refine cy rfl e101 <| sq <| rg <| pn 1 rfl <| nx <| rt <| tr <| ?_
   obtain rfl := si hk
   exact oR 2 rfl rfl ⟨rfl, rfl⟩
 refine cn rfl e101 <| sk <| xn <| sq <| sq <| rg <| pn 1 rfl <| va rfl (lf Try.underlying28 ph1.len rfl) <| pn 1 rfl <| ?_
 refine nx <| bk <| bs hk fun y168 e169 hk => Cd.loop <| ?_
 refine ls (l' := [(0, .slice pa0 pn0 pc0), (1, .slice pa1 pn1 pc1), (4, .bool false), (12, .int .i64 (x1.length : Int)), (13, .int .i64 0)]) rfl <| ?_
 refine Lp.lst (xs := x1) e169 (fun ys_ p157 M158 H' l' => Mem.le M M158 ∧ tidewracklaw10_Rows_l1 x0 ys_ p157 = some r ∧ l' = [(0, .slice pa0 pn0 pc0), (1, .slice pa1 pn1 pc1), (4, .bool false), (12, .int .i64 (x1.length : Int)), (13, .int .i64 p157)] ∧ H' = [pe0, pe1]) ?_ ?_ _ _ _ ⟨lr, hk, rfl, rfl⟩
 · rintro p157 e162 M158 H' l' ⟨hle159, hk, rfl, rfl⟩
   refine sq <| rg <| pn 1 rfl <| nx <| sq <| cn rfl e162 <| ex <| te <| te <| ?_
   refine xe <| xn <| sq <| rg <| pn 1 rfl <| nx <| rt <| ?_
   obtain rfl := si hk
   exact oR 2 rfl rfl ⟨rfl, rfl⟩
 rintro y166 ys167 p157 e162 i163 j164 h165 w161 ih160 M158 H' l' ⟨hle159, hk, rfl, rfl⟩
 refine sq <| rg <| pn 1 rfl <| nx <| sq <| cy rfl e162 <| sk <| xn <| sq <| ?_
 refine bk <| sq <| rg <| pn 2 rfl <| nx <| sq <| ?_
 refine dw [0, 1] rfl (.tk [0, 1, 2, 3, 4, 5, 6, 7] (.one 8 (.tk [9] .nil))) Mixed (by kernel_rfl) <| dn 2 rfl <| bs hk fun y172 e173 hk => ?_
 obtain ⟨i174, j175, h176⟩ := idx_some e173
 obtain ⟨_, ⟨a177, n178, c179, rfl, h180⟩, h171⟩ := (ph0.mono hle159).el h176
 refine dv rfl rfl (ix Sl22 rfl rfl i174 (lt_of ph0.len j175) h171.ne) <| dv rfl rfl (lN Rowy37 Sz37 rfl (h171.pt 0 rfl) rfl) <| dn 2 rfl <| ?_
 obtain ⟨_, ⟨a182, n183, c184, rfl, h185⟩, h181⟩ := (ph1.mono hle159).el h165
 refine dv rfl rfl (ix Sl28 rfl rfl i163 (lt_of ph1.len j164) h181.ne) <| dv rfl rfl (lN Rowy59 Sz59 rfl (h181.pt 1 rfl) rfl) <| da rfl <| bs hk fun y186 e187 hk => caq rfl Ok51 (tidewracklaw09_Is_does h180 h185 e187) rfl rfl <| db [0, 1] lr rfl <| dn 1 rfl <| dd <| xn <| ?_
 rcases cs hk with ⟨e190, hk⟩ | ⟨e190, hk⟩
 · refine cy rfl e190 <| sq <| rg <| pn 1 rfl <| nx <| rt <| xr <| tr <| tr <| ?_
   refine xr <| tr <| ?_
   obtain rfl := si hk
   exact oR 2 rfl rfl ⟨rfl, rfl⟩
 refine cn rfl e190 <| sk <| xb <| xn <| rg <| pn 2 rfl <| on <| sx 13 w161 rfl <| ?_
 exact asx (ih160 _ _ _ ⟨hle159, hk, rfl, rfl⟩) rfl
theorem Ok21 : CallOk Try.prog 21 := ⟨_, Try.func21, by kernel_rfl, by kernel_rfl⟩
theorem Fld32_9 : Fld Try.prog 32 9 9 0 := ⟨_, _, Try.underlying32, rfl, rfl, by kernel_rfl⟩
theorem One30 : One Try.prog 30 := ⟨_, Try.underlying30, rfl⟩
theorem Sl29 : Sl Try.prog 29 103 2 := ⟨Try.underlying29, by kernel_rfl⟩
theorem Fld103_0 : Fld Try.prog 103 0 0 0 := ⟨_, _, Try.underlying103, rfl, rfl, by kernel_rfl⟩
theorem Fld103_1 : Fld Try.prog 103 1 1 0 := ⟨_, _, Try.underlying103, rfl, rfl, by kernel_rfl⟩
/-! 22 tidewrack/tidewracklaw09.Glyphs -/
def tidewracklaw09_Glyphs_j2 (rec236 : Option (Bool)) (p270 : Int) (p271 : Bool) (p272 : Bool) (p273 : Bool) : Option (Bool) :=
  (bif p273 then some false else (rec236))
def tidewracklaw09_Glyphs_l1 (x1 : List Glyph) : List Glyph → Int → Option (Bool)
  | [], p223 =>
  some true
  | y232 :: ys233, p223 =>
  (idx x1 p223).bind fun y279 => (bif ((w64 y232.Rune) != y279.Rune) then tidewracklaw09_Glyphs_j2 (tidewracklaw09_Glyphs_l1 x1 ys233 (p223 + 1)) y279.Rune ((w64 y232.Rune) != y279.Rune) true true else tidewracklaw09_Glyphs_j2 (tidewracklaw09_Glyphs_l1 x1 ys233 (p223 + 1)) y279.Rune ((w64 y232.Rune) != y279.Rune) false (y232.Style != y279.Style))
def tidewracklaw09_Glyphs (x0 : List Glyph) (x1 : List Glyph) : Option (Bool) :=
  (bif ((x0.length : Int) != (x1.length : Int)) then some false else (cap x0.length).bind fun y234 => tidewracklaw09_Glyphs_l1 x1 x0 0)
set_option maxRecDepth 20000 in
set_option maxHeartbeats 4000000 in
theorem tidewracklaw09_Glyphs_does {M : Mem} {x0 : List Glyph} {x1 : List Glyph} {pa0 : Option Addr} {pn0 pc0 : Nat} {pe0 : Ent} {pa1 : Option Addr} {pn1 pc1 : Nat} {pe1 : Ent} {r : Bool} (ph0 : RdE M E41 x0 pa0 pn0 pc0 pe0) (ph1 : RdE M E103 x1 pa1 pn1 pc1 pe1) (hk : tidewracklaw09_Glyphs x0 x1 = some r) :
    Does Try.prog 22 [.slice pa0 pn0 pc0, .slice pa1 pn1 pc1].toArray M [pe0, pe1] (fun v M' H' => v = .bool r ∧ H' = [pe0, pe1]) := by
 refine Does.of Try.func22 rfl rfl fun w0 => sq <| rg <| pn 1 rfl <| nx <| sq <| sq <| rg <| pn 1 rfl <| ?_
 refine va rfl (lf Try.underlying23 ph0.len rfl) <| pn 1 rfl <| va rfl (lf Try.underlying29 ph1.len rfl) <| pn 1 rfl <| nx <| ?_
 rcases cs hk with ⟨e101, hk⟩ | ⟨e101, hk⟩
 · refine cy rfl e101 <| sq <| rg <| pn 1 rfl <| nx <| rt <| tr <| ?_
   obtain rfl := si hk
   exact oR 2 rfl rfl ⟨rfl, rfl⟩
 refine cn rfl e101 <| sk <| xn <| sq <| sq <| rg <| pn 1 rfl <| va rfl (lf Try.underlying23 ph0.len rfl) <| pn 1 rfl <| ?_
 refine nx <| bk <| bs hk fun y234 e235 hk => Cd.loop <| ?_
 refine seL [1, 0] rfl <| ls (l' := [(1, .slice pa1 pn1 pc1), (4, .bool false), (12, .slice pa0 pn0 pc0), (13, .int .i64 (x0.length : Int)), (14, .int .i64 0)]) rfl <| ?_
 refine Lp.lst (xs := x0) e235 (fun ys_ p223 M224 H' l' => Mem.le M M224 ∧ tidewracklaw09_Glyphs_l1 x1 ys_ p223 = some r ∧ l' = [(1, .slice pa1 pn1 pc1), (4, .bool false), (12, .slice pa0 pn0 pc0), (13, .int .i64 (x0.length : Int)), (14, .int .i64 p223)] ∧ H' = [pe1, pe0]) ?_ ?_ _ _ _ ⟨lr, hk, rfl, rfl⟩
 · rintro p223 e228 M224 H' l' ⟨hle225, hk, rfl, rfl⟩
   refine sq <| rg <| pn 1 rfl <| nx <| sq <| cn rfl e228 <| ex <| te <| te <| ?_
   refine xe <| xn <| sq <| rg <| pn 1 rfl <| nx <| rt <| ?_
   obtain rfl := si hk
   exact seX [1, 0] rfl <| oR 2 rfl rfl ⟨rfl, rfl⟩
 rintro y232 ys233 p223 e228 i229 j230 h231 w227 ih226 M224 H' l' ⟨hle225, hk, rfl, rfl⟩
 refine sq <| rg <| pn 1 rfl <| nx <| sq <| cy rfl e228 <| sk <| xn <| sq <| ?_
 refine bk <| sq <| rg <| pn 1 rfl <| ?_
 have ph0 := ph0.mono hle225
 obtain ⟨_, rfl, h261⟩ := ph0.el h231
 refine va rfl (ix Sl23 rfl rfl i229 (lt_of ph0.len j230) h261.ne) <| va rfl (lN Rowy41 Sz41 rfl (h261.pt 1 rfl) rfl) <| al rfl Zr41 fun b262 => pn 1 rfl <| sr 0 rfl Sz41 rfl rfl rfl rfl rfl <| nx <| ?_
 refine Cd.join (fun M274 H' l' => ∃ p270 p271 p272 p273, Mem.le M224 M274 ∧ tidewracklaw09_Glyphs_j2 (tidewracklaw09_Glyphs_l1 x1 ys233 (p223 + 1)) p270 p271 p272 p273 = some r ∧ l' = [(1, .slice pa1 pn1 pc1), (4, .bool false), (5, .int .i64 p223), (6, .pointer (some ⟨b262, 0, none⟩)), (12, .slice pa0 pn0 pc0), (13, .int .i64 (x0.length : Int)), (14, .int .i64 p223), (15, .bool (decide (p223 < (x0.length : Int)))), (16, .int .i64 p223), (18, .agg #[.int .i32 y232.Rune, .int .i64 y232.Style]), (19, .pointer (some ⟨b262, 0, none⟩)), (20, .int .i32 y232.Rune), (21, .int .i64 (w64 y232.Rune)), (22, .slice pa1 pn1 pc1), (23, .int .i64 p223), (26, .int .i64 p270), (27, .bool p271), (28, .bool p272), (37, .bool p273)] ∧ H' = [pe1, pe0, some (b262, .cells #[.int .i32 y232.Rune, .int .i64 y232.Style] 41 (0, 0))]) ?_ ?_
 · rintro M274 H' l' ⟨p270, p271, p272, p273, hle275, hk, rfl, rfl⟩
   rcases cs hk with ⟨e277, hk⟩ | ⟨e277, hk⟩
   · refine cy rfl e277 <| sq <| rg <| pn 1 rfl <| nx <| rt <| xr <| tr <| tr <| ?_
     refine xr <| tr <| ?_
     obtain rfl := si hk
     exact seX [1, 0] rfl <| oR 2 rfl rfl ⟨rfl, rfl⟩
   refine cn rfl e277 <| sk <| xb <| xn <| rg <| pn 2 rfl <| on <| sx 14 w227 rfl <| seX [0, 1] rfl <| ?_
   exact asx (ih226 _ _ _ ⟨(hle225.t hle275), hk, rfl, rfl⟩) rfl
 intro J276
 refine dw [0, 1, 2] rfl (.tk [0, 1, 2, 3, 4, 5, 6, 7, 8, 9, 10, 11, 12, 13, 14, 15, 16, 17, 18] .nil) Mixed (by kernel_rfl) <| dv rfl rfl (fd Fld41_0 rfl (bi 0 rfl rfl)) <| dv rfl rfl (ld One21 rfl (Pt.part 0 1 (bi 0 rfl rfl) rfl)) <| dv rfl rfl (cv rfl Try.underlying3 Try.underlying21) <| dn 2 rfl <| bs hk fun y279 e280 hk => ?_
 obtain ⟨i281, j282, h283⟩ := idx_some e280
 obtain ⟨_, rfl, h278⟩ := (ph1.mono hle225).el h283
 refine dv rfl rfl (ix Sl29 rfl rfl i281 (lt_of ph1.len j282) h278.ne) <| dv rfl rfl (fd Fld103_0 rfl (h278.pt 1 rfl)) <| dv rfl rfl (ld One3 rfl (Pt.part 0 1 (h278.pt 1 rfl) rfl)) <| dn 2 rfl <| ?_
 rcases cs hk with ⟨e284, hk⟩ | ⟨e284, hk⟩
 · exact ktd 28 e284 rfl <| dn 9 rfl <| dd <| seX [1, 2, 0] rfl <| asx (J276 _ _ _ ⟨y279.Rune, ((w64 y232.Rune) != y279.Rune), true, true, lr, hk, rfl, rfl⟩) rfl
 refine kfd 28 e284 rfl <| dv rfl rfl (fd Fld41_1 rfl (bi 0 rfl rfl)) <| dv rfl rfl (ld One3 rfl (Pt.part 1 1 (bi 0 rfl rfl) rfl)) <| dn 2 rfl <| dv rfl rfl (ix Sl29 rfl rfl i281 (lt_of ph1.len j282) h278.ne) <| dv rfl rfl (fd Fld103_1 rfl (h278.pt 1 rfl)) <| dv rfl rfl (ld One3 rfl (Pt.part 1 1 (h278.pt 1 rfl) rfl)) <| dn 2 rfl <| dd <| ?_
 refine seX [1, 2, 0] rfl <| ?_
 exact asx (J276 _ _ _ ⟨y279.Rune, ((w64 y232.Rune) != y279.Rune), false, (y232.Style != y279.Style), lr, hk, rfl, rfl⟩) rfl
theorem Ok22 : CallOk Try.prog 22 := ⟨_, Try.func22, by kernel_rfl, by kernel_rfl⟩
/-! 8 tidewrack/tidewracklaw16.Is -/
def tidewracklaw16_Is_j1  (p142 : Bool) : Option (Bool) :=
  some p142
def tidewracklaw16_Is (x0 : Snap) (x1 : Snap) : Option (Bool) :=
  (bif ((((((((x0.K == x1.K) && (x0.W == x1.W)) && (x0.H == x1.H)) && (x0.X == x1.X)) && (x0.Y == x1.Y)) && (seq x0.Title x1.Title)) && (x0.Len == x1.Len)) && (x0.Chain == x1.Chain)) then (tidewracklaw10_Rows x0.Rows x1.Rows).bind fun y172 => (bif y172 then (tidewracklaw09_Glyphs x0.Begun x1.Begun).bind fun y181 => tidewracklaw16_Is_j1 y181 else tidewracklaw16_Is_j1 false) else tidewracklaw16_Is_j1 false)
set_option maxRecDepth 20000 in
set_option maxHeartbeats 4000000 in
theorem tidewracklaw16_Is_does {M : Mem} {x0 : Snap} {x1 : Snap} {pa0 : Option Addr} {pn0 pc0 : Nat} {pe0 : Ent} {pa1 : Option Addr} {pn1 pc1 : Nat} {pe1 : Ent} {pa2 : Option Addr} {pn2 pc2 : Nat} {pe2 : Ent} {pa3 : Option Addr} {pn3 pc3 : Nat} {pe3 : Ent} {r : Bool} (ph0 : RdE M E37 x0.Rows pa0 pn0 pc0 pe0) (ph1 : RdE M E41 x0.Begun pa1 pn1 pc1 pe1) (ph2 : RdE M E59 x1.Rows pa2 pn2 pc2 pe2) (ph3 : RdE M E103 x1.Begun pa3 pn3 pc3 pe3) (hk : tidewracklaw16_Is x0 x1 = some r) :
    Does Try.prog 8 [.agg #[.int .i64 x0.K, .int .i64 x0.W, .int .i64 x0.H, .int .i64 x0.X, .int .i64 x0.Y, .string x0.Title, .slice pa0 pn0 pc0, .int .i64 x0.Len, .int .i64 x0.Chain, .slice pa1 pn1 pc1], .agg #[.int .i64 x1.K, .int .i64 x1.W, .int .i64 x1.H, .int .i64 x1.X, .int .i64 x1.Y, .string x1.Title, .slice pa2 pn2 pc2, .int .i64 x1.Len, .int .i64 x1.Chain, .slice pa3 pn3 pc3]].toArray M [pe0, pe1, pe2, pe3] (fun v M' H' => v = .bool r ∧ H' = [pe0, pe1, pe2, pe3]) := by
 refine Does.of Try.func8 rfl rfl fun w0 => sq <| rg <| bx rfl rfl fun b101 => bx rfl rfl fun b102 => pn 1 rfl <| nx <| ?_
 refine Cd.join (fun M143 H' l' => ∃ p142, Mem.le M M143 ∧ tidewracklaw16_Is_j1 p142 = some r ∧ l' = [(4, .bool p142)] ∧ H' = [pe0, pe1, pe2, pe3]) ?_ ?_
 · rintro M143 H' l' ⟨p142, hle144, hk, rfl, rfl⟩
   refine rt <| ?_
   obtain rfl := si hk
   exact oR 4 rfl rfl ⟨rfl, rfl⟩
 intro J145
 refine rg <| va rfl (fd Fld25_0 rfl (bi 1 rfl rfl)) <| va rfl (ld One3 rfl (Pt.part 0 1 (bi 1 rfl rfl) rfl)) <| va rfl (fd Fld32_0 rfl (bi 0 rfl rfl)) <| va rfl (ld One3 rfl (Pt.part 0 1 (bi 0 rfl rfl) rfl)) <| pn 2 rfl <| jA 16 6 rfl (x0.W == x1.W) (fun J147 e146 => ?_) ?_
 · rcases cs e146 with ⟨e148, e146⟩ | ⟨e148, e146⟩
   · refine kt 10 e148 rfl <| va rfl (fd Fld25_1 rfl (bi 1 rfl rfl)) <| va rfl (ld One3 rfl (Pt.part 1 1 (bi 1 rfl rfl) rfl)) <| va rfl (fd Fld32_1 rfl (bi 0 rfl rfl)) <| va rfl (ld One3 rfl (Pt.part 1 1 (bi 0 rfl rfl) rfl)) <| pn 2 rfl <| ?_
     exact ji 7 J147 rfl rfl rfl e146
   exact kf 10 e148 rfl <| pn 6 rfl <| ji 7 J147 rfl rfl rfl e146
 refine pn 1 rfl <| jA 23 6 rfl (x0.H == x1.H) (fun J150 e149 => ?_) ?_
 · rcases cs e149 with ⟨e151, e149⟩ | ⟨e151, e149⟩
   · refine kt 17 e151 rfl <| va rfl (fd Fld25_2 rfl (bi 1 rfl rfl)) <| va rfl (ld One3 rfl (Pt.part 2 1 (bi 1 rfl rfl) rfl)) <| va rfl (fd Fld32_2 rfl (bi 0 rfl rfl)) <| va rfl (ld One3 rfl (Pt.part 2 1 (bi 0 rfl rfl) rfl)) <| pn 2 rfl <| ?_
     exact ji 7 J150 rfl rfl rfl e149
   exact kf 17 e151 rfl <| pn 6 rfl <| ji 7 J150 rfl rfl rfl e149
 refine pn 1 rfl <| jA 30 6 rfl (x0.X == x1.X) (fun J153 e152 => ?_) ?_
 · rcases cs e152 with ⟨e154, e152⟩ | ⟨e154, e152⟩
   · refine kt 24 e154 rfl <| va rfl (fd Fld25_3 rfl (bi 1 rfl rfl)) <| va rfl (ld One3 rfl (Pt.part 3 1 (bi 1 rfl rfl) rfl)) <| va rfl (fd Fld32_3 rfl (bi 0 rfl rfl)) <| va rfl (ld One3 rfl (Pt.part 3 1 (bi 0 rfl rfl) rfl)) <| pn 2 rfl <| ?_
     exact ji 7 J153 rfl rfl rfl e152
   exact kf 24 e154 rfl <| pn 6 rfl <| ji 7 J153 rfl rfl rfl e152
 refine pn 1 rfl <| jA 37 6 rfl (x0.Y == x1.Y) (fun J156 e155 => ?_) ?_
 · rcases cs e155 with ⟨e157, e155⟩ | ⟨e157, e155⟩
   · refine kt 31 e157 rfl <| va rfl (fd Fld25_4 rfl (bi 1 rfl rfl)) <| va rfl (ld One3 rfl (Pt.part 4 1 (bi 1 rfl rfl) rfl)) <| va rfl (fd Fld32_4 rfl (bi 0 rfl rfl)) <| va rfl (ld One3 rfl (Pt.part 4 1 (bi 0 rfl rfl) rfl)) <| pn 2 rfl <| ?_
     exact ji 7 J156 rfl rfl rfl e155
   exact kf 31 e157 rfl <| pn 6 rfl <| ji 7 J156 rfl rfl rfl e155
 refine pn 1 rfl <| jA 44 6 rfl (seq x0.Title x1.Title) (fun J159 e158 => ?_) ?_
 · rcases cs e158 with ⟨e160, e158⟩ | ⟨e160, e158⟩
   · refine kt 38 e160 rfl <| va rfl (fd Fld25_5 rfl (bi 1 rfl rfl)) <| va rfl (ld One9 rfl (Pt.part 5 1 (bi 1 rfl rfl) rfl)) <| va rfl (fd Fld32_5 rfl (bi 0 rfl rfl)) <| va rfl (ld One9 rfl (Pt.part 5 1 (bi 0 rfl rfl) rfl)) <| va rfl (run_seql rfl rfl rfl) <| pn 1 rfl <| ?_
     exact ji 7 J159 rfl rfl rfl e158
   exact kf 38 e160 rfl <| pn 6 rfl <| ji 7 J159 rfl rfl rfl e158
 refine pn 1 rfl <| jA 51 6 rfl (x0.Len == x1.Len) (fun J162 e161 => ?_) ?_
 · rcases cs e161 with ⟨e163, e161⟩ | ⟨e163, e161⟩
   · refine kt 45 e163 rfl <| va rfl (fd Fld25_7 rfl (bi 1 rfl rfl)) <| va rfl (ld One3 rfl (Pt.part 7 1 (bi 1 rfl rfl) rfl)) <| va rfl (fd Fld32_7 rfl (bi 0 rfl rfl)) <| va rfl (ld One3 rfl (Pt.part 7 1 (bi 0 rfl rfl) rfl)) <| pn 2 rfl <| ?_
     exact ji 7 J162 rfl rfl rfl e161
   exact kf 45 e163 rfl <| pn 6 rfl <| ji 7 J162 rfl rfl rfl e161
 refine pn 1 rfl <| jA 58 6 rfl (x0.Chain == x1.Chain) (fun J165 e164 => ?_) ?_
 · rcases cs e164 with ⟨e166, e164⟩ | ⟨e166, e164⟩
   · refine kt 52 e166 rfl <| va rfl (fd Fld25_8 rfl (bi 1 rfl rfl)) <| va rfl (ld One3 rfl (Pt.part 8 1 (bi 1 rfl rfl) rfl)) <| va rfl (fd Fld32_8 rfl (bi 0 rfl rfl)) <| va rfl (ld One3 rfl (Pt.part 8 1 (bi 0 rfl rfl) rfl)) <| pn 2 rfl <| ?_
     exact ji 7 J165 rfl rfl rfl e164
   exact kf 52 e166 rfl <| pn 6 rfl <| ji 7 J165 rfl rfl rfl e164
 refine pn 1 rfl <| ?_
 rcases cs hk with ⟨e171, hk⟩ | ⟨e171, hk⟩
 · refine kt 59 e171 rfl <| va rfl (fd Fld25_6 rfl (bi 1 rfl rfl)) <| va rfl (ld One22 rfl (Pt.part 6 1 (bi 1 rfl rfl) rfl)) <| va rfl (fd Fld32_6 rfl (bi 0 rfl rfl)) <| va rfl (ld One28 rfl (Pt.part 6 1 (bi 0 rfl rfl) rfl)) <| se [2, 4, 0, 1, 3, 5] rfl <| bs hk fun y172 e173 hk => caq rfl Ok21 (tidewracklaw10_Rows_does (ph0.rde) (ph2.rde) e173) rfl rfl <| pn 2 rfl <| ?_
   rcases cs hk with ⟨e180, hk⟩ | ⟨e180, hk⟩
   · refine kt 66 e180 rfl <| va rfl (fd Fld25_9 rfl (bi 3 rfl rfl)) <| va rfl (ld One23 rfl (Pt.part 9 1 (bi 3 rfl rfl) rfl)) <| va rfl (fd Fld32_9 rfl (bi 2 rfl rfl)) <| va rfl (ld One30 rfl (Pt.part 9 1 (bi 2 rfl rfl) rfl)) <| se [4, 5, 0, 1, 2, 3] rfl <| bs hk fun y181 e182 hk => caq rfl Ok22 (tidewracklaw09_Glyphs_does (ph1.rde) (ph3.rde) e182) rfl rfl <| pn 2 rfl <| ?_
     refine on <| seX [2, 0, 3, 1] rfl <| ?_
     exact asx (J145 _ _ _ ⟨y181, lr, hk, rfl, rfl⟩) rfl
   exact kf 66 e180 rfl <| pn 7 rfl <| on <| seX [0, 4, 1, 5] rfl <| asx (J145 _ _ _ ⟨false, lr, hk, rfl, rfl⟩) rfl
 exact kf 59 e171 rfl <| pn 14 rfl <| on <| seX [2, 3, 4, 5] rfl <| asx (J145 _ _ _ ⟨false, lr, hk, rfl, rfl⟩) rfl
theorem Ok8 : CallOk Try.prog 8 := ⟨_, Try.func8, by kernel_rfl, by kernel_rfl⟩
/-! 3 tidewrack/tidewracklaw16.SnapClones -/
def tidewracklaw16_SnapClones_l2 (y136 : Snap) (y107 : Snap) (y121 : Snap) : Nat → Int → (List Glyph) → Option (Bool)
  | 0, p337, p331 =>
  (cap (y136.Rows.length + ([(⟨([] : List Cell), false⟩ : Row)] : List Row).length)).bind fun y353 => (tidewracklaw16_Is y107 y121).bind fun y360 => some y360
  | k347 + 1, p337, p331 =>
  (idx p331 p337).bind fun y365 => (tidewracklaw16_SnapClones_l2 y136 y107 y121 k347 (p337 + 1) (p331.set p337.toNat (⟨(IntKind.i32.wrap (y365.Rune + 1)), y365.Style⟩ : Glyph)))
def tidewracklaw16_SnapClones_l3 (rec303 : Option (Bool)) (y136 : Snap) (p290 : Int) : Nat → Int → Option (Bool)
  | 0, p404 =>
  (rec303)
  | k414 + 1, p404 =>
  (idx y136.Rows p290).bind fun y419 => (idx y419.Cells p404).bind fun y429 => (tidewracklaw16_SnapClones_l3 rec303 y136 p290 k414 (p404 + 1))
def tidewracklaw16_SnapClones_l1 (y136 : Snap) (y107 : Snap) (y121 : Snap) : List Row → Int → Option (Bool)
  | [], p290 =>
  (need (decide ((y136.Begun.length : Int) ≤ 4294967296))).bind fun y348 => tidewracklaw16_SnapClones_l2 y136 y107 y121 (y136.Begun.length : Int).toNat 0 y136.Begun
  | y299 :: ys300, p290 =>
  (need (decide ((y299.Cells.length : Int) ≤ 4294967296))).bind fun y415 => tidewracklaw16_SnapClones_l3 (tidewracklaw16_SnapClones_l1 y136 y107 y121 ys300 (p290 + 1)) y136 p290 (y299.Cells.length : Int).toNat 0
def tidewracklaw16_SnapClones (x0 : Snap) (x1 : Int) : Option (Bool) :=
  tidewracklaw16_awake.bind fun y102 => (bif (!y102) then some false else (tidewracklaw16_Cut x0).bind fun y107 => (tidewracklaw16_Told y107).bind fun y121 => (snap_Snap_Clone y107).bind fun y136 => (cap y136.Rows.length).bind fun y301 => tidewracklaw16_SnapClones_l1 y136 y107 y121 y136.Rows 0)

end Go.Proofs.Ytjbfolnnepjidaa.Tw
