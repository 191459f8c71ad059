/-
  Written by gen3.py for this claim: plain functions and walks (part 1).
-/
import Derived.Test.YtjbfolnnepjidaaWin
import Derived.Test.YtjbfolnnepjidaaProg
set_option linter.unusedVariables false
namespace Go.Proofs.Ytjbfolnnepjidaa.Tw
open Go

structure Cell where
  Rune : Int
  Style : Int
  Part : Int

structure Row where
  Cells : List Cell
  Wrapped : Bool

structure Glyph where
  Rune : Int
  Style : Int

structure Snap where
  K : Int
  W : Int
  H : Int
  X : Int
  Y : Int
  Title : ByteArray
  Rows : List Row
  Len : Int
  Chain : Int
  Begun : List Glyph

structure grid_Grid where
  w : Int
  l : List Row

structure Style where
  Fore : Int
  Back : Int
  Bold : Bool
  Under : Bool
  Inverse : Bool

structure screen_spot where
  x : Int
  y : Int
  style : Style

structure screen_Screen where
  g : grid_Grid
  spot : screen_spot
  saved : screen_spot
  waiting : Bool
  top : Int
  bottom : Int
  wraps : Bool
  title : ByteArray

structure book_Book where
  l : List (List Glyph)
  chains : List Int
  begun : List Glyph

structure num_Out where
  b : List Int

structure num_In where
  s : ByteArray
  e : Int

theorem Mixed : Try.prog.follows .mixedOrders = true := by kernel_rfl
def E39 : Enc Cell where
  n := 3
  rep := fun M x es => es = [.int .i32 x.Rune, .int .i64 x.Style, .int .i64 x.Part]
  len := fun h => by subst h; rfl
  mono := fun hm h => by exact h
  cell := fun h v hv => by subst h; simp at hv; rcases hv with rfl | rfl | rfl <;> rfl
def E37 : Enc Row where
  n := 2
  rep := fun M x es => ∃ a0 n0 c0, es = [.slice a0 n0 c0, .bool x.Wrapped] ∧ SRep M E39 x.Cells a0 n0 c0
  len := fun h => by obtain ⟨a0, n0, c0, rfl, h0⟩ := h; rfl
  mono := fun hm h => by obtain ⟨a0, n0, c0, rfl, h0⟩ := h; exact ⟨a0, n0, c0, rfl, h0.mono hm⟩
  cell := fun h v hv => by obtain ⟨a0, n0, c0, rfl, h0⟩ := h; simp at hv; rcases hv with rfl | rfl <;> rfl
def E41 : Enc Glyph where
  n := 2
  rep := fun M x es => es = [.int .i32 x.Rune, .int .i64 x.Style]
  len := fun h => by subst h; rfl
  mono := fun hm h => by exact h
  cell := fun h v hv => by subst h; simp at hv; rcases hv with rfl | rfl <;> rfl
/-! 72 tidewrack/grid.clip -/
def grid_clip (x0 : Int) (x1 : Int) (x2 : Int) : Int :=
  (gmax x1 (gmin x0 x2))
set_option maxRecDepth 20000 in
set_option maxHeartbeats 4000000 in
theorem grid_clip_does {M : Mem} {x0 : Int} {x1 : Int} {x2 : Int}  {r : Int}  (hk : some (grid_clip x0 x1 x2) = some r) :
    Does Try.prog 72 [.int .i64 x0, .int .i64 x1, .int .i64 x2].toArray M [] (fun v M' H' => v = .int .i64 r ∧ H' = []) := by
 refine Does.of Try.func72 rfl rfl fun w0 => sq <| rg <| pn 1 rfl <| nx <| sq <| rg <| pn 3 rfl <| va rfl (mi rfl rfl) <| ?_
 refine va rfl (ma rfl rfl) <| pn 1 rfl <| nx <| rt <| ?_
 obtain rfl := si hk
 exact oR 0 rfl rfl ⟨rfl, rfl⟩
theorem Ok72 : CallOk Try.prog 72 := ⟨_, Try.func72, by kernel_rfl, by kernel_rfl⟩
/-! 52 tidewrack/grid.size -/
def grid_size (x0 : Int) : Int :=
  (grid_clip x0 1 1000)
set_option maxRecDepth 20000 in
set_option maxHeartbeats 4000000 in
theorem grid_size_does {M : Mem} {x0 : Int}  {r : Int}  (hk : some (grid_size x0) = some r) :
    Does Try.prog 52 [.int .i64 x0].toArray M [] (fun v M' H' => v = .int .i64 r ∧ H' = []) := by
 refine Does.of Try.func52 rfl rfl fun w0 => sq <| rg <| pn 1 rfl <| nx <| sq <| rg <| pn 1 rfl <| caq rfl Ok72 (grid_clip_does (tt (grid_clip x0 1 1000))) rfl rfl <| ?_
 refine pn 1 rfl <| nx <| rt <| ?_
 obtain rfl := si hk
 exact oR 0 rfl rfl ⟨rfl, rfl⟩
theorem Ok52 : CallOk Try.prog 52 := ⟨_, Try.func52, by kernel_rfl, by kernel_rfl⟩
theorem Bld108 : Bld Try.prog 108 (.agg #[(.int .i64 0), (.slice none 0 0)]) [(0, 1), (1, 1)] := ⟨_, Try.underlying108, by kernel_rfl, by kernel_rfl⟩
theorem Fld108_1 : Fld Try.prog 108 1 1 0 := ⟨_, _, Try.underlying108, rfl, rfl, by kernel_rfl⟩
theorem One22 : One Try.prog 22 := ⟨_, Try.underlying22, rfl⟩
theorem Fld108_0 : Fld Try.prog 108 0 0 0 := ⟨_, _, Try.underlying108, rfl, rfl, by kernel_rfl⟩
theorem One3 : One Try.prog 3 := ⟨_, Try.underlying3, rfl⟩
theorem Zr37 : Zr Try.prog 37 (.agg #[(.slice none 0 0), (.bool false)]) := ⟨by kernel_rfl⟩
/-! 74 tidewrack/row.clip -/
def row_clip (x0 : Int) (x1 : Int) (x2 : Int) : Int :=
  (gmax x1 (gmin x0 x2))
set_option maxRecDepth 20000 in
set_option maxHeartbeats 4000000 in
theorem row_clip_does {M : Mem} {x0 : Int} {x1 : Int} {x2 : Int}  {r : Int}  (hk : some (row_clip x0 x1 x2) = some r) :
    Does Try.prog 74 [.int .i64 x0, .int .i64 x1, .int .i64 x2].toArray M [] (fun v M' H' => v = .int .i64 r ∧ H' = []) := by
 refine Does.of Try.func74 rfl rfl fun w0 => sq <| rg <| pn 1 rfl <| nx <| sq <| rg <| pn 3 rfl <| va rfl (mi rfl rfl) <| ?_
 refine va rfl (ma rfl rfl) <| pn 1 rfl <| nx <| rt <| ?_
 obtain rfl := si hk
 exact oR 0 rfl rfl ⟨rfl, rfl⟩
theorem Ok74 : CallOk Try.prog 74 := ⟨_, Try.func74, by kernel_rfl, by kernel_rfl⟩
theorem Zr39 : Zr Try.prog 39 (.agg #[(.int .i32 0), (.int .i64 0), (.int .i64 0)]) := ⟨by kernel_rfl⟩
theorem Bld39 : Bld Try.prog 39 (.agg #[(.int .i32 0), (.int .i64 0), (.int .i64 0)]) [(0, 1), (1, 1), (2, 1)] := ⟨_, Try.underlying39, by kernel_rfl, by kernel_rfl⟩
theorem Sz39 : Sz Try.prog 39 3 := ⟨by kernel_rfl⟩
theorem Rowy39 : Rowy Try.prog 39 := ⟨_, Try.underlying39, rfl⟩
/-! 83 tidewrack/row.blank -/
def row_blank (x0 : Int) : Option (Cell) :=
  some (⟨32, x0, 0⟩ : Cell)
set_option maxRecDepth 20000 in
set_option maxHeartbeats 4000000 in
theorem row_blank_does {M : Mem} {x0 : Int}  {r : Cell}  (hk : row_blank x0 = some r) :
    Does Try.prog 83 [.int .i64 x0].toArray M [] (fun v M' H' => v = .agg #[.int .i32 r.Rune, .int .i64 r.Style, .int .i64 r.Part] ∧ H' = []) := by
 refine Does.of Try.func83 rfl rfl fun w0 => sq <| rg <| al rfl Zr39 fun b101 => nx <| sq <| rg <| pn 1 rfl <| va rfl (bd (cells := [.int .i32 32, .int .i64 x0, .int .i64 0]) Bld39 rfl) <| ?_
 refine sr 0 rfl Sz39 rfl rfl rfl rfl rfl <| nx <| rt <| ?_
 obtain rfl := si hk
 exact Ex.out 0 rfl (.inl rfl) rfl (rs := [_]) (vs := [_]) ⟨⟨_, rfl, .inr ⟨Rowy39, _, _, rfl, Sz39, (bi 0 rfl rfl), rfl⟩⟩, trivial⟩ rfl ⟨rfl, rfl⟩
theorem Ok83 : CallOk Try.prog 83 := ⟨_, Try.func83, by kernel_rfl, by kernel_rfl⟩
theorem Sl35 : Sl Try.prog 35 39 3 := ⟨Try.underlying35, by kernel_rfl⟩
theorem El39 : El Try.prog 39 3 24 (.agg #[(.int .i32 0), (.int .i64 0), (.int .i64 0)]) := ⟨by kernel_rfl, rfl⟩
/-! 87 math/bits.Mul64 -/
def bits_Mul64 (x0 : Int) (x1 : Int) : Option (Int × Int) :=
  some ((IntKind.u64.wrap ((IntKind.u64.wrap ((IntKind.u64.wrap ((gshr .u64 x0 32) * (gshr .u64 x1 32))) + (gshr .u64 (IntKind.u64.wrap ((IntKind.u64.wrap ((gshr .u64 x0 32) * (band .u64 x1 4294967295))) + (gshr .u64 (IntKind.u64.wrap ((band .u64 x0 4294967295) * (band .u64 x1 4294967295))) 32))) 32))) + (gshr .u64 (IntKind.u64.wrap ((band .u64 (IntKind.u64.wrap ((IntKind.u64.wrap ((gshr .u64 x0 32) * (band .u64 x1 4294967295))) + (gshr .u64 (IntKind.u64.wrap ((band .u64 x0 4294967295) * (band .u64 x1 4294967295))) 32))) 4294967295) + (IntKind.u64.wrap ((band .u64 x0 4294967295) * (gshr .u64 x1 32))))) 32))), (IntKind.u64.wrap (x0 * x1)))
set_option maxRecDepth 20000 in
set_option maxHeartbeats 4000000 in
theorem bits_Mul64_does {M : Mem} {x0 : Int} {x1 : Int}  {r : Int × Int}  (hk : bits_Mul64 x0 x1 = some r) :
    Does Try.prog 87 [.int .u64 x0, .int .u64 x1].toArray M [] (fun v M' H' => v = .tuple #[.int .u64 r.1, .int .u64 r.2] ∧ H' = []) := by
 refine Does.of Try.func87 rfl rfl fun w0 => sq <| rg <| pn 2 rfl <| nx <| sq <| rg <| pn 3 rfl <| nx <| ?_
 refine sq <| rg <| pn 1 rfl <| va rfl (run_shr rfl rfl rfl (by decide)) <| pn 1 rfl <| nx <| sq <| rg <| pn 3 rfl <| ?_
 refine nx <| sq <| rg <| pn 1 rfl <| va rfl (run_shr rfl rfl rfl (by decide)) <| pn 1 rfl <| nx <| sq <| rg <| ?_
 refine pn 4 rfl <| nx <| sq <| rg <| pn 4 rfl <| va rfl (run_shr rfl rfl rfl (by decide)) <| pn 2 rfl <| nx <| sq <| ?_
 refine rg <| pn 3 rfl <| nx <| sq <| rg <| pn 1 rfl <| va rfl (run_shr rfl rfl rfl (by decide)) <| pn 1 rfl <| nx <| ?_
 refine sq <| rg <| pn 6 rfl <| nx <| sq <| rg <| pn 6 rfl <| va rfl (run_shr rfl rfl rfl (by decide)) <| pn 2 rfl <| ?_
 refine nx <| sq <| rg <| pn 4 rfl <| nx <| rt <| ?_
 obtain rfl := si hk
 exact oR 0 rfl rfl ⟨rfl, rfl⟩
theorem Ok87 : CallOk Try.prog 87 := ⟨_, Try.func87, by kernel_rfl, by kernel_rfl⟩
/-! 82 math/bits.Mul -/
def bits_Mul (x0 : Int) (x1 : Int) : Option (Int × Int) :=
  (bits_Mul64 x0 x1).bind fun y101 => some (y101.1, y101.2)
set_option maxRecDepth 20000 in
set_option maxHeartbeats 4000000 in
theorem bits_Mul_does {M : Mem} {x0 : Int} {x1 : Int}  {r : Int × Int}  (hk : bits_Mul x0 x1 = some r) :
    Does Try.prog 82 [.int .u64 x0, .int .u64 x1].toArray M [] (fun v M' H' => v = .tuple #[.int .u64 r.1, .int .u64 r.2] ∧ H' = []) := by
 refine Does.of Try.func82 rfl rfl fun w0 => sq <| rg <| pn 2 rfl <| nx <| sq <| cn rfl rfl <| sk <| xn <| ?_
 refine sq <| rg <| pn 2 rfl <| bs hk fun y101 e102 hk => caq rfl Ok87 (bits_Mul64_does e102) rfl rfl <| pn 5 rfl <| nx <| sq <| rg <| ?_
 refine pn 4 rfl <| nx <| rt <| ?_
 obtain rfl := si hk
 exact oR 0 rfl rfl ⟨rfl, rfl⟩
theorem Ok82 : CallOk Try.prog 82 := ⟨_, Try.func82, by kernel_rfl, by kernel_rfl⟩
/-! 70 slices.Repeat[[]tidewrack/row.Cell,tidewrack/row.Cell] -/
def slices_Repeat_row_Cell_l1  : Nat → (List Cell) → Int → Option (List Cell)
  | 0, _, _ => none
  | k + 1, p206, p212 =>
  (bif (decide (p212 < (p206.length : Int))) then (lcut p206 p212 (p206.length : Int)).bind fun y233 => (lcut p206 0 p212).bind fun y240 => (slices_Repeat_row_Cell_l1 k (splice p206 p212.toNat ((p206.length : Int).toNat - p212.toNat) (wnd p206 0 p212.toNat)) (w64 (p212 + ((min (wnd p206 0 p212.toNat).length ((p206.length : Int).toNat - p212.toNat) : Nat) : Int)))) else some p206)
def slices_Repeat_row_Cell (x0 : List Cell) (x1 : Int) : Option (List Cell) :=
  (bif (decide (x1 < 0)) then none else (bits_Mul (IntKind.u64.wrap (x0.length : Int)) (IntKind.u64.wrap x1)).bind fun y108 => (bif ((decide (y108.1 > 0)) || (decide (y108.2 > 9223372036854775807))) then none else (need (decide (0 ≤ (w64 y108.2) ∧ (w64 y108.2) ≤ 4294967296))).bind fun y126 => slices_Repeat_row_Cell_l1 4294967296 (splice (List.replicate (w64 y108.2).toNat (⟨0, 0, 0⟩ : Cell)) 0 (List.replicate (w64 y108.2).toNat (⟨0, 0, 0⟩ : Cell)).length x0) ((min x0.length (List.replicate (w64 y108.2).toNat (⟨0, 0, 0⟩ : Cell)).length : Nat) : Int)))
set_option maxRecDepth 20000 in
set_option maxHeartbeats 4000000 in
theorem slices_Repeat_row_Cell_does {M : Mem} {x0 : List Cell} {x1 : Int} {pa0 : Option Addr} {pn0 pc0 : Nat} {pe0 : Ent} {r : List Cell} (ph0 : RdE M E39 x0 pa0 pn0 pc0 pe0) (hk : slices_Repeat_row_Cell x0 x1 = some r) :
    Does Try.prog 70 [.slice pa0 pn0 pc0, .int .i64 x1].toArray M [pe0] (fun v M' H' => ∃ a101 n102 c103 e105, v = .slice a101 n102 c103 ∧ OSl M' E39 r a101 n102 c103 39 e105 ∧ H' = [pe0, e105]) := by
 refine Does.of Try.func70 rfl rfl fun w0 => sq <| rg <| pn 1 rfl <| nx <| sq <| sq <| rg <| pn 2 rfl <| ?_
 refine nx <| ?_
 rcases cs hk with ⟨e107, hk⟩ | ⟨e107, hk⟩
 · refine cy rfl e107 <| ?_
   cases hk
 refine cn rfl e107 <| sk <| xn <| sq <| rg <| pn 1 rfl <| va rfl (lf Try.underlying35 ph0.len rfl) <| va rfl (cv rfl Try.underlying139 Try.underlying3) <| pn 1 rfl <| va rfl (cv rfl Try.underlying139 Try.underlying3) <| bs hk fun y108 e109 hk => caq rfl Ok82 (bits_Mul_does e109) rfl rfl <| pn 5 rfl <| nx <| sq <| sq <| rg <| pn 3 rfl <| jO 26 3 rfl (decide (y108.2 > 9223372036854775807)) (fun J123 e122 => ?_) ?_
 · rcases cs e122 with ⟨e124, e122⟩ | ⟨e124, e122⟩
   · exact kt 23 e124 rfl <| pn 3 rfl <| ji 4 J123 rfl rfl rfl e122
   exact kf 23 e124 rfl <| pn 3 rfl <| ji 4 J123 rfl rfl rfl e122
 refine nx <| ?_
 rcases cs hk with ⟨e125, hk⟩ | ⟨e125, hk⟩
 · refine cy rfl e125 <| ?_
   cases hk
 refine cn rfl e125 <| sk <| xn <| sq <| rg <| pn 1 rfl <| va rfl (cv rfl Try.underlying3 Try.underlying139) <| bs hk fun y126 e127 hk => mk (E := E39) (zv := (⟨0, 0, 0⟩ : Cell)) rfl Sl35 El39 rfl rfl e127 rfl rfl fun a128 n129 c130 e131 h132 => ?_
 refine pn 1 rfl <| nx <| sq <| rg <| pn 2 rfl <| cp0 0 rfl Sl35 rfl rfl rfl h132 rfl (RdE.rds ph0.rde 1 rfl) (fun _ => rfl) fun e133 h134 => pn 1 rfl <| nx <| sq <| ?_
 refine bk <| Cd.loop <| ?_
 refine ls (l' := [(4, .slice none 0 0), (7, .slice a128 n129 c130), (8, .int .i64 ((min x0.length (List.replicate (w64 y108.2).toNat (⟨0, 0, 0⟩ : Cell)).length : Nat) : Int))]) rfl <| ?_
 refine Lp.ind (fun k M213 H' l' => ∃ p206 p212 e211, Mem.le M M213 ∧ OSl M213 E39 p206 a128 n129 c130 39 e211 ∧ slices_Repeat_row_Cell_l1 k p206 p212 = some r ∧ l' = [(4, .slice none 0 0), (7, .slice a128 n129 c130), (8, .int .i64 p212)] ∧ H' = [e211, pe0]) ?_ ?_ 4294967296 _ _ _ ⟨(splice (List.replicate (w64 y108.2).toNat (⟨0, 0, 0⟩ : Cell)) 0 (List.replicate (w64 y108.2).toNat (⟨0, 0, 0⟩ : Cell)).length x0), ((min x0.length (List.replicate (w64 y108.2).toNat (⟨0, 0, 0⟩ : Cell)).length : Nat) : Int), _, lr, h134, hk, rfl, rfl⟩
 · rintro M213 H' l' ⟨p206, p212, e211, hle214, h209, hk, -, -⟩; cases hk
 rintro k215 ih216 M213 H' l' ⟨p206, p212, e211, hle214, h209, hk, rfl, rfl⟩
 refine sq <| sq <| rg <| pn 2 rfl <| va rfl (lf Try.underlying35 h209.len rfl) <| pn 1 rfl <| nx <| ?_
 rcases cs hk with ⟨e218, hk⟩ | ⟨e218, hk⟩
 · refine cy rfl e218 <| sk <| xn <| bk <| ?_
   refine dt [1] rfl 9 rfl (.tk [0, 1, 2, 3, 4, 5, 6] (.one 7 (.tk [8] .nil))) Mixed (by kernel_rfl) <| dn 3 rfl <| bs hk fun y233 e234 hk => cwd rfl rfl Sl35 rfl h209.rde ⟨_, rfl⟩ rfl e234 rdS fun a235 n236 c237 h238 w239 => dn 2 rfl <| bs hk fun y240 e241 hk => cwd rfl rfl Sl35 rfl h209.rde rfl ⟨_, rfl⟩ e241 rdS fun a242 n243 c244 h245 w246 => da rfl <| cpy 0 rfl Sl35 rfl rfl rfl h209 rfl w239 (RdE.rds (h209.win w246) 0 rfl) (fun _ => rfl) fun e247 h248 => ?_
   refine db [1] lr rfl <| dn 1 rfl <| dd <| td rfl <| pn 1 rfl <| on <| xb <| ?_
   exact asx (ih216 _ _ _ ⟨(splice p206 p212.toNat ((p206.length : Int).toNat - p212.toNat) (wnd p206 0 p212.toNat)), (w64 (p212 + ((min (wnd p206 0 p212.toNat).length ((p206.length : Int).toNat - p212.toNat) : Nat) : Int))), _, hle214, h248, hk, rfl, rfl⟩) rfl
 refine cn rfl e218 <| ex <| te <| te <| xe <| xn <| sq <| rg <| pn 2 rfl <| ?_
 refine nx <| rt <| ?_
 obtain rfl := si hk
 exact seX [1, 0] rfl <| oR 2 rfl rfl ⟨_, _, _, _, rfl, h209, rfl⟩
theorem Ok70 : CallOk Try.prog 70 := ⟨_, Try.func70, by kernel_rfl, by kernel_rfl⟩
/-! 73 tidewrack/row.blanks -/
def row_blanks (x0 : Int) (x1 : Int) : Option (List Cell) :=
  (row_blank x1).bind fun y106 => (slices_Repeat_row_Cell ([y106] : List Cell) (gmax 0 x0)).bind fun y112 => some y112
set_option maxRecDepth 20000 in
set_option maxHeartbeats 4000000 in
theorem row_blanks_does {M : Mem} {x0 : Int} {x1 : Int}  {r : List Cell}  (hk : row_blanks x0 x1 = some r) :
    Does Try.prog 73 [.int .i64 x0, .int .i64 x1].toArray M [] (fun v M' H' => ∃ a101 n102 c103 e105, v = .slice a101 n102 c103 ∧ OSl M' E39 r a101 n102 c103 39 e105 ∧ H' = [e105]) := by
 refine Does.of Try.func73 rfl rfl fun w0 => sq <| rg <| pn 1 rfl <| nx <| sq <| rg <| pn 1 rfl <| bs hk fun y106 e107 hk => ?_
 refine caq rfl Ok83 (row_blank_does e107) rfl rfl <| ?_
 refine li E39 [y106] rfl Sl35 El39 rfl rfl ⟨rfl, rfl⟩ fun b110 h111 => pn 1 rfl <| va rfl (ma rfl rfl) <| bs hk fun y112 e113 hk => ca rfl Ok70 (slices_Repeat_row_Cell_does (h111.rde) e113) rfl rfl <| ?_
 rintro _ M114 _ l115 ⟨a116, n117, c118, e120, rfl, h119, rfl⟩
 refine pn 1 rfl <| nx <| rt <| ?_
 obtain rfl := si hk
 exact seX [1] rfl <| oR 1 rfl rfl ⟨_, _, _, _, rfl, h119, rfl⟩
theorem Ok73 : CallOk Try.prog 73 := ⟨_, Try.func73, by kernel_rfl, by kernel_rfl⟩
theorem Bld37 : Bld Try.prog 37 (.agg #[(.slice none 0 0), (.bool false)]) [(0, 1), (1, 1)] := ⟨_, Try.underlying37, by kernel_rfl, by kernel_rfl⟩
theorem Sz37 : Sz Try.prog 37 2 := ⟨by kernel_rfl⟩
theorem Rowy37 : Rowy Try.prog 37 := ⟨_, Try.underlying37, rfl⟩
/-! 53 tidewrack/row.Blank -/
def row_Blank (x0 : Int) (x1 : Int) : Option (Row) :=
  (row_blanks (row_clip x0 0 1000) x1).bind fun y109 => some (⟨y109, false⟩ : Row)
set_option maxRecDepth 20000 in
set_option maxHeartbeats 4000000 in
theorem row_Blank_does {M : Mem} {x0 : Int} {x1 : Int}  {r : Row}  (hk : row_Blank x0 x1 = some r) :
    Does Try.prog 53 [.int .i64 x0, .int .i64 x1].toArray M [] (fun v M' H' => ∃ a101 n102 c103 e105, v = .agg #[.slice a101 n102 c103, .bool r.Wrapped] ∧ OSl M' E39 r.Cells a101 n102 c103 39 e105 ∧ H' = [e105]) := by
 refine Does.of Try.func53 rfl rfl fun w0 => sq <| rg <| al rfl Zr37 fun b106 => nx <| sq <| rg <| pn 1 rfl <| caq rfl Ok74 (row_clip_does (tt (row_clip x0 0 1000))) rfl rfl <| ?_
 refine pn 1 rfl <| bs hk fun y109 e110 hk => ca rfl Ok73 (row_blanks_does e110) rfl rfl <| ?_
 rintro _ M111 _ l112 ⟨a113, n114, c115, e117, rfl, h116, rfl⟩
 refine va rfl (bd (cells := [.slice a113 n114 c115, .bool false]) Bld37 rfl) <| sr 1 rfl Sz37 rfl rfl rfl rfl rfl <| nx <| rt <| ?_
 obtain rfl := si hk
 exact Ex.out 1 rfl (.inl rfl) rfl (rs := [_]) (vs := [_]) ⟨⟨_, rfl, .inr ⟨Rowy37, _, _, rfl, Sz37, (bi 1 rfl rfl), rfl⟩⟩, trivial⟩ rfl ⟨_, _, _, _, rfl, h116, rfl⟩
theorem Ok53 : CallOk Try.prog 53 := ⟨_, Try.func53, by kernel_rfl, by kernel_rfl⟩
theorem Sl22 : Sl Try.prog 22 37 2 := ⟨Try.underlying22, by kernel_rfl⟩
theorem El37 : El Try.prog 37 2 32 (.agg #[(.slice none 0 0), (.bool false)]) := ⟨by kernel_rfl, rfl⟩
theorem Sz22 : Sz Try.prog 22 1 := ⟨by kernel_rfl⟩
/-! 23 tidewrack/grid.New -/
def grid_New_l1 (x0 : Int) : Nat → (List Row) → Option (grid_Grid)
  | 0, p183 =>
  some (⟨(grid_size x0), p183⟩ : grid_Grid)
  | k199 + 1, p183 =>
  (row_Blank (grid_size x0) 0).bind fun y223 => (cap (p183.length + ([y223] : List Row).length)).bind fun y236 => (grid_New_l1 x0 k199 (p183 ++ ([y223] : List Row)))
def grid_New (x0 : Int) (x1 : Int) : Option (grid_Grid) :=
  (need (decide ((grid_size x1) ≤ 4294967296))).bind fun y200 => grid_New_l1 x0 (grid_size x1).toNat ([] : List Row)
set_option maxRecDepth 20000 in
set_option maxHeartbeats 4000000 in
theorem grid_New_does {M : Mem} {x0 : Int} {x1 : Int}  {r : grid_Grid}  (hk : grid_New x0 x1 = some r) :
    Does Try.prog 23 [.int .i64 x0, .int .i64 x1].toArray M [] (fun v M' H' => ∃ b101 a102 n103 c104 e106, v = .pointer (some ⟨b101, 0, none⟩) ∧ OSl M' E37 r.l a102 n103 c104 37 e106 ∧ H' = [some (b101, .cells #[.int .i64 r.w, .slice a102 n103 c104] 108 (0, 0)), e106]) := by
 refine Does.of Try.func23 rfl rfl fun w0 => sq <| rg <| pn 1 rfl <| nx <| sq <| rg <| pn 1 rfl <| caq rfl Ok52 (grid_size_does (tt (grid_size x0))) rfl rfl <| ?_
 refine va rfl (bd (cells := [.int .i64 (grid_size x0), .slice none 0 0]) Bld108 rfl) <| bx rfl rfl fun b109 => pn 1 rfl <| nx <| sq <| sq <| rg <| pn 1 rfl <| caq rfl Ok52 (grid_size_does (tt (grid_size x1))) rfl rfl <| ?_
 refine pn 1 rfl <| nx <| bk <| bs hk fun y200 e201 hk => Cd.loop <| ?_
 refine blL <| ls (l' := [(4, .pointer none), (5, .pointer (some ⟨b109, 0, none⟩)), (11, .int .i64 (grid_size x1)), (12, .int .i64 0)]) rfl <| ?_
 refine Lp.nat (n := (grid_size x1)) (of_decide_eq_true (need_some e201)) (fun ys_ p189 M190 H' l' => ∃ p183 a184 n187 c185 e188, Mem.le M M190 ∧ OSl M190 E37 p183 a184 n187 c185 37 e188 ∧ grid_New_l1 x0 ys_ p183 = some r ∧ l' = [(4, .pointer none), (5, .pointer (some ⟨b109, 0, none⟩)), (11, .int .i64 (grid_size x1)), (12, .int .i64 p189)] ∧ H' = [e188, some (b109, .cells #[.int .i64 (grid_size x0), .slice a184 n187 c185] 108 (0, 0))]) ?_ ?_ _ _ _ ⟨([] : List Row), _, _, _, _, lr, (OSl.nil _ _ _), hk, rfl, rfl⟩
 · rintro p189 e194 M190 H' l' ⟨p183, a184, n187, c185, e188, hle191, h186, hk, rfl, rfl⟩
   refine sq <| rg <| pn 1 rfl <| nx <| sq <| cn rfl e194 <| ex <| te <| te <| ?_
   refine xe <| xn <| sq <| rg <| pn 2 rfl <| nx <| rt <| ?_
   obtain rfl := si hk
   exact seX [1, 0] rfl <| oR 2 rfl rfl ⟨_, _, _, _, _, rfl, h186, rfl⟩
 rintro k199 p189 e194 i195 j196 w193 ih192 M190 H' l' ⟨p183, a184, n187, c185, e188, hle191, h186, hk, rfl, rfl⟩
 refine sq <| rg <| pn 1 rfl <| nx <| sq <| cy rfl e194 <| sk <| xn <| sq <| ?_
 refine bk <| ?_
 refine dt [1] rfl 12 rfl (.tk [0, 1, 2, 3, 4, 5, 6, 7, 8] (.one 9 (.one 10 (.one 11 .nil)))) Mixed (by kernel_rfl) <| dn 3 rfl <| dv rfl rfl (fd Fld108_1 rfl (bi 0 rfl rfl)) <| dv rfl rfl (ld One22 rfl (Pt.part 1 1 (bi 0 rfl rfl) rfl)) <| dn 2 rfl <| dv rfl rfl (fd Fld108_0 rfl (bi 0 rfl rfl)) <| dv rfl rfl (ld One3 rfl (Pt.part 0 1 (bi 0 rfl rfl) rfl)) <| da rfl <| bs hk fun y223 e224 hk => ?_
 refine ca rfl Ok53 (row_Blank_does e224) rfl rfl <| ?_
 rintro _ M225 _ l226 ⟨a227, n228, c229, e231, rfl, h230, rfl⟩
 refine db [2] l226 rfl <| da rfl <| fz 0 h230 rfl rfl fun M234 l235 h230 => ?_
 refine li E37 [y223] rfl Sl22 El37 rfl rfl ⟨⟨_, _, _, rfl, h230⟩, rfl⟩ fun b232 h233 => db [2] (l226.t l235) rfl <| bs hk fun y236 e237 hk => da rfl <| ap (E := E37) 1 rfl Sl22 El37 rfl rfl (h186.mono (l226.t l235)) rfl (RdE.rds h233.rde 0 rfl) e237 rfl (fun _ => rfl) fun a238 n239 c240 e241 h242 => db [2] (l226.t l235) rfl <| dd <| td rfl <| pn 1 rfl <| ?_
 refine va rfl (fd Fld108_1 rfl (bi 2 rfl rfl)) <| sr 2 rfl Sz22 rfl rfl rfl rfl rfl <| on <| xb <| xn <| rg <| pn 2 rfl <| on <| sx 12 w193 rfl <| ?_
 refine seX [1, 2] rfl <| ?_
 exact asx (ih192 _ _ _ ⟨(p183 ++ ([y223] : List Row)), _, _, _, _, ((hle191.t l226).t l235), h242, hk, rfl, rfl⟩) rfl
theorem Ok23 : CallOk Try.prog 23 := ⟨_, Try.func23, by kernel_rfl, by kernel_rfl⟩
theorem Bld72 : Bld Try.prog 72 (.agg #[(.pointer none), (.int .i64 0), (.int .i64 0), (.int .i64 0), (.int .i64 0), (.bool false), (.bool false), (.bool false), (.int .i64 0), (.int .i64 0), (.int .i64 0), (.int .i64 0), (.bool false), (.bool false), (.bool false), (.bool false), (.int .i64 0), (.int .i64 0), (.bool false), (.string ⟨#[]⟩)]) [(0, 1), (1, 7), (8, 7), (15, 1), (16, 1), (17, 1), (18, 1), (19, 1)] := ⟨_, Try.underlying72, by kernel_rfl, by kernel_rfl⟩
theorem Fld72_0 : Fld Try.prog 72 0 0 0 := ⟨_, _, Try.underlying72, rfl, rfl, by kernel_rfl⟩
theorem One65 : One Try.prog 65 := ⟨_, Try.underlying65, rfl⟩
/-! 24 (*tidewrack/grid.Grid).Size -/
def grid_Grid_Size (x0 : grid_Grid) : Option (Int × Int) :=
  some (x0.w, (x0.l.length : Int))
set_option maxRecDepth 20000 in
set_option maxHeartbeats 4000000 in
theorem grid_Grid_Size_does {M : Mem} {x0 : grid_Grid} {pb0 : Nat} {pa0 : Option Addr} {pn0 pc0 : Nat} {pe0 : Ent} {r : Int × Int} (ph0 : OSl M E37 x0.l pa0 pn0 pc0 37 pe0) (hk : grid_Grid_Size x0 = some r) :
    Does Try.prog 24 [.pointer (some ⟨pb0, 0, none⟩)].toArray M [some (pb0, .cells #[.int .i64 x0.w, .slice pa0 pn0 pc0] 108 (0, 0)), pe0] (fun v M' H' => v = .tuple #[.int .i64 r.1, .int .i64 r.2] ∧ H' = [some (pb0, .cells #[.int .i64 x0.w, .slice pa0 pn0 pc0] 108 (0, 0)), pe0]) := by
 refine Does.of Try.func24 rfl rfl fun w0 => sq <| rg <| pn 2 rfl <| nx <| sq <| ?_
 refine dt [0, 1] rfl 10 rfl (.tk [0, 1, 2, 3, 4, 5, 6, 7, 8, 9] .nil) Mixed (by kernel_rfl) <| dn 2 rfl <| dv rfl rfl (fd Fld108_0 rfl (bi 0 rfl rfl)) <| dv rfl rfl (ld One3 rfl (Pt.part 0 1 (bi 0 rfl rfl) rfl)) <| dn 2 rfl <| dv rfl rfl (fd Fld108_1 rfl (bi 0 rfl rfl)) <| dv rfl rfl (ld One22 rfl (Pt.part 1 1 (bi 0 rfl rfl) rfl)) <| dv rfl rfl (lf Try.underlying22 ph0.len rfl) <| dn 1 rfl <| ?_
 refine dd <| td rfl <| pn 1 rfl <| nx <| rt <| ?_
 obtain rfl := si hk
 exact oR 2 rfl rfl ⟨rfl, rfl⟩
theorem Ok24 : CallOk Try.prog 24 := ⟨_, Try.func24, by kernel_rfl, by kernel_rfl⟩
theorem Fld72_5 : Fld Try.prog 72 5 17 0 := ⟨_, _, Try.underlying72, rfl, rfl, by kernel_rfl⟩
theorem Sz3 : Sz Try.prog 3 1 := ⟨by kernel_rfl⟩
/-! 9 tidewrack/screen.New -/
def screen_New (x0 : Int) (x1 : Int) : Option (screen_Screen) :=
  (grid_New x0 x1).bind fun y108 => (grid_Grid_Size y108).bind fun y119 => some (⟨y108, (⟨0, 0, (⟨0, 0, false, false, false⟩ : Style)⟩ : screen_spot), (⟨0, 0, (⟨0, 0, false, false, false⟩ : Style)⟩ : screen_spot), false, 0, (w64 (y119.2 - 1)), true, (⟨#[]⟩ : ByteArray)⟩ : screen_Screen)
set_option maxRecDepth 20000 in
set_option maxHeartbeats 4000000 in
theorem screen_New_does {M : Mem} {x0 : Int} {x1 : Int}  {r : screen_Screen}  (hk : screen_New x0 x1 = some r) :
    Does Try.prog 9 [.int .i64 x0, .int .i64 x1].toArray M [] (fun v M' H' => ∃ b101 b102 a103 n104 c105 e107, v = .pointer (some ⟨b101, 0, none⟩) ∧ OSl M' E37 r.g.l a103 n104 c105 37 e107 ∧ H' = [some (b101, .cells #[.pointer (some ⟨b102, 0, none⟩), .int .i64 r.spot.x, .int .i64 r.spot.y, .int .i64 r.spot.style.Fore, .int .i64 r.spot.style.Back, .bool r.spot.style.Bold, .bool r.spot.style.Under, .bool r.spot.style.Inverse, .int .i64 r.saved.x, .int .i64 r.saved.y, .int .i64 r.saved.style.Fore, .int .i64 r.saved.style.Back, .bool r.saved.style.Bold, .bool r.saved.style.Under, .bool r.saved.style.Inverse, .bool r.waiting, .int .i64 r.top, .int .i64 r.bottom, .bool r.wraps, .string r.title] 72 (0, 0)), some (b102, .cells #[.int .i64 r.g.w, .slice a103 n104 c105] 108 (0, 0)), e107]) := by
 refine Does.of Try.func9 rfl rfl fun w0 => sq <| rg <| pn 1 rfl <| nx <| sq <| rg <| pn 2 rfl <| bs hk fun y108 e109 hk => ?_
 refine ca rfl Ok23 (grid_New_does e109) rfl rfl <| ?_
 rintro _ M110 _ l111 ⟨b112, a113, n114, c115, e117, rfl, h116, rfl⟩
 refine va rfl (bd (cells := [.pointer (some ⟨b112, 0, none⟩), .int .i64 0, .int .i64 0, .int .i64 0, .int .i64 0, .bool false, .bool false, .bool false, .int .i64 0, .int .i64 0, .int .i64 0, .int .i64 0, .bool false, .bool false, .bool false, .bool false, .int .i64 0, .int .i64 0, .bool true, .string (⟨#[]⟩ : ByteArray)]) Bld72 rfl) <| bx rfl rfl fun b118 => pn 1 rfl <| nx <| sq <| rg <| pn 3 rfl <| va rfl (fd Fld72_0 rfl (bi 0 rfl rfl)) <| va rfl (ld One65 rfl (Pt.part 0 1 (bi 0 rfl rfl) rfl)) <| ?_
 refine se [1, 2, 0] rfl <| bs hk fun y119 e120 hk => caq rfl Ok24 (grid_Grid_Size_does h116 e120) rfl rfl <| pn 4 rfl <| va rfl (fd Fld72_5 rfl (bi 2 rfl rfl)) <| sr 2 rfl Sz3 rfl rfl rfl rfl rfl <| nx <| sq <| rg <| ?_
 refine pn 2 rfl <| va rfl (fd Fld72_5 rfl (bi 2 rfl rfl)) <| va rfl (ld One3 rfl (Pt.part 17 1 (bi 2 rfl rfl) rfl)) <| pn 2 rfl <| va rfl (fd Fld72_5 rfl (bi 2 rfl rfl)) <| sr 2 rfl Sz3 rfl rfl rfl rfl rfl <| nx <| sq <| rg <| ?_
 refine pn 2 rfl <| nx <| rt <| ?_
 obtain rfl := si hk
 exact seX [2, 0, 1] rfl <| oR 3 rfl rfl ⟨_, _, _, _, _, _, rfl, h116, rfl⟩
theorem Ok9 : CallOk Try.prog 9 := ⟨_, Try.func9, by kernel_rfl, by kernel_rfl⟩
theorem Sl75 : Sl Try.prog 75 3 1 := ⟨Try.underlying75, by kernel_rfl⟩
theorem El3 : El Try.prog 3 1 8 (.int .i64 0) := ⟨by kernel_rfl, rfl⟩
theorem Bld78 : Bld Try.prog 78 (.agg #[(.slice none 0 0), (.slice none 0 0), (.slice none 0 0)]) [(0, 1), (1, 1), (2, 1)] := ⟨_, Try.underlying78, by kernel_rfl, by kernel_rfl⟩
/-! 10 tidewrack/book.New -/
def book_New  : Option (book_Book) :=
  some (⟨([] : List (List Glyph)), ([0] : List Int), ([] : List Glyph)⟩ : book_Book)
set_option maxRecDepth 20000 in
set_option maxHeartbeats 4000000 in
theorem book_New_does {M : Mem}   {r : book_Book}  (hk : book_New = some r) :
    Does Try.prog 10 [].toArray M [] (fun v M' H' => ∃ b101 a102 n103 c104 a106 n107 c108 e110 a111 n112 c113, v = .pointer (some ⟨b101, 0, none⟩) ∧ SRep M' (eSlice E41) r.l a102 n103 c104 ∧ OSl M' (eInt .i64) r.chains a106 n107 c108 3 e110 ∧ SRep M' E41 r.begun a111 n112 c113 ∧ H' = [some (b101, .cells #[.slice a102 n103 c104, .slice a106 n107 c108, .slice a111 n112 c113] 78 (0, 0)), e110]) := by
 refine Does.of Try.func10 rfl rfl fun w0 => sq <| rg <| pn 1 rfl <| nx <| sq <| rg <| ?_
 refine li (eInt .i64) [0] rfl Sl75 El3 rfl rfl ⟨rfl, rfl⟩ fun b115 h116 => va rfl (bd (cells := [.slice none 0 0, .slice (some ⟨b115, 0, none⟩) 1 1, .slice none 0 0]) Bld78 rfl) <| bx rfl rfl fun b117 => pn 1 rfl <| nx <| rt <| ?_
 obtain rfl := si hk
 exact oR 2 rfl rfl ⟨_, _, _, _, _, _, _, _, _, _, _, rfl, (SRep.nil _ _ _ _), h116, (SRep.nil _ _ _ _), rfl⟩
theorem Ok10 : CallOk Try.prog 10 := ⟨_, Try.func10, by kernel_rfl, by kernel_rfl⟩
theorem Zr25 : Zr Try.prog 25 (.agg #[(.int .i64 0), (.int .i64 0), (.int .i64 0), (.int .i64 0), (.int .i64 0), (.string ⟨#[]⟩), (.slice none 0 0), (.int .i64 0), (.int .i64 0), (.slice none 0 0)]) := ⟨by kernel_rfl⟩
theorem Zr22 : Zr Try.prog 22 (.slice none 0 0) := ⟨by kernel_rfl⟩
/-! 75 tidewrack/grid.each -/
def grid_each (x0 : List Row) : Option (List Row) :=
  some x0
set_option maxRecDepth 20000 in
set_option maxHeartbeats 4000000 in
theorem grid_each_does {M : Mem} {x0 : List Row} {pa0 : Option Addr} {pn0 pc0 : Nat} {pe0 : Ent} {r : List Row} (ph0 : RdE M E37 x0 pa0 pn0 pc0 pe0) (hk : grid_each x0 = some r) :
    Does Try.prog 75 [.slice pa0 pn0 pc0].toArray M [pe0] (fun v M' H' => ∃ b101, v = .func (.func 84) #[] #[.pointer (some ⟨b101, 0, none⟩)] ∧ H' = [pe0, some (b101, .cells #[.slice pa0 pn0 pc0] 22 (0, 0))]) := by
 refine Does.of Try.func75 rfl rfl fun w0 => sq <| rg <| bx rfl rfl fun b102 => pn 1 rfl <| nx <| sq <| rg <| pn 2 rfl <| ?_
 refine nx <| rt <| ?_
 obtain rfl := si hk
 exact seX [1, 0] rfl <| oR 2 rfl rfl ⟨_, rfl, rfl⟩
theorem Ok75 : CallOk Try.prog 75 := ⟨_, Try.func75, by kernel_rfl, by kernel_rfl⟩
theorem Fld37_0 : Fld Try.prog 37 0 0 0 := ⟨_, _, Try.underlying37, rfl, rfl, by kernel_rfl⟩
theorem One35 : One Try.prog 35 := ⟨_, Try.underlying35, rfl⟩
theorem Fld37_1 : Fld Try.prog 37 1 1 0 := ⟨_, _, Try.underlying37, rfl, rfl, by kernel_rfl⟩
theorem One4 : One Try.prog 4 := ⟨_, Try.underlying4, rfl⟩
/-! 19 slices.Clone[[]tidewrack/row.Cell,tidewrack/row.Cell] -/
def slices_Clone_row_Cell (x0 : List Cell) : Option (List Cell) :=
  (cap (([] : List Cell).length + x0.length)).bind fun y110 => some (([] : List Cell) ++ x0)
set_option maxRecDepth 20000 in
set_option maxHeartbeats 4000000 in
theorem slices_Clone_row_Cell_does {M : Mem} {x0 : List Cell} {pa0 : Option Addr} {pn0 pc0 : Nat} {r : List Cell} (ph0 : SRep M E39 x0 pa0 pn0 pc0) (hk : slices_Clone_row_Cell x0 = some r) :
    Does Try.prog 19 [.slice pa0 pn0 pc0].toArray M [] (fun v M' H' => ∃ a101 n102 c103 e105, v = .slice a101 n102 c103 ∧ OSl M' E39 r a101 n102 c103 39 e105 ∧ H' = [e105]) := by
 refine Does.of Try.func19 rfl rfl fun w0 => sq <| rg <| pn 1 rfl <| nx <| sq <| sq <| rg <| pn 1 rfl <| ?_
 refine va rfl (run_nilS rfl Try.underlying35 rfl) <| nx <| ?_
 rcases Bool.eq_false_or_eq_true (Option.isNone pa0) with hb106 | hb106
 · have he107 := ph0.empty hb106
   subst he107
   replace hk : some ([] : List Cell) = some r := hk
   refine cy rfl hb106 <| sq <| rg <| pn 1 rfl <| nx <| rt <| tr <| ?_
   obtain rfl := si hk
   exact blX <| oR 1 rfl rfl ⟨_, _, _, _, rfl, (OSl.nil _ _ _), rfl⟩
 refine cn rfl hb106 <| sk <| xn <| sq <| rg <| l0 E39 rfl Sl35 El39 fun b108 h109 => pn 1 rfl <| bs hk fun y110 e111 hk => ap (E := E39) 0 rfl Sl35 El39 rfl rfl h109 rfl (ph0.rds _) e111 rfl (fun _ => rfl) fun a112 n113 c114 e115 h116 => ?_
 refine pn 1 rfl <| nx <| rt <| ?_
 obtain rfl := si hk
 exact oR 1 rfl rfl ⟨_, _, _, _, rfl, h116, rfl⟩
theorem Ok19 : CallOk Try.prog 19 := ⟨_, Try.func19, by kernel_rfl, by kernel_rfl⟩
/-! 85 tidewrack/grid.own -/
def grid_own (x0 : Row) : Option (Row) :=
  (slices_Clone_row_Cell x0.Cells).bind fun y108 => some (⟨y108, x0.Wrapped⟩ : Row)
set_option maxRecDepth 20000 in
set_option maxHeartbeats 4000000 in
theorem grid_own_does {M : Mem} {x0 : Row} {pa0 : Option Addr} {pn0 pc0 : Nat} {r : Row} (ph0 : SRep M E39 x0.Cells pa0 pn0 pc0) (hk : grid_own x0 = some r) :
    Does Try.prog 85 [.agg #[.slice pa0 pn0 pc0, .bool x0.Wrapped]].toArray M [] (fun v M' H' => ∃ a101 n102 c103 e105, v = .agg #[.slice a101 n102 c103, .bool r.Wrapped] ∧ OSl M' E39 r.Cells a101 n102 c103 39 e105 ∧ H' = [e105]) := by
 refine Does.of Try.func85 rfl rfl fun w0 => sq <| rg <| bx rfl rfl fun b106 => al rfl Zr37 fun b107 => nx <| sq <| ?_
 refine dt [0, 1] rfl 6 rfl (.tk [0, 1, 3, 4] (.one 2 (.tk [5] .nil))) Mixed (by kernel_rfl) <| dv rfl rfl (fd Fld37_0 rfl (bi 1 rfl rfl)) <| dv rfl rfl (ld One35 rfl (Pt.part 0 1 (bi 1 rfl rfl) rfl)) <| dv rfl rfl (fd Fld37_1 rfl (bi 1 rfl rfl)) <| dv rfl rfl (ld One4 rfl (Pt.part 1 1 (bi 1 rfl rfl) rfl)) <| da rfl <| bs hk fun y108 e109 hk => ca rfl Ok19 (slices_Clone_row_Cell_does ph0 e109) rfl rfl <| ?_
 rintro _ M110 _ l111 ⟨a112, n113, c114, e116, rfl, h115, rfl⟩
 refine db [1, 2] l111 rfl <| dv rfl rfl (bd (cells := [.slice a112 n113 c114, .bool x0.Wrapped]) Bld37 rfl) <| dd <| td rfl <| sr 1 rfl Sz37 rfl rfl rfl rfl rfl <| nx <| rt <| ?_
 obtain rfl := si hk
 exact seX [0, 1] rfl <| Ex.out 1 rfl (.inl rfl) rfl (rs := [_]) (vs := [_]) ⟨⟨_, rfl, .inr ⟨Rowy37, _, _, rfl, Sz37, (bi 1 rfl rfl), rfl⟩⟩, trivial⟩ rfl ⟨_, _, _, _, rfl, h115, rfl⟩
theorem Ok85 : CallOk Try.prog 85 := ⟨_, Try.func85, by kernel_rfl, by kernel_rfl⟩
def grid_each_1_It (M : Mem) (x : Row) (vs : List Value) : Prop := ∃ a101 n102 c103, vs = [.agg #[.slice a101 n102 c103, .bool x.Wrapped]] ∧ SRep M E39 x.Cells a101 n102 c103
theorem grid_each_1_It_len (M : Mem) (x : Row) (vs : List Value) (h : grid_each_1_It M x vs) : vs.length = 1 := by
  obtain ⟨_, _, _, rfl, _⟩ := h; rfl
/-! 84 tidewrack/grid.each$1 -/
def grid_each_1_items_l1  : List Row → Option (List Row)
  | [] =>
  some []
  | y189 :: ys190 =>
  (grid_own y189).bind fun y200 => ((grid_each_1_items_l1 ys190)).bind fun ys211 => some (y200 :: ys211)
def grid_each_1_items (x1 : List Row) : Option (List Row) :=
  (cap x1.length).bind fun y191 => grid_each_1_items_l1 x1
set_option maxRecDepth 20000 in
set_option maxHeartbeats 4000000 in
theorem grid_each_1_items_iter {M : Mem} {x1 : List Row} {pb0 : Nat} {pa0 : Option Addr} {pn0 pc0 : Nat} {pe0 : Ent} {xs : List Row} (ph0 : RdE M E37 x1 pa0 pn0 pc0 pe0) (hk : grid_each_1_items x1 = some xs) :
    Iter Try.prog 84 [.pointer (some ⟨pb0, 0, none⟩)] grid_each_1_It xs M [some (pb0, .cells #[.slice pa0 pn0 pc0] 22 (0, 0)), pe0] [some (pb0, .cells #[.slice pa0 pn0 pc0] 22 (0, 0)), pe0] := by
 intro l J S Hc hrd hJ
 refine Does.of Try.func84 rfl rfl fun w0 => sq <| rg <| va rfl (ld One22 rfl (bi 0 rfl rfl)) <| va rfl (lf Try.underlying22 ph0.len rfl) <| pn 1 rfl <| nx <| bk <| bs hk fun y191 e192 hk => ?_
 refine Cd.loop <| ?_
 refine stL 2 [1, 0] rfl rfl rfl <| ls (l' := [(0, .func (.yield l) #[] #[]), (5, .slice pa0 pn0 pc0), (6, .int .i64 (x1.length : Int)), (7, .int .i64 0)]) rfl <| ?_
 refine Lp.lst (xs := x1) e192 (fun ys_ p175 M176 H' l' => ∃ ys178 M179 Hc180, Mem.le M M176 ∧ Mem.le M179 M176 ∧ J ys178 M179 Hc180 ∧ grid_each_1_items_l1 ys_ = some ys178 ∧ l' = [(0, .func (.yield l) #[] #[]), (5, .slice pa0 pn0 pc0), (6, .int .i64 (x1.length : Int)), (7, .int .i64 p175)] ∧ H' = [pe0, some (pb0, .cells #[.slice pa0 pn0 pc0] 22 (0, 0))] ++ Hc180) ?_ ?_ _ _ _ ⟨_, _, _, lr, lr, hJ, hk, rfl, rfl⟩
 · rintro p175 e185 M176 H' l' ⟨ys178, M179, Hc180, hle177, hl182, hj181, hk, rfl, rfl⟩
   refine sq <| rg <| pn 1 rfl <| nx <| sq <| cn rfl e185 <| ex <| te <| te <| ?_
   refine xe <| stX 2 [1, 0] rfl rfl rfl <| ?_
   obtain rfl := si hk
   exact Ex.outA rfl (.inr rfl) rfl (rs := []) (vs := []) trivial rfl ⟨_, rfl, .inl ⟨_, hl182, hj181⟩⟩
 rintro y189 ys190 p175 e185 i186 j187 h188 w184 ih183 M176 H' l' ⟨ys178, M179, Hc180, hle177, hl182, hj181, hk, rfl, rfl⟩
 refine sq <| rg <| pn 1 rfl <| nx <| sq <| cy rfl e185 <| sk <| xn <| sq <| ?_
 refine bk <| sq <| rg <| ?_
 have ph0 := ph0.mono hle177
 obtain ⟨_, ⟨a195, n196, c197, rfl, h198⟩, h194⟩ := ph0.el h188
 refine va rfl (ix Sl22 rfl rfl i186 (lt_of ph0.len j187) h194.ne) <| va rfl (lN Rowy37 Sz37 rfl (h194.pt 0 rfl) rfl) <| al rfl Zr37 fun b199 => sr 0 rfl Sz37 rfl rfl rfl rfl rfl <| nx <| sq <| rg <| pn 1 rfl <| va rfl (lN Rowy37 Sz37 rfl (bi 0 rfl rfl) rfl) <| ?_
 refine bs hk fun y200 e201 hk => ca rfl Ok85 (grid_own_does h198 e201) rfl rfl <| ?_
 rintro _ M202 _ l203 ⟨a204, n205, c206, e208, rfl, h207, rfl⟩
 refine fz 0 h207 rfl rfl fun M209 l210 h207 => bs hk fun ys211 e212 hk => ?_
 obtain rfl := si hk
 refine yl rfl rfl rfl (vs := [_]) (H2 := [_, _, _]) (hrd y200 ys211 _ _ _ _ ((hl182.t l203).t l210) hj181 ⟨_, _, _, rfl, h207⟩) rfl <| ?_
 rintro q213 M214 Hc215 l216 (⟨rfl, hj217⟩ | ⟨rfl, hs218⟩)
 · refine pn 1 rfl <| nx <| cn rfl rfl <| sk <| xb <| xn <| rg <| pn 2 rfl <| on <| ?_
   refine sx 7 w184 rfl <| stX 3 [1, 2] rfl rfl rfl <| ?_
   exact asx (ih183 _ _ _ ⟨_, _, _, (((hle177.t l203).t l210).t l216), lr, hj217, e212, rfl, rfl⟩) rfl
 refine pn 1 rfl <| nx <| cy rfl rfl <| rt <| xr <| tr <| tr <| xr <| stX 3 [2, 1] rfl rfl rfl <| ?_
 exact Ex.outA rfl (.inl rfl) rfl (rs := []) (vs := []) trivial rfl ⟨_, rfl, .inr hs218⟩
theorem Ok84 : CallOk Try.prog 84 := ⟨_, Try.func84, by kernel_rfl, by kernel_rfl⟩
/-! 55 tidewrack/grid.copies -/
def grid_copies_r1  : List Row → (List Row) → Option (List Row)
  | [], p152 =>
  some p152
  | x161 :: xs160, p152 =>
  (cap (p152.length + ([x161] : List Row).length)).bind fun y178 => ((grid_copies_r1 xs160) (p152 ++ ([x161] : List Row)))

def grid_copies (x0 : List Row) : Option (List Row) :=
  (grid_each x0).bind fun y107 => (grid_each_1_items x0).bind fun xs112 => grid_copies_r1 xs112 ([] : List Row)
set_option maxRecDepth 20000 in
set_option maxHeartbeats 4000000 in
theorem grid_copies_does {M : Mem} {x0 : List Row} {pa0 : Option Addr} {pn0 pc0 : Nat} {pe0 : Ent} {r : List Row} (ph0 : RdE M E37 x0 pa0 pn0 pc0 pe0) (hk : grid_copies x0 = some r) :
    Does Try.prog 55 [.slice pa0 pn0 pc0].toArray M [pe0] (fun v M' H' => ∃ a101 n102 c103 e105, v = .slice a101 n102 c103 ∧ OSl M' E37 r a101 n102 c103 37 e105 ∧ H' = [pe0, e105]) := by
 refine Does.of Try.func55 rfl rfl fun w0 => sq <| rg <| pn 1 rfl <| nx <| sq <| rg <| al rfl Zr22 fun b106 => nx <| ?_
 refine sq <| sq <| rg <| pn 1 rfl <| se [1, 0] rfl <| bs hk fun y107 e108 hk => ca rfl Ok75 (grid_each_does (ph0.rde) e108) rfl rfl <| ?_
 rintro _ M109 _ l110 ⟨b111, rfl, rfl⟩
 refine nx <| bk <| ?_
 have ph0 := ph0.mono l110
 refine seC [1, 0, 2] rfl <| bs hk fun xs112 e113 hk => ?_
 refine blC <| seC [1, 2, 0, 3] rfl <| ?_
 refine Cd.rangeF (Hi := [_, _]) (Ho := _) rfl Ok84 (grid_each_1_items_iter (ph0.rde) e113) (fun ys_ M158 H' => ∃ p152 a153 n156 c154 e157, Mem.le M109 M158 ∧ OSl M158 E37 p152 a153 n156 c154 37 e157 ∧ grid_copies_r1 ys_ p152 = some r ∧ H' = [e157, some (b106, .cells #[.slice a153 n156 c154] 22 (0, 0))]) ⟨([] : List Row), _, _, _, _, lr, (OSl.nil _ _ _), hk, rfl⟩ rfl grid_each_1_It_len ?_ ?_
 · rintro x161 xs160 M158 M162 _ _ l169 ⟨p152, a153, n156, c154, e157, hle159, h155, hk, rfl⟩ ⟨a170, n171, c172, rfl, h173⟩ lp165 rr166 w167 hr168
   refine rg <| al rfl Zr37 fun b175 => sr 0 rfl Sz37 rfl rfl rfl rfl rfl <| on <| Ex.begin hr168 <| bk <| rg <| va rfl (ld One22 rfl (bi 2 rfl rfl)) <| va rfl (lN Rowy37 Sz37 rfl (bi 0 rfl rfl) rfl) <| ?_
   refine li E37 [x161] rfl Sl22 El37 rfl rfl ⟨⟨_, _, _, rfl, h173⟩, rfl⟩ fun b176 h177 => bs hk fun y178 e179 hk => ?_
   have h155 := h155.mono l169
   exact ap (E := E37) 2 rfl Sl22 El37 rfl rfl h155 rfl (RdE.rds h177.rde 0 rfl) e179 rfl (fun _ => rfl) fun a180 n181 c182 e183 h184 => sr 3 rfl Sz22 rfl rfl rfl rfl rfl <| on <| xb <| seX [2, 3] rfl <| Ex.roundN lr ⟨(p152 ++ ([x161] : List Row)), _, _, _, _, (hle159.t l169), h184, hk, rfl⟩
 rintro M158 M185 _ hle186 ⟨p152, a153, n156, c154, e157, hle159, h155, hk, rfl⟩
 refine xb <| xn <| sq <| rg <| va rfl (ld One22 rfl (bi 3 rfl rfl)) <| pn 1 rfl <| nx <| rt <| ?_
 obtain rfl := si hk
 refine seX [1, 2] rfl <| ?_
 have h155 := h155.mono hle186
 exact oR 2 rfl rfl ⟨_, _, _, _, rfl, h155, rfl⟩
theorem Ok55 : CallOk Try.prog 55 := ⟨_, Try.func55, by kernel_rfl, by kernel_rfl⟩
/-! 54 (*tidewrack/grid.Grid).Clone -/
def grid_Grid_Clone (x0 : grid_Grid) : Option (grid_Grid) :=
  (grid_copies x0.l).bind fun y107 => some (⟨x0.w, y107⟩ : grid_Grid)
set_option maxRecDepth 20000 in
set_option maxHeartbeats 4000000 in
theorem grid_Grid_Clone_does {M : Mem} {x0 : grid_Grid} {pb0 : Nat} {pa0 : Option Addr} {pn0 pc0 : Nat} {pe0 : Ent} {r : grid_Grid} (ph0 : OSl M E37 x0.l pa0 pn0 pc0 37 pe0) (hk : grid_Grid_Clone x0 = some r) :
    Does Try.prog 54 [.pointer (some ⟨pb0, 0, none⟩)].toArray M [some (pb0, .cells #[.int .i64 x0.w, .slice pa0 pn0 pc0] 108 (0, 0)), pe0] (fun v M' H' => ∃ b101 a102 n103 c104 e106, v = .pointer (some ⟨b101, 0, none⟩) ∧ OSl M' E37 r.l a102 n103 c104 37 e106 ∧ H' = [some (pb0, .cells #[.int .i64 x0.w, .slice pa0 pn0 pc0] 108 (0, 0)), pe0, some (b101, .cells #[.int .i64 r.w, .slice a102 n103 c104] 108 (0, 0)), e106]) := by
 refine Does.of Try.func54 rfl rfl fun w0 => sq <| rg <| pn 1 rfl <| nx <| sq <| ?_
 refine dt [0, 1] rfl 11 rfl (.tk [0, 1, 2, 3, 4, 5, 6, 7] (.one 8 (.tk [9] (.one 10 .nil)))) Mixed (by kernel_rfl) <| dn 2 rfl <| dv rfl rfl (fd Fld108_0 rfl (bi 0 rfl rfl)) <| dv rfl rfl (ld One3 rfl (Pt.part 0 1 (bi 0 rfl rfl) rfl)) <| dn 2 rfl <| dv rfl rfl (fd Fld108_1 rfl (bi 0 rfl rfl)) <| dv rfl rfl (ld One22 rfl (Pt.part 1 1 (bi 0 rfl rfl) rfl)) <| da rfl <| se [1, 0] rfl <| ?_
 refine bs hk fun y107 e108 hk => ca rfl Ok55 (grid_copies_does (ph0.rde) e108) rfl rfl <| ?_
 rintro _ M109 _ l110 ⟨a111, n112, c113, e115, rfl, h114, rfl⟩
 refine db [2, 0] l110 rfl <| dv rfl rfl (bd (cells := [.int .i64 x0.w, .slice a111 n112 c113]) Bld108 rfl) <| da rfl <| bx rfl rfl fun b116 => db [3, 1] l110 rfl <| dd <| td rfl <| pn 1 rfl <| nx <| ?_
 refine rt <| ?_
 obtain rfl := si hk
 exact seX [3, 1, 0, 2] rfl <| oR 4 rfl rfl ⟨_, _, _, _, _, rfl, h114, rfl⟩
theorem Ok54 : CallOk Try.prog 54 := ⟨_, Try.func54, by kernel_rfl, by kernel_rfl⟩
/-! 25 (*tidewrack/screen.Screen).Grid -/
def screen_Screen_Grid (x0 : screen_Screen) : Option (grid_Grid) :=
  (grid_Grid_Clone x0.g).bind fun y107 => some y107
set_option maxRecDepth 20000 in
set_option maxHeartbeats 4000000 in
theorem screen_Screen_Grid_does {M : Mem} {x0 : screen_Screen} {pb0 : Nat} {pb1 : Nat} {pa0 : Option Addr} {pn0 pc0 : Nat} {pe0 : Ent} {r : grid_Grid} (ph0 : OSl M E37 x0.g.l pa0 pn0 pc0 37 pe0) (hk : screen_Screen_Grid x0 = some r) :
    Does Try.prog 25 [.pointer (some ⟨pb0, 0, none⟩)].toArray M [some (pb0, .cells #[.pointer (some ⟨pb1, 0, none⟩), .int .i64 x0.spot.x, .int .i64 x0.spot.y, .int .i64 x0.spot.style.Fore, .int .i64 x0.spot.style.Back, .bool x0.spot.style.Bold, .bool x0.spot.style.Under, .bool x0.spot.style.Inverse, .int .i64 x0.saved.x, .int .i64 x0.saved.y, .int .i64 x0.saved.style.Fore, .int .i64 x0.saved.style.Back, .bool x0.saved.style.Bold, .bool x0.saved.style.Under, .bool x0.saved.style.Inverse, .bool x0.waiting, .int .i64 x0.top, .int .i64 x0.bottom, .bool x0.wraps, .string x0.title] 72 (0, 0)), some (pb1, .cells #[.int .i64 x0.g.w, .slice pa0 pn0 pc0] 108 (0, 0)), pe0] (fun v M' H' => ∃ b101 a102 n103 c104 e106, v = .pointer (some ⟨b101, 0, none⟩) ∧ OSl M' E37 r.l a102 n103 c104 37 e106 ∧ H' = [some (pb0, .cells #[.pointer (some ⟨pb1, 0, none⟩), .int .i64 x0.spot.x, .int .i64 x0.spot.y, .int .i64 x0.spot.style.Fore, .int .i64 x0.spot.style.Back, .bool x0.spot.style.Bold, .bool x0.spot.style.Under, .bool x0.spot.style.Inverse, .int .i64 x0.saved.x, .int .i64 x0.saved.y, .int .i64 x0.saved.style.Fore, .int .i64 x0.saved.style.Back, .bool x0.saved.style.Bold, .bool x0.saved.style.Under, .bool x0.saved.style.Inverse, .bool x0.waiting, .int .i64 x0.top, .int .i64 x0.bottom, .bool x0.wraps, .string x0.title] 72 (0, 0)), some (pb1, .cells #[.int .i64 x0.g.w, .slice pa0 pn0 pc0] 108 (0, 0)), pe0, some (b101, .cells #[.int .i64 r.w, .slice a102 n103 c104] 108 (0, 0)), e106]) := by
 refine Does.of Try.func25 rfl rfl fun w0 => sq <| rg <| pn 1 rfl <| nx <| sq <| rg <| pn 2 rfl <| va rfl (fd Fld72_0 rfl (bi 0 rfl rfl)) <| ?_
 refine va rfl (ld One65 rfl (Pt.part 0 1 (bi 0 rfl rfl) rfl)) <| se [1, 2, 0] rfl <| bs hk fun y107 e108 hk => ca rfl Ok54 (grid_Grid_Clone_does ph0 e108) rfl rfl <| ?_
 rintro _ M109 _ l110 ⟨b111, a112, n113, c114, e116, rfl, h115, rfl⟩
 refine pn 1 rfl <| nx <| rt <| ?_
 obtain rfl := si hk
 exact seX [4, 0, 1, 2, 3] rfl <| oR 5 rfl rfl ⟨_, _, _, _, _, rfl, h115, rfl⟩
theorem Ok25 : CallOk Try.prog 25 := ⟨_, Try.func25, by kernel_rfl, by kernel_rfl⟩
theorem Fld72_7 : Fld Try.prog 72 7 19 0 := ⟨_, _, Try.underlying72, rfl, rfl, by kernel_rfl⟩
theorem One9 : One Try.prog 9 := ⟨_, Try.underlying9, rfl⟩
/-! 26 (*tidewrack/screen.Screen).Title -/
def screen_Screen_Title (x0 : screen_Screen) : ByteArray :=
  x0.title
set_option maxRecDepth 20000 in
set_option maxHeartbeats 4000000 in
theorem screen_Screen_Title_does {M : Mem} {x0 : screen_Screen} {pb0 : Nat} {pb1 : Nat} {pa0 : Option Addr} {pn0 pc0 : Nat} {pe0 : Ent} {r : ByteArray} (ph0 : OSl M E37 x0.g.l pa0 pn0 pc0 37 pe0) (hk : some (screen_Screen_Title x0) = some r) :
    Does Try.prog 26 [.pointer (some ⟨pb0, 0, none⟩)].toArray M [some (pb0, .cells #[.pointer (some ⟨pb1, 0, none⟩), .int .i64 x0.spot.x, .int .i64 x0.spot.y, .int .i64 x0.spot.style.Fore, .int .i64 x0.spot.style.Back, .bool x0.spot.style.Bold, .bool x0.spot.style.Under, .bool x0.spot.style.Inverse, .int .i64 x0.saved.x, .int .i64 x0.saved.y, .int .i64 x0.saved.style.Fore, .int .i64 x0.saved.style.Back, .bool x0.saved.style.Bold, .bool x0.saved.style.Under, .bool x0.saved.style.Inverse, .bool x0.waiting, .int .i64 x0.top, .int .i64 x0.bottom, .bool x0.wraps, .string x0.title] 72 (0, 0)), some (pb1, .cells #[.int .i64 x0.g.w, .slice pa0 pn0 pc0] 108 (0, 0)), pe0] (fun v M' H' => v = .string r ∧ H' = [some (pb0, .cells #[.pointer (some ⟨pb1, 0, none⟩), .int .i64 x0.spot.x, .int .i64 x0.spot.y, .int .i64 x0.spot.style.Fore, .int .i64 x0.spot.style.Back, .bool x0.spot.style.Bold, .bool x0.spot.style.Under, .bool x0.spot.style.Inverse, .int .i64 x0.saved.x, .int .i64 x0.saved.y, .int .i64 x0.saved.style.Fore, .int .i64 x0.saved.style.Back, .bool x0.saved.style.Bold, .bool x0.saved.style.Under, .bool x0.saved.style.Inverse, .bool x0.waiting, .int .i64 x0.top, .int .i64 x0.bottom, .bool x0.wraps, .string x0.title] 72 (0, 0)), some (pb1, .cells #[.int .i64 x0.g.w, .slice pa0 pn0 pc0] 108 (0, 0)), pe0]) := by
 refine Does.of Try.func26 rfl rfl fun w0 => sq <| rg <| pn 1 rfl <| nx <| sq <| rg <| pn 2 rfl <| va rfl (fd Fld72_7 rfl (bi 0 rfl rfl)) <| ?_
 refine va rfl (ld One9 rfl (Pt.part 19 1 (bi 0 rfl rfl) rfl)) <| pn 1 rfl <| nx <| rt <| ?_
 obtain rfl := si hk
 exact oR 3 rfl rfl ⟨rfl, rfl⟩
theorem Ok26 : CallOk Try.prog 26 := ⟨_, Try.func26, by kernel_rfl, by kernel_rfl⟩
/-! 27 (*tidewrack/grid.Grid).Rows -/
def grid_Grid_Rows (x0 : grid_Grid) : Option (List Row) :=
  (grid_copies x0.l).bind fun y106 => some y106
set_option maxRecDepth 20000 in
set_option maxHeartbeats 4000000 in
theorem grid_Grid_Rows_does {M : Mem} {x0 : grid_Grid} {pb0 : Nat} {pa0 : Option Addr} {pn0 pc0 : Nat} {pe0 : Ent} {r : List Row} (ph0 : OSl M E37 x0.l pa0 pn0 pc0 37 pe0) (hk : grid_Grid_Rows x0 = some r) :
    Does Try.prog 27 [.pointer (some ⟨pb0, 0, none⟩)].toArray M [some (pb0, .cells #[.int .i64 x0.w, .slice pa0 pn0 pc0] 108 (0, 0)), pe0] (fun v M' H' => ∃ a101 n102 c103 e105, v = .slice a101 n102 c103 ∧ OSl M' E37 r a101 n102 c103 37 e105 ∧ H' = [some (pb0, .cells #[.int .i64 x0.w, .slice pa0 pn0 pc0] 108 (0, 0)), pe0, e105]) := by
 refine Does.of Try.func27 rfl rfl fun w0 => sq <| rg <| pn 1 rfl <| nx <| sq <| rg <| pn 2 rfl <| va rfl (fd Fld108_1 rfl (bi 0 rfl rfl)) <| ?_
 refine va rfl (ld One22 rfl (Pt.part 1 1 (bi 0 rfl rfl) rfl)) <| se [1, 0] rfl <| bs hk fun y106 e107 hk => ca rfl Ok55 (grid_copies_does (ph0.rde) e107) rfl rfl <| ?_
 rintro _ M108 _ l109 ⟨a110, n111, c112, e114, rfl, h113, rfl⟩
 refine pn 1 rfl <| nx <| rt <| ?_
 obtain rfl := si hk
 exact seX [2, 0, 1] rfl <| oR 3 rfl rfl ⟨_, _, _, _, rfl, h113, rfl⟩
theorem Ok27 : CallOk Try.prog 27 := ⟨_, Try.func27, by kernel_rfl, by kernel_rfl⟩
theorem Fld78_0 : Fld Try.prog 78 0 0 0 := ⟨_, _, Try.underlying78, rfl, rfl, by kernel_rfl⟩
theorem One76 : One Try.prog 76 := ⟨_, Try.underlying76, rfl⟩
/-! 28 (*tidewrack/book.Book).Len -/
def book_Book_Len (x0 : book_Book) : Int :=
  (x0.l.length : Int)
set_option maxRecDepth 20000 in
set_option maxHeartbeats 4000000 in
theorem book_Book_Len_does {M : Mem} {x0 : book_Book} {pb0 : Nat} {pa0 : Option Addr} {pn0 pc0 : Nat} {pa1 : Option Addr} {pn1 pc1 : Nat} {pe1 : Ent} {pa2 : Option Addr} {pn2 pc2 : Nat} {r : Int} (ph0 : SRep M (eSlice E41) x0.l pa0 pn0 pc0) (ph1 : OSl M (eInt .i64) x0.chains pa1 pn1 pc1 3 pe1) (ph2 : SRep M E41 x0.begun pa2 pn2 pc2) (hk : some (book_Book_Len x0) = some r) :
    Does Try.prog 28 [.pointer (some ⟨pb0, 0, none⟩)].toArray M [some (pb0, .cells #[.slice pa0 pn0 pc0, .slice pa1 pn1 pc1, .slice pa2 pn2 pc2] 78 (0, 0)), pe1] (fun v M' H' => v = .int .i64 r ∧ H' = [some (pb0, .cells #[.slice pa0 pn0 pc0, .slice pa1 pn1 pc1, .slice pa2 pn2 pc2] 78 (0, 0)), pe1]) := by
 refine Does.of Try.func28 rfl rfl fun w0 => sq <| rg <| pn 1 rfl <| nx <| sq <| rg <| pn 2 rfl <| va rfl (fd Fld78_0 rfl (bi 0 rfl rfl)) <| ?_
 refine va rfl (ld One76 rfl (Pt.part 0 1 (bi 0 rfl rfl) rfl)) <| va rfl (lf Try.underlying76 ph0.len rfl) <| pn 1 rfl <| nx <| rt <| ?_
 obtain rfl := si hk
 exact oR 2 rfl rfl ⟨rfl, rfl⟩
theorem Ok28 : CallOk Try.prog 28 := ⟨_, Try.func28, by kernel_rfl, by kernel_rfl⟩
theorem Fld78_1 : Fld Try.prog 78 1 1 0 := ⟨_, _, Try.underlying78, rfl, rfl, by kernel_rfl⟩
theorem One75 : One Try.prog 75 := ⟨_, Try.underlying75, rfl⟩
/-! 29 (*tidewrack/book.Book).Chain -/
def book_Book_Chain (x0 : book_Book) (x1 : Int) : Option (Int) :=
  (idx x0.chains (gmax 0 (gmin x1 (x0.l.length : Int)))).bind fun y102 => some y102
set_option maxRecDepth 20000 in
set_option maxHeartbeats 4000000 in
theorem book_Book_Chain_does {M : Mem} {x0 : book_Book} {x1 : Int} {pb0 : Nat} {pa0 : Option Addr} {pn0 pc0 : Nat} {pa1 : Option Addr} {pn1 pc1 : Nat} {pe1 : Ent} {pa2 : Option Addr} {pn2 pc2 : Nat} {r : Int} (ph0 : SRep M (eSlice E41) x0.l pa0 pn0 pc0) (ph1 : OSl M (eInt .i64) x0.chains pa1 pn1 pc1 3 pe1) (ph2 : SRep M E41 x0.begun pa2 pn2 pc2) (hk : book_Book_Chain x0 x1 = some r) :
    Does Try.prog 29 [.pointer (some ⟨pb0, 0, none⟩), .int .i64 x1].toArray M [some (pb0, .cells #[.slice pa0 pn0 pc0, .slice pa1 pn1 pc1, .slice pa2 pn2 pc2] 78 (0, 0)), pe1] (fun v M' H' => v = .int .i64 r ∧ H' = [some (pb0, .cells #[.slice pa0 pn0 pc0, .slice pa1 pn1 pc1, .slice pa2 pn2 pc2] 78 (0, 0)), pe1]) := by
 refine Does.of Try.func29 rfl rfl fun w0 => sq <| rg <| pn 1 rfl <| nx <| sq <| ?_
 refine dt [0, 1] rfl 14 rfl (.tk [0, 1, 2, 3, 4, 5, 6, 7, 8, 9, 10, 11, 12, 13] .nil) Mixed (by kernel_rfl) <| dn 2 rfl <| dv rfl rfl (fd Fld78_1 rfl (bi 0 rfl rfl)) <| dv rfl rfl (ld One75 rfl (Pt.part 1 1 (bi 0 rfl rfl) rfl)) <| dn 3 rfl <| dv rfl rfl (fd Fld78_0 rfl (bi 0 rfl rfl)) <| dv rfl rfl (ld One76 rfl (Pt.part 0 1 (bi 0 rfl rfl) rfl)) <| dv rfl rfl (lf Try.underlying76 ph0.len rfl) <| dv rfl rfl (mi rfl rfl) <| ?_
 refine dv rfl rfl (ma rfl rfl) <| bs hk fun y102 e103 hk => ?_
 obtain ⟨i104, j105, h106⟩ := idx_some e103
 obtain ⟨_, rfl, h101⟩ := ph1.el h106
 refine dv rfl rfl (ix Sl75 rfl rfl i104 (lt_of ph1.len j105) h101.ne) <| dv rfl rfl (ld One3 rfl (h101.pt 1 rfl)) <| dd <| td rfl <| pn 1 rfl <| nx <| rt <| ?_
 obtain rfl := si hk
 exact oR 2 rfl rfl ⟨rfl, rfl⟩
theorem Ok29 : CallOk Try.prog 29 := ⟨_, Try.func29, by kernel_rfl, by kernel_rfl⟩
theorem Fld78_2 : Fld Try.prog 78 2 2 0 := ⟨_, _, Try.underlying78, rfl, rfl, by kernel_rfl⟩
theorem One23 : One Try.prog 23 := ⟨_, Try.underlying23, rfl⟩
theorem Sl23 : Sl Try.prog 23 41 2 := ⟨Try.underlying23, by kernel_rfl⟩
theorem El41 : El Try.prog 41 2 16 (.agg #[(.int .i32 0), (.int .i64 0)]) := ⟨by kernel_rfl, rfl⟩
/-! 20 slices.Clone[[]tidewrack/row.Glyph,tidewrack/row.Glyph] -/
def slices_Clone_row_Glyph (x0 : List Glyph) : Option (List Glyph) :=
  (cap (([] : List Glyph).length + x0.length)).bind fun y110 => some (([] : List Glyph) ++ x0)
set_option maxRecDepth 20000 in
set_option maxHeartbeats 4000000 in
theorem slices_Clone_row_Glyph_does {M : Mem} {x0 : List Glyph} {pa0 : Option Addr} {pn0 pc0 : Nat} {r : List Glyph} (ph0 : SRep M E41 x0 pa0 pn0 pc0) (hk : slices_Clone_row_Glyph x0 = some r) :
    Does Try.prog 20 [.slice pa0 pn0 pc0].toArray M [] (fun v M' H' => ∃ a101 n102 c103 e105, v = .slice a101 n102 c103 ∧ OSl M' E41 r a101 n102 c103 41 e105 ∧ H' = [e105]) := by
 refine Does.of Try.func20 rfl rfl fun w0 => sq <| rg <| pn 1 rfl <| nx <| sq <| sq <| rg <| pn 1 rfl <| ?_
 refine va rfl (run_nilS rfl Try.underlying23 rfl) <| nx <| ?_
 rcases Bool.eq_false_or_eq_true (Option.isNone pa0) with hb106 | hb106
 · have he107 := ph0.empty hb106
   subst he107
   replace hk : some ([] : List Glyph) = some r := hk
   refine cy rfl hb106 <| sq <| rg <| pn 1 rfl <| nx <| rt <| tr <| ?_
   obtain rfl := si hk
   exact blX <| oR 1 rfl rfl ⟨_, _, _, _, rfl, (OSl.nil _ _ _), rfl⟩
 refine cn rfl hb106 <| sk <| xn <| sq <| rg <| l0 E41 rfl Sl23 El41 fun b108 h109 => pn 1 rfl <| bs hk fun y110 e111 hk => ap (E := E41) 0 rfl Sl23 El41 rfl rfl h109 rfl (ph0.rds _) e111 rfl (fun _ => rfl) fun a112 n113 c114 e115 h116 => ?_
 refine pn 1 rfl <| nx <| rt <| ?_
 obtain rfl := si hk
 exact oR 1 rfl rfl ⟨_, _, _, _, rfl, h116, rfl⟩
theorem Ok20 : CallOk Try.prog 20 := ⟨_, Try.func20, by kernel_rfl, by kernel_rfl⟩
/-! 30 (*tidewrack/book.Book).Begun -/
def book_Book_Begun (x0 : book_Book) : Option (List Glyph) :=
  (slices_Clone_row_Glyph x0.begun).bind fun y106 => some y106
set_option maxRecDepth 20000 in
set_option maxHeartbeats 4000000 in
theorem book_Book_Begun_does {M : Mem} {x0 : book_Book} {pb0 : Nat} {pa0 : Option Addr} {pn0 pc0 : Nat} {pa1 : Option Addr} {pn1 pc1 : Nat} {pe1 : Ent} {pa2 : Option Addr} {pn2 pc2 : Nat} {r : List Glyph} (ph0 : SRep M (eSlice E41) x0.l pa0 pn0 pc0) (ph1 : OSl M (eInt .i64) x0.chains pa1 pn1 pc1 3 pe1) (ph2 : SRep M E41 x0.begun pa2 pn2 pc2) (hk : book_Book_Begun x0 = some r) :
    Does Try.prog 30 [.pointer (some ⟨pb0, 0, none⟩)].toArray M [some (pb0, .cells #[.slice pa0 pn0 pc0, .slice pa1 pn1 pc1, .slice pa2 pn2 pc2] 78 (0, 0)), pe1] (fun v M' H' => ∃ a101 n102 c103 e105, v = .slice a101 n102 c103 ∧ OSl M' E41 r a101 n102 c103 41 e105 ∧ H' = [some (pb0, .cells #[.slice pa0 pn0 pc0, .slice pa1 pn1 pc1, .slice pa2 pn2 pc2] 78 (0, 0)), pe1, e105]) := by
 refine Does.of Try.func30 rfl rfl fun w0 => sq <| rg <| pn 1 rfl <| nx <| sq <| rg <| pn 2 rfl <| va rfl (fd Fld78_2 rfl (bi 0 rfl rfl)) <| ?_
 refine va rfl (ld One23 rfl (Pt.part 2 1 (bi 0 rfl rfl) rfl)) <| bs hk fun y106 e107 hk => ca rfl Ok20 (slices_Clone_row_Glyph_does ph2 e107) rfl rfl <| ?_
 rintro _ M108 _ l109 ⟨a110, n111, c112, e114, rfl, h113, rfl⟩
 refine pn 1 rfl <| nx <| rt <| ?_
 obtain rfl := si hk
 exact seX [1, 2, 0] rfl <| oR 3 rfl rfl ⟨_, _, _, _, rfl, h113, rfl⟩
theorem Ok30 : CallOk Try.prog 30 := ⟨_, Try.func30, by kernel_rfl, by kernel_rfl⟩
theorem Bld25 : Bld Try.prog 25 (.agg #[(.int .i64 0), (.int .i64 0), (.int .i64 0), (.int .i64 0), (.int .i64 0), (.string ⟨#[]⟩), (.slice none 0 0), (.int .i64 0), (.int .i64 0), (.slice none 0 0)]) [(0, 1), (1, 1), (2, 1), (3, 1), (4, 1), (5, 1), (6, 1), (7, 1), (8, 1), (9, 1)] := ⟨_, Try.underlying25, by kernel_rfl, by kernel_rfl⟩
theorem Sz25 : Sz Try.prog 25 10 := ⟨by kernel_rfl⟩
theorem Fld25_1 : Fld Try.prog 25 1 1 0 := ⟨_, _, Try.underlying25, rfl, rfl, by kernel_rfl⟩
theorem Fld25_2 : Fld Try.prog 25 2 2 0 := ⟨_, _, Try.underlying25, rfl, rfl, by kernel_rfl⟩
theorem Fld72_1 : Fld Try.prog 72 1 1 6 := ⟨_, _, Try.underlying72, rfl, rfl, by kernel_rfl⟩
theorem Fld70_0 : Fld Try.prog 70 0 0 0 := ⟨_, _, Try.underlying70, rfl, rfl, by kernel_rfl⟩
theorem Fld70_1 : Fld Try.prog 70 1 1 0 := ⟨_, _, Try.underlying70, rfl, rfl, by kernel_rfl⟩
/-! 31 (*tidewrack/screen.Screen).Cursor -/
def screen_Screen_Cursor (x0 : screen_Screen) : Option (Int × Int) :=
  some (x0.spot.x, x0.spot.y)
set_option maxRecDepth 20000 in
set_option maxHeartbeats 4000000 in
theorem screen_Screen_Cursor_does {M : Mem} {x0 : screen_Screen} {pb0 : Nat} {pb1 : Nat} {pa0 : Option Addr} {pn0 pc0 : Nat} {pe0 : Ent} {r : Int × Int} (ph0 : OSl M E37 x0.g.l pa0 pn0 pc0 37 pe0) (hk : screen_Screen_Cursor x0 = some r) :
    Does Try.prog 31 [.pointer (some ⟨pb0, 0, none⟩)].toArray M [some (pb0, .cells #[.pointer (some ⟨pb1, 0, none⟩), .int .i64 x0.spot.x, .int .i64 x0.spot.y, .int .i64 x0.spot.style.Fore, .int .i64 x0.spot.style.Back, .bool x0.spot.style.Bold, .bool x0.spot.style.Under, .bool x0.spot.style.Inverse, .int .i64 x0.saved.x, .int .i64 x0.saved.y, .int .i64 x0.saved.style.Fore, .int .i64 x0.saved.style.Back, .bool x0.saved.style.Bold, .bool x0.saved.style.Under, .bool x0.saved.style.Inverse, .bool x0.waiting, .int .i64 x0.top, .int .i64 x0.bottom, .bool x0.wraps, .string x0.title] 72 (0, 0)), some (pb1, .cells #[.int .i64 x0.g.w, .slice pa0 pn0 pc0] 108 (0, 0)), pe0] (fun v M' H' => v = .tuple #[.int .i64 r.1, .int .i64 r.2] ∧ H' = [some (pb0, .cells #[.pointer (some ⟨pb1, 0, none⟩), .int .i64 x0.spot.x, .int .i64 x0.spot.y, .int .i64 x0.spot.style.Fore, .int .i64 x0.spot.style.Back, .bool x0.spot.style.Bold, .bool x0.spot.style.Under, .bool x0.spot.style.Inverse, .int .i64 x0.saved.x, .int .i64 x0.saved.y, .int .i64 x0.saved.style.Fore, .int .i64 x0.saved.style.Back, .bool x0.saved.style.Bold, .bool x0.saved.style.Under, .bool x0.saved.style.Inverse, .bool x0.waiting, .int .i64 x0.top, .int .i64 x0.bottom, .bool x0.wraps, .string x0.title] 72 (0, 0)), some (pb1, .cells #[.int .i64 x0.g.w, .slice pa0 pn0 pc0] 108 (0, 0)), pe0]) := by
 refine Does.of Try.func31 rfl rfl fun w0 => sq <| rg <| pn 2 rfl <| nx <| sq <| ?_
 refine dw [0, 1, 2] rfl (.tk [0, 1, 2, 3, 4, 5, 6, 7, 8, 9, 10, 11] .nil) Mixed (by kernel_rfl) <| dn 2 rfl <| dv rfl rfl (fd Fld72_1 rfl (bi 0 rfl rfl)) <| dv rfl rfl (fd Fld70_0 rfl (Pt.part 1 7 (bi 0 rfl rfl) rfl)) <| dv rfl rfl (ld One3 rfl (Pt.part 1 1 (bi 0 rfl rfl) rfl)) <| dn 2 rfl <| dv rfl rfl (fd Fld72_1 rfl (bi 0 rfl rfl)) <| dv rfl rfl (fd Fld70_1 rfl (Pt.part 1 7 (bi 0 rfl rfl) rfl)) <| dv rfl rfl (ld One3 rfl (Pt.part 2 1 (bi 0 rfl rfl) rfl)) <| ?_
 refine dn 2 rfl <| dd <| xn <| rt <| ?_
 obtain rfl := si hk
 exact oR 3 rfl rfl ⟨rfl, rfl⟩
theorem Ok31 : CallOk Try.prog 31 := ⟨_, Try.func31, by kernel_rfl, by kernel_rfl⟩
theorem Fld25_3 : Fld Try.prog 25 3 3 0 := ⟨_, _, Try.underlying25, rfl, rfl, by kernel_rfl⟩
theorem Fld25_4 : Fld Try.prog 25 4 4 0 := ⟨_, _, Try.underlying25, rfl, rfl, by kernel_rfl⟩
theorem Rowy25 : Rowy Try.prog 25 := ⟨_, Try.underlying25, rfl⟩
/-! 11 tidewrack/snap.Of -/
def snap_Of (x0 : Int) (x1 : screen_Screen) (x2 : book_Book) : Option (Snap) :=
  (screen_Screen_Grid x1).bind fun y112 => (grid_Grid_Rows y112).bind fun y124 => (book_Book_Chain x2 (book_Book_Len x2)).bind fun y137 => (book_Book_Begun x2).bind fun y141 => (grid_Grid_Size y112).bind fun y151 => (screen_Screen_Cursor x1).bind fun y155 => some (⟨x0, y151.1, y151.2, y155.1, y155.2, (screen_Screen_Title x1), y124, (book_Book_Len x2), y137, y141⟩ : Snap)
set_option maxRecDepth 20000 in
set_option maxHeartbeats 4000000 in
theorem snap_Of_does {M : Mem} {x0 : Int} {x1 : screen_Screen} {x2 : book_Book} {pb0 : Nat} {pb1 : Nat} {pa0 : Option Addr} {pn0 pc0 : Nat} {pe0 : Ent} {pb2 : Nat} {pa1 : Option Addr} {pn1 pc1 : Nat} {pa2 : Option Addr} {pn2 pc2 : Nat} {pe2 : Ent} {pa3 : Option Addr} {pn3 pc3 : Nat} {r : Snap} (ph0 : OSl M E37 x1.g.l pa0 pn0 pc0 37 pe0) (ph1 : SRep M (eSlice E41) x2.l pa1 pn1 pc1) (ph2 : OSl M (eInt .i64) x2.chains pa2 pn2 pc2 3 pe2) (ph3 : SRep M E41 x2.begun pa3 pn3 pc3) (hk : snap_Of x0 x1 x2 = some r) :
    Does Try.prog 11 [.int .i64 x0, .pointer (some ⟨pb0, 0, none⟩), .pointer (some ⟨pb2, 0, none⟩)].toArray M [some (pb0, .cells #[.pointer (some ⟨pb1, 0, none⟩), .int .i64 x1.spot.x, .int .i64 x1.spot.y, .int .i64 x1.spot.style.Fore, .int .i64 x1.spot.style.Back, .bool x1.spot.style.Bold, .bool x1.spot.style.Under, .bool x1.spot.style.Inverse, .int .i64 x1.saved.x, .int .i64 x1.saved.y, .int .i64 x1.saved.style.Fore, .int .i64 x1.saved.style.Back, .bool x1.saved.style.Bold, .bool x1.saved.style.Under, .bool x1.saved.style.Inverse, .bool x1.waiting, .int .i64 x1.top, .int .i64 x1.bottom, .bool x1.wraps, .string x1.title] 72 (0, 0)), some (pb1, .cells #[.int .i64 x1.g.w, .slice pa0 pn0 pc0] 108 (0, 0)), pe0, some (pb2, .cells #[.slice pa1 pn1 pc1, .slice pa2 pn2 pc2, .slice pa3 pn3 pc3] 78 (0, 0)), pe2] (fun v M' H' => ∃ a101 n102 c103 e105 a106 n107 c108 e110, v = .agg #[.int .i64 r.K, .int .i64 r.W, .int .i64 r.H, .int .i64 r.X, .int .i64 r.Y, .string r.Title, .slice a101 n102 c103, .int .i64 r.Len, .int .i64 r.Chain, .slice a106 n107 c108] ∧ OSl M' E37 r.Rows a101 n102 c103 37 e105 ∧ OSl M' E41 r.Begun a106 n107 c108 41 e110 ∧ H' = [some (pb0, .cells #[.pointer (some ⟨pb1, 0, none⟩), .int .i64 x1.spot.x, .int .i64 x1.spot.y, .int .i64 x1.spot.style.Fore, .int .i64 x1.spot.style.Back, .bool x1.spot.style.Bold, .bool x1.spot.style.Under, .bool x1.spot.style.Inverse, .int .i64 x1.saved.x, .int .i64 x1.saved.y, .int .i64 x1.saved.style.Fore, .int .i64 x1.saved.style.Back, .bool x1.saved.style.Bold, .bool x1.saved.style.Under, .bool x1.saved.style.Inverse, .bool x1.waiting, .int .i64 x1.top, .int .i64 x1.bottom, .bool x1.wraps, .string x1.title] 72 (0, 0)), some (pb1, .cells #[.int .i64 x1.g.w, .slice pa0 pn0 pc0] 108 (0, 0)), pe0, some (pb2, .cells #[.slice pa1 pn1 pc1, .slice pa2 pn2 pc2, .slice pa3 pn3 pc3] 78 (0, 0)), pe2, e105, e110]) := by
 refine Does.of Try.func11 rfl rfl fun w0 => sq <| rg <| al rfl Zr25 fun b111 => nx <| sq <| rg <| pn 1 rfl <| se [1, 2, 3, 0, 4, 5] rfl <| ?_
 refine bs hk fun y112 e113 hk => ca rfl Ok25 (screen_Screen_Grid_does ph0 e113) rfl rfl <| ?_
 rintro _ M114 _ l115 ⟨b116, a117, n118, c119, e121, rfl, h120, rfl⟩
 refine pn 1 rfl <| nx <| sq <| rg <| pn 2 rfl <| ?_
 have ph0 := ph0.mono l115
 refine caq rfl Ok26 (screen_Screen_Title_does ph0 (tt (screen_Screen_Title x1))) rfl rfl <| pn 1 rfl <| se [3, 4, 0, 1, 2, 5, 6, 7] rfl <| bs hk fun y124 e125 hk => ca rfl Ok27 (grid_Grid_Rows_does h120 e125) rfl rfl <| ?_
 rintro _ M126 _ l127 ⟨a128, n129, c130, e132, rfl, h131, rfl⟩
 refine pn 1 rfl <| ?_
 have ph1 := ph1.mono (l115.t l127)
 have ph2 := ph2.mono (l115.t l127)
 have ph3 := ph3.mono (l115.t l127)
 refine se [7, 8, 0, 1, 2, 3, 4, 5, 6] rfl <| caq rfl Ok28 (book_Book_Len_does ph1 ph2 ph3 (tt (book_Book_Len x2))) rfl rfl <| pn 2 rfl <| caq rfl Ok28 (book_Book_Len_does ph1 ph2 ph3 (tt (book_Book_Len x2))) rfl rfl <| bs hk fun y137 e138 hk => caq rfl Ok29 (book_Book_Chain_does ph1 ph2 ph3 e138) rfl rfl <| pn 1 rfl <| bs hk fun y141 e142 hk => ca rfl Ok30 (book_Book_Begun_does ph1 ph2 ph3 e142) rfl rfl <| ?_
 rintro _ M143 _ l144 ⟨a145, n146, c147, e149, rfl, h148, rfl⟩
 refine va rfl (bd (cells := [.int .i64 x0, .int .i64 0, .int .i64 0, .int .i64 0, .int .i64 0, .string (screen_Screen_Title x1), .slice a128 n129 c130, .int .i64 (book_Book_Len x2), .int .i64 y137, .slice a145 n146 c147]) Bld25 rfl) <| al rfl Zr25 fun b150 => sr 0 rfl Sz25 rfl rfl rfl rfl rfl <| nx <| sq <| rg <| pn 1 rfl <| ?_
 have h120 := h120.mono (l127.t l144)
 refine se [4, 5, 0, 1, 2, 3, 6, 7, 8, 9, 10] rfl <| bs hk fun y151 e152 hk => caq rfl Ok24 (grid_Grid_Size_does h120 e152) rfl rfl <| pn 3 rfl <| va rfl (fd Fld25_1 rfl (bi 2 rfl rfl)) <| sr 2 rfl Sz3 rfl rfl rfl rfl rfl <| va rfl (fd Fld25_2 rfl (bi 2 rfl rfl)) <| sr 2 rfl Sz3 rfl rfl rfl rfl rfl <| nx <| ?_
 refine sq <| rg <| pn 1 rfl <| ?_
 have ph0 := ph0.mono (l127.t l144)
 refine se [7, 8, 9, 0, 1, 2, 3, 4, 5, 6, 10] rfl <| bs hk fun y155 e156 hk => caq rfl Ok31 (screen_Screen_Cursor_does ph0 e156) rfl rfl <| pn 3 rfl <| va rfl (fd Fld25_3 rfl (bi 5 rfl rfl)) <| sr 5 rfl Sz3 rfl rfl rfl rfl rfl <| va rfl (fd Fld25_4 rfl (bi 5 rfl rfl)) <| sr 5 rfl Sz3 rfl rfl rfl rfl rfl <| nx <| ?_
 refine sq <| rg <| va rfl (lN Rowy25 Sz25 rfl (bi 5 rfl rfl) rfl) <| sr 10 rfl Sz25 rfl rfl rfl rfl rfl <| nx <| rt <| ?_
 obtain rfl := si hk
 refine seX [0, 1, 2, 6, 7, 9, 8, 10] rfl <| ?_
 have h131 := h131.mono l144
 exact Ex.out 7 rfl (.inl rfl) rfl (rs := [_]) (vs := [_]) ⟨⟨_, rfl, .inr ⟨Rowy25, _, _, rfl, Sz25, (bi 7 rfl rfl), rfl⟩⟩, trivial⟩ rfl ⟨_, _, _, _, _, _, _, _, rfl, h131, h148, rfl⟩
theorem Ok11 : CallOk Try.prog 11 := ⟨_, Try.func11, by kernel_rfl, by kernel_rfl⟩
theorem Fld25_0 : Fld Try.prog 25 0 0 0 := ⟨_, _, Try.underlying25, rfl, rfl, by kernel_rfl⟩
theorem Fld25_5 : Fld Try.prog 25 5 5 0 := ⟨_, _, Try.underlying25, rfl, rfl, by kernel_rfl⟩
theorem Fld25_6 : Fld Try.prog 25 6 6 0 := ⟨_, _, Try.underlying25, rfl, rfl, by kernel_rfl⟩
theorem Fld25_7 : Fld Try.prog 25 7 7 0 := ⟨_, _, Try.underlying25, rfl, rfl, by kernel_rfl⟩
theorem Fld25_8 : Fld Try.prog 25 8 8 0 := ⟨_, _, Try.underlying25, rfl, rfl, by kernel_rfl⟩
theorem Fld25_9 : Fld Try.prog 25 9 9 0 := ⟨_, _, Try.underlying25, rfl, rfl, by kernel_rfl⟩
/-! 32 (tidewrack/snap.Snap).empty -/
def snap_Snap_empty (x0 : Snap) : Bool :=
  ((((((((((x0.K == 0) && (x0.W == 0)) && (x0.H == 0)) && (x0.X == 0)) && (x0.Y == 0)) && (seq x0.Title (⟨#[]⟩ : ByteArray))) && ((x0.Rows.length : Int) == 0)) && (x0.Len == 0)) && (x0.Chain == 0)) && ((x0.Begun.length : Int) == 0))
set_option maxRecDepth 20000 in
set_option maxHeartbeats 4000000 in
theorem snap_Snap_empty_does {M : Mem} {x0 : Snap} {pa0 : Option Addr} {pn0 pc0 : Nat} {pe0 : Ent} {pa1 : Option Addr} {pn1 pc1 : Nat} {pe1 : Ent} {r : Bool} (ph0 : RdE M E37 x0.Rows pa0 pn0 pc0 pe0) (ph1 : RdE M E41 x0.Begun pa1 pn1 pc1 pe1) (hk : some (snap_Snap_empty x0) = some r) :
    Does Try.prog 32 [.agg #[.int .i64 x0.K, .int .i64 x0.W, .int .i64 x0.H, .int .i64 x0.X, .int .i64 x0.Y, .string x0.Title, .slice pa0 pn0 pc0, .int .i64 x0.Len, .int .i64 x0.Chain, .slice pa1 pn1 pc1]].toArray M [pe0, pe1] (fun v M' H' => v = .bool r ∧ H' = [pe0, pe1]) := by
 refine Does.of Try.func32 rfl rfl fun w0 => sq <| rg <| bx rfl rfl fun b101 => pn 1 rfl <| nx <| sq <| rg <| va rfl (fd Fld25_0 rfl (bi 0 rfl rfl)) <| va rfl (ld One3 rfl (Pt.part 0 1 (bi 0 rfl rfl) rfl)) <| pn 2 rfl <| jA 10 4 rfl (x0.W == 0) (fun J130 e129 => ?_) ?_
 · rcases cs e129 with ⟨e131, e129⟩ | ⟨e131, e129⟩
   · exact kt 6 e131 rfl <| va rfl (fd Fld25_1 rfl (bi 0 rfl rfl)) <| va rfl (ld One3 rfl (Pt.part 1 1 (bi 0 rfl rfl) rfl)) <| pn 2 rfl <| ji 5 J130 rfl rfl rfl e129
   exact kf 6 e131 rfl <| pn 4 rfl <| ji 5 J130 rfl rfl rfl e129
 refine pn 1 rfl <| jA 15 4 rfl (x0.H == 0) (fun J133 e132 => ?_) ?_
 · rcases cs e132 with ⟨e134, e132⟩ | ⟨e134, e132⟩
   · exact kt 11 e134 rfl <| va rfl (fd Fld25_2 rfl (bi 0 rfl rfl)) <| va rfl (ld One3 rfl (Pt.part 2 1 (bi 0 rfl rfl) rfl)) <| pn 2 rfl <| ji 5 J133 rfl rfl rfl e132
   exact kf 11 e134 rfl <| pn 4 rfl <| ji 5 J133 rfl rfl rfl e132
 refine pn 1 rfl <| jA 20 4 rfl (x0.X == 0) (fun J136 e135 => ?_) ?_
 · rcases cs e135 with ⟨e137, e135⟩ | ⟨e137, e135⟩
   · exact kt 16 e137 rfl <| va rfl (fd Fld25_3 rfl (bi 0 rfl rfl)) <| va rfl (ld One3 rfl (Pt.part 3 1 (bi 0 rfl rfl) rfl)) <| pn 2 rfl <| ji 5 J136 rfl rfl rfl e135
   exact kf 16 e137 rfl <| pn 4 rfl <| ji 5 J136 rfl rfl rfl e135
 refine pn 1 rfl <| jA 25 4 rfl (x0.Y == 0) (fun J139 e138 => ?_) ?_
 · rcases cs e138 with ⟨e140, e138⟩ | ⟨e140, e138⟩
   · exact kt 21 e140 rfl <| va rfl (fd Fld25_4 rfl (bi 0 rfl rfl)) <| va rfl (ld One3 rfl (Pt.part 4 1 (bi 0 rfl rfl) rfl)) <| pn 2 rfl <| ji 5 J139 rfl rfl rfl e138
   exact kf 21 e140 rfl <| pn 4 rfl <| ji 5 J139 rfl rfl rfl e138
 refine pn 1 rfl <| jA 30 4 rfl (seq x0.Title (⟨#[]⟩ : ByteArray)) (fun J142 e141 => ?_) ?_
 · rcases cs e141 with ⟨e143, e141⟩ | ⟨e143, e141⟩
   · exact kt 26 e143 rfl <| va rfl (fd Fld25_5 rfl (bi 0 rfl rfl)) <| va rfl (ld One9 rfl (Pt.part 5 1 (bi 0 rfl rfl) rfl)) <| va rfl (run_seql rfl rfl rfl) <| pn 1 rfl <| ji 5 J142 rfl rfl rfl e141
   exact kf 26 e143 rfl <| pn 4 rfl <| ji 5 J142 rfl rfl rfl e141
 refine pn 1 rfl <| jA 36 5 rfl ((x0.Rows.length : Int) == 0) (fun J145 e144 => ?_) ?_
 · rcases cs e144 with ⟨e146, e144⟩ | ⟨e146, e144⟩
   · exact kt 31 e146 rfl <| va rfl (fd Fld25_6 rfl (bi 0 rfl rfl)) <| va rfl (ld One22 rfl (Pt.part 6 1 (bi 0 rfl rfl) rfl)) <| va rfl (lf Try.underlying22 ph0.len rfl) <| pn 2 rfl <| ji 6 J145 rfl rfl rfl e144
   exact kf 31 e146 rfl <| pn 5 rfl <| ji 6 J145 rfl rfl rfl e144
 refine pn 1 rfl <| jA 41 4 rfl (x0.Len == 0) (fun J148 e147 => ?_) ?_
 · rcases cs e147 with ⟨e149, e147⟩ | ⟨e149, e147⟩
   · exact kt 37 e149 rfl <| va rfl (fd Fld25_7 rfl (bi 0 rfl rfl)) <| va rfl (ld One3 rfl (Pt.part 7 1 (bi 0 rfl rfl) rfl)) <| pn 2 rfl <| ji 5 J148 rfl rfl rfl e147
   exact kf 37 e149 rfl <| pn 4 rfl <| ji 5 J148 rfl rfl rfl e147
 refine pn 1 rfl <| jA 46 4 rfl (x0.Chain == 0) (fun J151 e150 => ?_) ?_
 · rcases cs e150 with ⟨e152, e150⟩ | ⟨e152, e150⟩
   · exact kt 42 e152 rfl <| va rfl (fd Fld25_8 rfl (bi 0 rfl rfl)) <| va rfl (ld One3 rfl (Pt.part 8 1 (bi 0 rfl rfl) rfl)) <| pn 2 rfl <| ji 5 J151 rfl rfl rfl e150
   exact kf 42 e152 rfl <| pn 4 rfl <| ji 5 J151 rfl rfl rfl e150
 refine pn 1 rfl <| jA 52 5 rfl ((x0.Begun.length : Int) == 0) (fun J154 e153 => ?_) ?_
 · rcases cs e153 with ⟨e155, e153⟩ | ⟨e155, e153⟩
   · exact kt 47 e155 rfl <| va rfl (fd Fld25_9 rfl (bi 0 rfl rfl)) <| va rfl (ld One23 rfl (Pt.part 9 1 (bi 0 rfl rfl) rfl)) <| va rfl (lf Try.underlying23 ph1.len rfl) <| pn 2 rfl <| ji 6 J154 rfl rfl rfl e153
   exact kf 47 e155 rfl <| pn 5 rfl <| ji 6 J154 rfl rfl rfl e153
 refine pn 1 rfl <| nx <| rt <| ?_
 obtain rfl := si hk
 exact seX [1, 2] rfl <| oR 2 rfl rfl ⟨rfl, rfl⟩
theorem Ok32 : CallOk Try.prog 32 := ⟨_, Try.func32, by kernel_rfl, by kernel_rfl⟩
/-! 76 tidewrack/snap.within -/
def snap_within (x0 : Int) (x1 : Int) (x2 : Int) : Bool :=
  ((decide (x0 ≥ x1)) && (decide (x0 ≤ x2)))
set_option maxRecDepth 20000 in
set_option maxHeartbeats 4000000 in
theorem snap_within_does {M : Mem} {x0 : Int} {x1 : Int} {x2 : Int}  {r : Bool}  (hk : some (snap_within x0 x1 x2) = some r) :
    Does Try.prog 76 [.int .i64 x0, .int .i64 x1, .int .i64 x2].toArray M [] (fun v M' H' => v = .bool r ∧ H' = []) := by
 refine Does.of Try.func76 rfl rfl fun w0 => sq <| rg <| pn 1 rfl <| nx <| sq <| rg <| pn 4 rfl <| jA 14 4 rfl (decide (x0 ≤ x2)) (fun J105 e104 => ?_) ?_
 · rcases cs e104 with ⟨e106, e104⟩ | ⟨e106, e104⟩
   · exact kt 10 e106 rfl <| pn 4 rfl <| ji 5 J105 rfl rfl rfl e104
   exact kf 10 e106 rfl <| pn 4 rfl <| ji 5 J105 rfl rfl rfl e104
 refine pn 1 rfl <| nx <| rt <| ?_
 obtain rfl := si hk
 exact oR 0 rfl rfl ⟨rfl, rfl⟩
theorem Ok76 : CallOk Try.prog 76 := ⟨_, Try.func76, by kernel_rfl, by kernel_rfl⟩
/-! 56 (tidewrack/snap.Snap).sizes -/
def snap_Snap_sizes (x0 : Snap) : Bool :=
  ((((((((((snap_within x0.K 1 1152921504606846976) && (snap_within x0.W 1 1000)) && (snap_within x0.H 1 1000)) && (snap_within x0.X 0 (w64 (x0.W - 1)))) && (snap_within x0.Y 0 (w64 (x0.H - 1)))) && ((x0.Rows.length : Int) == x0.H)) && (decide ((x0.Title.size : Int) ≤ 200))) && (snap_within x0.Len 0 1152921504606846976)) && (snap_within x0.Chain 0 281474976710656)) && (decide ((x0.Begun.length : Int) ≤ 1024)))
set_option maxRecDepth 20000 in
set_option maxHeartbeats 4000000 in
theorem snap_Snap_sizes_does {M : Mem} {x0 : Snap} {pa0 : Option Addr} {pn0 pc0 : Nat} {pe0 : Ent} {pa1 : Option Addr} {pn1 pc1 : Nat} {pe1 : Ent} {r : Bool} (ph0 : RdE M E37 x0.Rows pa0 pn0 pc0 pe0) (ph1 : RdE M E41 x0.Begun pa1 pn1 pc1 pe1) (hk : some (snap_Snap_sizes x0) = some r) :
    Does Try.prog 56 [.agg #[.int .i64 x0.K, .int .i64 x0.W, .int .i64 x0.H, .int .i64 x0.X, .int .i64 x0.Y, .string x0.Title, .slice pa0 pn0 pc0, .int .i64 x0.Len, .int .i64 x0.Chain, .slice pa1 pn1 pc1]].toArray M [pe0, pe1] (fun v M' H' => v = .bool r ∧ H' = [pe0, pe1]) := by
 refine Does.of Try.func56 rfl rfl fun w0 => sq <| rg <| bx rfl rfl fun b101 => pn 1 rfl <| nx <| sq <| rg <| va rfl (fd Fld25_0 rfl (bi 0 rfl rfl)) <| va rfl (ld One3 rfl (Pt.part 0 1 (bi 0 rfl rfl) rfl)) <| caq rfl Ok76 (snap_within_does (tt (snap_within x0.K 1 1152921504606846976))) rfl rfl <| pn 1 rfl <| jA 10 4 rfl (snap_within x0.W 1 1000) (fun J160 e159 => ?_) ?_
 · rcases cs e159 with ⟨e161, e159⟩ | ⟨e161, e159⟩
   · exact kt 6 e161 rfl <| va rfl (fd Fld25_1 rfl (bi 0 rfl rfl)) <| va rfl (ld One3 rfl (Pt.part 1 1 (bi 0 rfl rfl) rfl)) <| caq rfl Ok76 (snap_within_does (tt (snap_within x0.W 1 1000))) rfl rfl <| pn 1 rfl <| ji 5 J160 rfl rfl rfl e159
   exact kf 6 e161 rfl <| pn 4 rfl <| ji 5 J160 rfl rfl rfl e159
 refine pn 1 rfl <| jA 15 4 rfl (snap_within x0.H 1 1000) (fun J167 e166 => ?_) ?_
 · rcases cs e166 with ⟨e168, e166⟩ | ⟨e168, e166⟩
   · exact kt 11 e168 rfl <| va rfl (fd Fld25_2 rfl (bi 0 rfl rfl)) <| va rfl (ld One3 rfl (Pt.part 2 1 (bi 0 rfl rfl) rfl)) <| caq rfl Ok76 (snap_within_does (tt (snap_within x0.H 1 1000))) rfl rfl <| pn 1 rfl <| ji 5 J167 rfl rfl rfl e166
   exact kf 11 e168 rfl <| pn 4 rfl <| ji 5 J167 rfl rfl rfl e166
 refine pn 1 rfl <| jA 23 7 rfl (snap_within x0.X 0 (w64 (x0.W - 1))) (fun J174 e173 => ?_) ?_
 · rcases cs e173 with ⟨e175, e173⟩ | ⟨e175, e173⟩
   · refine kt 16 e175 rfl <| va rfl (fd Fld25_3 rfl (bi 0 rfl rfl)) <| va rfl (ld One3 rfl (Pt.part 3 1 (bi 0 rfl rfl) rfl)) <| va rfl (fd Fld25_1 rfl (bi 0 rfl rfl)) <| va rfl (ld One3 rfl (Pt.part 1 1 (bi 0 rfl rfl) rfl)) <| pn 1 rfl <| caq rfl Ok76 (snap_within_does (tt (snap_within x0.X 0 (w64 (x0.W - 1))))) rfl rfl <| pn 1 rfl <| ?_
     exact ji 8 J174 rfl rfl rfl e173
   exact kf 16 e175 rfl <| pn 7 rfl <| ji 8 J174 rfl rfl rfl e173
 refine pn 1 rfl <| jA 31 7 rfl (snap_within x0.Y 0 (w64 (x0.H - 1))) (fun J181 e180 => ?_) ?_
 · rcases cs e180 with ⟨e182, e180⟩ | ⟨e182, e180⟩
   · refine kt 24 e182 rfl <| va rfl (fd Fld25_4 rfl (bi 0 rfl rfl)) <| va rfl (ld One3 rfl (Pt.part 4 1 (bi 0 rfl rfl) rfl)) <| va rfl (fd Fld25_2 rfl (bi 0 rfl rfl)) <| va rfl (ld One3 rfl (Pt.part 2 1 (bi 0 rfl rfl) rfl)) <| pn 1 rfl <| caq rfl Ok76 (snap_within_does (tt (snap_within x0.Y 0 (w64 (x0.H - 1))))) rfl rfl <| pn 1 rfl <| ?_
     exact ji 8 J181 rfl rfl rfl e180
   exact kf 24 e182 rfl <| pn 7 rfl <| ji 8 J181 rfl rfl rfl e180
 refine pn 1 rfl <| jA 39 7 rfl ((x0.Rows.length : Int) == x0.H) (fun J186 e185 => ?_) ?_
 · rcases cs e185 with ⟨e187, e185⟩ | ⟨e187, e185⟩
   · refine kt 32 e187 rfl <| va rfl (fd Fld25_6 rfl (bi 0 rfl rfl)) <| va rfl (ld One22 rfl (Pt.part 6 1 (bi 0 rfl rfl) rfl)) <| va rfl (lf Try.underlying22 ph0.len rfl) <| va rfl (fd Fld25_2 rfl (bi 0 rfl rfl)) <| va rfl (ld One3 rfl (Pt.part 2 1 (bi 0 rfl rfl) rfl)) <| pn 2 rfl <| ?_
     exact ji 8 J186 rfl rfl rfl e185
   exact kf 32 e187 rfl <| pn 7 rfl <| ji 8 J186 rfl rfl rfl e185
 refine pn 1 rfl <| jA 45 5 rfl (decide ((x0.Title.size : Int) ≤ 200)) (fun J189 e188 => ?_) ?_
 · rcases cs e188 with ⟨e190, e188⟩ | ⟨e190, e188⟩
   · exact kt 40 e190 rfl <| va rfl (fd Fld25_5 rfl (bi 0 rfl rfl)) <| va rfl (ld One9 rfl (Pt.part 5 1 (bi 0 rfl rfl) rfl)) <| va rfl (sln Try.underlying9 rfl) <| pn 2 rfl <| ji 6 J189 rfl rfl rfl e188
   exact kf 40 e190 rfl <| pn 5 rfl <| ji 6 J189 rfl rfl rfl e188
 refine pn 1 rfl <| jA 50 4 rfl (snap_within x0.Len 0 1152921504606846976) (fun J194 e193 => ?_) ?_
 · rcases cs e193 with ⟨e195, e193⟩ | ⟨e195, e193⟩
   · exact kt 46 e195 rfl <| va rfl (fd Fld25_7 rfl (bi 0 rfl rfl)) <| va rfl (ld One3 rfl (Pt.part 7 1 (bi 0 rfl rfl) rfl)) <| caq rfl Ok76 (snap_within_does (tt (snap_within x0.Len 0 1152921504606846976))) rfl rfl <| pn 1 rfl <| ji 5 J194 rfl rfl rfl e193
   exact kf 46 e195 rfl <| pn 4 rfl <| ji 5 J194 rfl rfl rfl e193
 refine pn 1 rfl <| jA 55 4 rfl (snap_within x0.Chain 0 281474976710656) (fun J201 e200 => ?_) ?_
 · rcases cs e200 with ⟨e202, e200⟩ | ⟨e202, e200⟩
   · exact kt 51 e202 rfl <| va rfl (fd Fld25_8 rfl (bi 0 rfl rfl)) <| va rfl (ld One3 rfl (Pt.part 8 1 (bi 0 rfl rfl) rfl)) <| caq rfl Ok76 (snap_within_does (tt (snap_within x0.Chain 0 281474976710656))) rfl rfl <| pn 1 rfl <| ji 5 J201 rfl rfl rfl e200
   exact kf 51 e202 rfl <| pn 4 rfl <| ji 5 J201 rfl rfl rfl e200
 refine pn 1 rfl <| jA 61 5 rfl (decide ((x0.Begun.length : Int) ≤ 1024)) (fun J206 e205 => ?_) ?_
 · rcases cs e205 with ⟨e207, e205⟩ | ⟨e207, e205⟩
   · exact kt 56 e207 rfl <| va rfl (fd Fld25_9 rfl (bi 0 rfl rfl)) <| va rfl (ld One23 rfl (Pt.part 9 1 (bi 0 rfl rfl) rfl)) <| va rfl (lf Try.underlying23 ph1.len rfl) <| pn 2 rfl <| ji 6 J206 rfl rfl rfl e205
   exact kf 56 e207 rfl <| pn 5 rfl <| ji 6 J206 rfl rfl rfl e205
 refine pn 1 rfl <| nx <| rt <| ?_
 obtain rfl := si hk
 exact seX [1, 2] rfl <| oR 2 rfl rfl ⟨rfl, rfl⟩
theorem Ok56 : CallOk Try.prog 56 := ⟨_, Try.func56, by kernel_rfl, by kernel_rfl⟩
theorem Rowy41 : Rowy Try.prog 41 := ⟨_, Try.underlying41, rfl⟩
theorem Sz41 : Sz Try.prog 41 2 := ⟨by kernel_rfl⟩
theorem Fld41_0 : Fld Try.prog 41 0 0 0 := ⟨_, _, Try.underlying41, rfl, rfl, by kernel_rfl⟩
theorem One21 : One Try.prog 21 := ⟨_, Try.underlying21, rfl⟩
theorem Fld41_1 : Fld Try.prog 41 1 1 0 := ⟨_, _, Try.underlying41, rfl, rfl, by kernel_rfl⟩
/-! 59 tidewrack/snap.shows -/
def snap_shows (x0 : Int) (x1 : Int) : Bool :=
  ((snap_within (w64 x0) 0 1114111) && (snap_within x1 0 647))
set_option maxRecDepth 20000 in
set_option maxHeartbeats 4000000 in
theorem snap_shows_does {M : Mem} {x0 : Int} {x1 : Int}  {r : Bool}  (hk : some (snap_shows x0 x1) = some r) :
    Does Try.prog 59 [.int .i32 x0, .int .i64 x1].toArray M [] (fun v M' H' => v = .bool r ∧ H' = []) := by
 refine Does.of Try.func59 rfl rfl fun w0 => sq <| rg <| pn 1 rfl <| nx <| sq <| rg <| pn 1 rfl <| va rfl (cv rfl Try.underlying3 Try.underlying21) <| caq rfl Ok76 (snap_within_does (tt (snap_within (w64 x0) 0 1114111))) rfl rfl <| pn 1 rfl <| jA 11 3 rfl (snap_within x1 0 647) (fun J115 e114 => ?_) ?_
 · rcases cs e114 with ⟨e116, e114⟩ | ⟨e116, e114⟩
   · exact kt 8 e116 rfl <| pn 1 rfl <| caq rfl Ok76 (snap_within_does (tt (snap_within x1 0 647))) rfl rfl <| pn 1 rfl <| ji 4 J115 rfl rfl rfl e114
   exact kf 8 e116 rfl <| pn 3 rfl <| ji 4 J115 rfl rfl rfl e114
 refine pn 1 rfl <| nx <| rt <| ?_
 obtain rfl := si hk
 exact oR 0 rfl rfl ⟨rfl, rfl⟩
theorem Ok59 : CallOk Try.prog 59 := ⟨_, Try.func59, by kernel_rfl, by kernel_rfl⟩
/-! 58 (tidewrack/snap.Snap).Check$1 -/
def snap_Snap_Check_1 (x0 : Glyph) : Bool :=
  (!(snap_shows x0.Rune x0.Style))
set_option maxRecDepth 20000 in
set_option maxHeartbeats 4000000 in
theorem snap_Snap_Check_1_does {M : Mem} {x0 : Glyph}  {r : Bool}  (hk : some (snap_Snap_Check_1 x0) = some r) :
    Does Try.prog 58 [.agg #[.int .i32 x0.Rune, .int .i64 x0.Style]].toArray M [] (fun v M' H' => v = .bool r ∧ H' = []) := by
 refine Does.of Try.func58 rfl rfl fun w0 => sq <| rg <| bx rfl rfl fun b101 => pn 1 rfl <| nx <| sq <| rg <| va rfl (fd Fld41_0 rfl (bi 0 rfl rfl)) <| ?_
 refine va rfl (ld One21 rfl (Pt.part 0 1 (bi 0 rfl rfl) rfl)) <| va rfl (fd Fld41_1 rfl (bi 0 rfl rfl)) <| va rfl (ld One3 rfl (Pt.part 1 1 (bi 0 rfl rfl) rfl)) <| caq rfl Ok59 (snap_shows_does (tt (snap_shows x0.Rune x0.Style))) rfl rfl <| pn 2 rfl <| nx <| rt <| ?_
 obtain rfl := si hk
 exact seX [] rfl <| oR 0 rfl rfl ⟨rfl, rfl⟩
theorem Ok58 : CallOk Try.prog 58 := ⟨_, Try.func58, by kernel_rfl, by kernel_rfl⟩
/-! 77 slices.IndexFunc[[]tidewrack/row.Glyph,tidewrack/row.Glyph] -/
def slices_IndexFunc_row_Glyph_l1  : List Glyph → Int → Option (Int)
  | [], p124 =>
  some (-1)
  | y133 :: ys134, p124 =>
  (bif (snap_Snap_Check_1 y133) then some p124 else (slices_IndexFunc_row_Glyph_l1 ys134 (p124 + 1)))
def slices_IndexFunc_row_Glyph (x0 : List Glyph) : Option (Int) :=
  (cap x0.length).bind fun y135 => slices_IndexFunc_row_Glyph_l1 x0 0
set_option maxRecDepth 20000 in
set_option maxHeartbeats 4000000 in
theorem slices_IndexFunc_row_Glyph_does {M : Mem} {x0 : List Glyph} {pa0 : Option Addr} {pn0 pc0 : Nat} {pe0 : Ent} {r : Int} (ph0 : RdE M E41 x0 pa0 pn0 pc0 pe0) (hk : slices_IndexFunc_row_Glyph x0 = some r) :
    Does Try.prog 77 [.slice pa0 pn0 pc0, .func (.func 58) #[] #[]].toArray M [pe0] (fun v M' H' => v = .int .i64 r ∧ H' = [pe0]) := by
 refine Does.of Try.func77 rfl rfl fun w0 => sq <| rg <| pn 1 rfl <| nx <| sq <| sq <| rg <| pn 1 rfl <| ?_
 refine va rfl (lf Try.underlying23 ph0.len rfl) <| pn 1 rfl <| nx <| bk <| bs hk fun y135 e136 hk => Cd.loop <| ?_
 refine ls (l' := [(0, .slice pa0 pn0 pc0), (1, .func (.func 58) #[] #[]), (4, .int .i64 0), (7, .int .i64 (x0.length : Int)), (8, .int .i64 0)]) rfl <| ?_
 refine Lp.lst (xs := x0) e136 (fun ys_ p124 M125 H' l' => Mem.le M M125 ∧ slices_IndexFunc_row_Glyph_l1 ys_ p124 = some r ∧ l' = [(0, .slice pa0 pn0 pc0), (1, .func (.func 58) #[] #[]), (4, .int .i64 0), (7, .int .i64 (x0.length : Int)), (8, .int .i64 p124)] ∧ H' = [pe0]) ?_ ?_ _ _ _ ⟨lr, hk, rfl, rfl⟩
 · rintro p124 e129 M125 H' l' ⟨hle126, hk, rfl, rfl⟩
   refine sq <| rg <| pn 1 rfl <| nx <| sq <| cn rfl e129 <| ex <| te <| te <| ?_
   refine xe <| xn <| sq <| rg <| pn 1 rfl <| nx <| rt <| ?_
   obtain rfl := si hk
   exact oR 1 rfl rfl ⟨rfl, rfl⟩
 rintro y133 ys134 p124 e129 i130 j131 h132 w128 ih127 M125 H' l' ⟨hle126, hk, rfl, rfl⟩
 refine sq <| rg <| pn 1 rfl <| nx <| sq <| cy rfl e129 <| sk <| xn <| sq <| ?_
 refine bk <| sq <| rg <| pn 2 rfl <| nx <| sq <| rg <| pn 3 rfl <| ?_
 have ph0 := ph0.mono hle126
 obtain ⟨_, rfl, h138⟩ := ph0.el h132
 refine va rfl (ix Sl23 rfl rfl i130 (lt_of ph0.len j131) h138.ne) <| va rfl (lN Rowy41 Sz41 rfl (h138.pt 0 rfl) rfl) <| cavq (vs := [_]) (cs := []) rfl Ok58 rfl (snap_Snap_Check_1_does (tt (snap_Snap_Check_1 y133))) rfl rfl <| nx <| ?_
 rcases cs hk with ⟨e141, hk⟩ | ⟨e141, hk⟩
 · refine cy rfl e141 <| sq <| rg <| pn 2 rfl <| nx <| rt <| xr <| tr <| tr <| ?_
   refine xr <| tr <| ?_
   obtain rfl := si hk
   exact oR 1 rfl rfl ⟨rfl, rfl⟩
 refine cn rfl e141 <| sk <| xb <| xn <| rg <| pn 2 rfl <| on <| sx 8 w128 rfl <| ?_
 exact asx (ih127 _ _ _ ⟨hle126, hk, rfl, rfl⟩) rfl
theorem Ok77 : CallOk Try.prog 77 := ⟨_, Try.func77, by kernel_rfl, by kernel_rfl⟩
/-! 57 slices.ContainsFunc[[]tidewrack/row.Glyph,tidewrack/row.Glyph] -/
def slices_ContainsFunc_row_Glyph (x0 : List Glyph) : Option (Bool) :=
  (slices_IndexFunc_row_Glyph x0).bind fun y101 => some (decide (y101 ≥ 0))
set_option maxRecDepth 20000 in
set_option maxHeartbeats 4000000 in
theorem slices_ContainsFunc_row_Glyph_does {M : Mem} {x0 : List Glyph} {pa0 : Option Addr} {pn0 pc0 : Nat} {pe0 : Ent} {r : Bool} (ph0 : RdE M E41 x0 pa0 pn0 pc0 pe0) (hk : slices_ContainsFunc_row_Glyph x0 = some r) :
    Does Try.prog 57 [.slice pa0 pn0 pc0, .func (.func 58) #[] #[]].toArray M [pe0] (fun v M' H' => v = .bool r ∧ H' = [pe0]) := by
 refine Does.of Try.func57 rfl rfl fun w0 => sq <| rg <| pn 1 rfl <| nx <| sq <| rg <| pn 2 rfl <| bs hk fun y101 e102 hk => ?_
 refine caq rfl Ok77 (slices_IndexFunc_row_Glyph_does (ph0.rde) e102) rfl rfl <| pn 2 rfl <| nx <| rt <| ?_
 obtain rfl := si hk
 exact oR 1 rfl rfl ⟨rfl, rfl⟩
theorem Ok57 : CallOk Try.prog 57 := ⟨_, Try.func57, by kernel_rfl, by kernel_rfl⟩
theorem Fld39_0 : Fld Try.prog 39 0 0 0 := ⟨_, _, Try.underlying39, rfl, rfl, by kernel_rfl⟩
theorem Fld39_1 : Fld Try.prog 39 1 1 0 := ⟨_, _, Try.underlying39, rfl, rfl, by kernel_rfl⟩
theorem Fld39_2 : Fld Try.prog 39 2 2 0 := ⟨_, _, Try.underlying39, rfl, rfl, by kernel_rfl⟩
/-! 62 tidewrack/snap.cell -/
def snap_cell (x0 : Cell) : Bool :=
  ((snap_shows x0.Rune x0.Style) && (snap_within x0.Part 0 3))
set_option maxRecDepth 20000 in
set_option maxHeartbeats 4000000 in
theorem snap_cell_does {M : Mem} {x0 : Cell}  {r : Bool}  (hk : some (snap_cell x0) = some r) :
    Does Try.prog 62 [.agg #[.int .i32 x0.Rune, .int .i64 x0.Style, .int .i64 x0.Part]].toArray M [] (fun v M' H' => v = .bool r ∧ H' = []) := by
 refine Does.of Try.func62 rfl rfl fun w0 => sq <| rg <| bx rfl rfl fun b101 => pn 1 rfl <| nx <| sq <| rg <| va rfl (fd Fld39_0 rfl (bi 0 rfl rfl)) <| va rfl (ld One21 rfl (Pt.part 0 1 (bi 0 rfl rfl) rfl)) <| va rfl (fd Fld39_1 rfl (bi 0 rfl rfl)) <| va rfl (ld One3 rfl (Pt.part 1 1 (bi 0 rfl rfl) rfl)) <| caq rfl Ok59 (snap_shows_does (tt (snap_shows x0.Rune x0.Style))) rfl rfl <| pn 1 rfl <| jA 12 4 rfl (snap_within x0.Part 0 3) (fun J116 e115 => ?_) ?_
 · rcases cs e115 with ⟨e117, e115⟩ | ⟨e117, e115⟩
   · exact kt 8 e117 rfl <| va rfl (fd Fld39_2 rfl (bi 0 rfl rfl)) <| va rfl (ld One3 rfl (Pt.part 2 1 (bi 0 rfl rfl) rfl)) <| caq rfl Ok76 (snap_within_does (tt (snap_within x0.Part 0 3))) rfl rfl <| pn 1 rfl <| ji 5 J116 rfl rfl rfl e115
   exact kf 8 e117 rfl <| pn 4 rfl <| ji 5 J116 rfl rfl rfl e115
 refine pn 1 rfl <| nx <| rt <| ?_
 obtain rfl := si hk
 exact seX [] rfl <| oR 0 rfl rfl ⟨rfl, rfl⟩
theorem Ok62 : CallOk Try.prog 62 := ⟨_, Try.func62, by kernel_rfl, by kernel_rfl⟩
/-! 61 (tidewrack/snap.Snap).Check$2 -/
def snap_Snap_Check_2 (x0 : Cell) : Bool :=
  (!(snap_cell x0))
set_option maxRecDepth 20000 in
set_option maxHeartbeats 4000000 in
theorem snap_Snap_Check_2_does {M : Mem} {x0 : Cell}  {r : Bool}  (hk : some (snap_Snap_Check_2 x0) = some r) :
    Does Try.prog 61 [.agg #[.int .i32 x0.Rune, .int .i64 x0.Style, .int .i64 x0.Part]].toArray M [] (fun v M' H' => v = .bool r ∧ H' = []) := by
 refine Does.of Try.func61 rfl rfl fun w0 => sq <| rg <| bx rfl rfl fun b101 => pn 1 rfl <| nx <| sq <| rg <| va rfl (lN Rowy39 Sz39 rfl (bi 0 rfl rfl) rfl) <| ?_
 refine caq rfl Ok62 (snap_cell_does (tt (snap_cell x0))) rfl rfl <| pn 2 rfl <| nx <| rt <| ?_
 obtain rfl := si hk
 exact seX [] rfl <| oR 0 rfl rfl ⟨rfl, rfl⟩
theorem Ok61 : CallOk Try.prog 61 := ⟨_, Try.func61, by kernel_rfl, by kernel_rfl⟩
/-! 78 slices.IndexFunc[[]tidewrack/row.Cell,tidewrack/row.Cell] -/
def slices_IndexFunc_row_Cell_l1  : List Cell → Int → Option (Int)
  | [], p124 =>
  some (-1)
  | y133 :: ys134, p124 =>
  (bif (snap_Snap_Check_2 y133) then some p124 else (slices_IndexFunc_row_Cell_l1 ys134 (p124 + 1)))
def slices_IndexFunc_row_Cell (x0 : List Cell) : Option (Int) :=
  (cap x0.length).bind fun y135 => slices_IndexFunc_row_Cell_l1 x0 0
set_option maxRecDepth 20000 in
set_option maxHeartbeats 4000000 in
theorem slices_IndexFunc_row_Cell_does {M : Mem} {x0 : List Cell} {pa0 : Option Addr} {pn0 pc0 : Nat} {r : Int} (ph0 : SRep M E39 x0 pa0 pn0 pc0) (hk : slices_IndexFunc_row_Cell x0 = some r) :
    Does Try.prog 78 [.slice pa0 pn0 pc0, .func (.func 61) #[] #[]].toArray M [] (fun v M' H' => v = .int .i64 r ∧ H' = []) := by
 refine Does.of Try.func78 rfl rfl fun w0 => sq <| rg <| pn 1 rfl <| nx <| sq <| sq <| rg <| pn 1 rfl <| ?_
 refine va rfl (lf Try.underlying35 ph0.len rfl) <| pn 1 rfl <| nx <| bk <| bs hk fun y135 e136 hk => Cd.loop <| ?_
 refine ls (l' := [(0, .slice pa0 pn0 pc0), (1, .func (.func 61) #[] #[]), (4, .int .i64 0), (7, .int .i64 (x0.length : Int)), (8, .int .i64 0)]) rfl <| ?_
 refine Lp.lst (xs := x0) e136 (fun ys_ p124 M125 H' l' => Mem.le M M125 ∧ slices_IndexFunc_row_Cell_l1 ys_ p124 = some r ∧ l' = [(0, .slice pa0 pn0 pc0), (1, .func (.func 61) #[] #[]), (4, .int .i64 0), (7, .int .i64 (x0.length : Int)), (8, .int .i64 p124)] ∧ H' = []) ?_ ?_ _ _ _ ⟨lr, hk, rfl, rfl⟩
 · rintro p124 e129 M125 H' l' ⟨hle126, hk, rfl, rfl⟩
   refine sq <| rg <| pn 1 rfl <| nx <| sq <| cn rfl e129 <| ex <| te <| te <| ?_
   refine xe <| xn <| sq <| rg <| pn 1 rfl <| nx <| rt <| ?_
   obtain rfl := si hk
   exact oR 0 rfl rfl ⟨rfl, rfl⟩
 rintro y133 ys134 p124 e129 i130 j131 h132 w128 ih127 M125 H' l' ⟨hle126, hk, rfl, rfl⟩
 refine sq <| rg <| pn 1 rfl <| nx <| sq <| cy rfl e129 <| sk <| xn <| sq <| ?_
 refine bk <| sq <| rg <| pn 2 rfl <| nx <| sq <| rg <| pn 3 rfl <| ?_
 have ph0 := ph0.mono hle126
 obtain ⟨_, rfl, h138⟩ := ph0.pt [] h132
 refine va rfl (ix Sl35 rfl rfl i130 (lt_of ph0.len j131) (Pt.ne h138)) <| va rfl (lN Rowy39 Sz39 rfl (Pt.any h138 _) rfl) <| cavq (vs := [_]) (cs := []) rfl Ok61 rfl (snap_Snap_Check_2_does (tt (snap_Snap_Check_2 y133))) rfl rfl <| nx <| ?_
 rcases cs hk with ⟨e141, hk⟩ | ⟨e141, hk⟩
 · refine cy rfl e141 <| sq <| rg <| pn 2 rfl <| nx <| rt <| xr <| tr <| tr <| ?_
   refine xr <| tr <| ?_
   obtain rfl := si hk
   exact oR 0 rfl rfl ⟨rfl, rfl⟩
 refine cn rfl e141 <| sk <| xb <| xn <| rg <| pn 2 rfl <| on <| sx 8 w128 rfl <| ?_
 exact asx (ih127 _ _ _ ⟨hle126, hk, rfl, rfl⟩) rfl
theorem Ok78 : CallOk Try.prog 78 := ⟨_, Try.func78, by kernel_rfl, by kernel_rfl⟩
/-! 60 slices.ContainsFunc[[]tidewrack/row.Cell,tidewrack/row.Cell] -/
def slices_ContainsFunc_row_Cell (x0 : List Cell) : Option (Bool) :=
  (slices_IndexFunc_row_Cell x0).bind fun y101 => some (decide (y101 ≥ 0))
set_option maxRecDepth 20000 in
set_option maxHeartbeats 4000000 in
theorem slices_ContainsFunc_row_Cell_does {M : Mem} {x0 : List Cell} {pa0 : Option Addr} {pn0 pc0 : Nat} {r : Bool} (ph0 : SRep M E39 x0 pa0 pn0 pc0) (hk : slices_ContainsFunc_row_Cell x0 = some r) :
    Does Try.prog 60 [.slice pa0 pn0 pc0, .func (.func 61) #[] #[]].toArray M [] (fun v M' H' => v = .bool r ∧ H' = []) := by
 refine Does.of Try.func60 rfl rfl fun w0 => sq <| rg <| pn 1 rfl <| nx <| sq <| rg <| pn 2 rfl <| bs hk fun y101 e102 hk => ?_
 refine caq rfl Ok78 (slices_IndexFunc_row_Cell_does ph0 e102) rfl rfl <| pn 2 rfl <| nx <| rt <| ?_
 obtain rfl := si hk
 exact oR 0 rfl rfl ⟨rfl, rfl⟩
theorem Ok60 : CallOk Try.prog 60 := ⟨_, Try.func60, by kernel_rfl, by kernel_rfl⟩
/-! 33 (tidewrack/snap.Snap).Check -/
def snap_Snap_Check_l2 (x0 : Snap) : List Row → Option (Int)
  | [] =>
  some 0
  | y306 :: ys307 =>
  (bif ((y306.Cells.length : Int) != x0.W) then some true else (slices_ContainsFunc_row_Cell y306.Cells).bind fun y360 => some y360).bind fun z365 => (bif z365 then some 1 else (snap_Snap_Check_l2 x0 ys307))
def snap_Snap_Check_j1 (x0 : Snap) (p143 : Bool) : Option (Int) :=
  (bif p143 then some 1 else (cap x0.Rows.length).bind fun y308 => snap_Snap_Check_l2 x0 x0.Rows)
def snap_Snap_Check (x0 : Snap) : Option (Int) :=
  (bif (snap_Snap_empty x0) then some 0 else (bif (!(snap_Snap_sizes x0)) then snap_Snap_Check_j1 x0 true else (slices_ContainsFunc_row_Glyph x0.Begun).bind fun y380 => snap_Snap_Check_j1 x0 y380))
set_option maxRecDepth 20000 in
set_option maxHeartbeats 4000000 in
theorem snap_Snap_Check_does {M : Mem} {x0 : Snap} {pa0 : Option Addr} {pn0 pc0 : Nat} {pe0 : Ent} {pa1 : Option Addr} {pn1 pc1 : Nat} {pe1 : Ent} {r : Int} (ph0 : RdE M E37 x0.Rows pa0 pn0 pc0 pe0) (ph1 : RdE M E41 x0.Begun pa1 pn1 pc1 pe1) (hk : snap_Snap_Check x0 = some r) :
    Does Try.prog 33 [.agg #[.int .i64 x0.K, .int .i64 x0.W, .int .i64 x0.H, .int .i64 x0.X, .int .i64 x0.Y, .string x0.Title, .slice pa0 pn0 pc0, .int .i64 x0.Len, .int .i64 x0.Chain, .slice pa1 pn1 pc1]].toArray M [pe0, pe1] (fun v M' H' => v = .int .i64 r ∧ H' = [pe0, pe1]) := by
 refine Does.of Try.func33 rfl rfl fun w0 => sq <| rg <| bx rfl rfl fun b101 => pn 1 rfl <| nx <| sq <| sq <| rg <| ?_
 refine va rfl (lN Rowy25 Sz25 rfl (bi 0 rfl rfl) rfl) <| se [1, 2, 0] rfl <| caq rfl Ok32 (snap_Snap_empty_does (ph0.rde) (ph1.rde) (tt (snap_Snap_empty x0))) rfl rfl <| nx <| ?_
 rcases cs hk with ⟨e104, hk⟩ | ⟨e104, hk⟩
 · refine cy rfl e104 <| sq <| rg <| pn 1 rfl <| nx <| rt <| tr <| ?_
   obtain rfl := si hk
   exact seX [0, 1] rfl <| oR 2 rfl rfl ⟨rfl, rfl⟩
 refine cn rfl e104 <| sk <| xn <| sq <| ?_
 refine Cd.join (fun M144 H' l' => ∃ p143, Mem.le M M144 ∧ snap_Snap_Check_j1 x0 p143 = some r ∧ l' = [(1, .pointer (some ⟨b101, 0, none⟩)), (2, .int .i64 0), (14, .bool p143)] ∧ H' = [pe0, pe1, some (b101, .cells #[.int .i64 x0.K, .int .i64 x0.W, .int .i64 x0.H, .int .i64 x0.X, .int .i64 x0.Y, .string x0.Title, .slice pa0 pn0 pc0, .int .i64 x0.Len, .int .i64 x0.Chain, .slice pa1 pn1 pc1] 25 (0, 0))]) ?_ ?_
 · rintro M144 H' l' ⟨p143, hle145, hk, rfl, rfl⟩
   rcases cs hk with ⟨e147, hk⟩ | ⟨e147, hk⟩
   · refine cy rfl e147 <| sq <| rg <| pn 1 rfl <| nx <| rt <| tr <| ?_
     obtain rfl := si hk
     exact seX [0, 1] rfl <| oR 2 rfl rfl ⟨rfl, rfl⟩
   refine cn rfl e147 <| sk <| xn <| sq <| sq <| rg <| va rfl (fd Fld25_6 rfl (bi 2 rfl rfl)) <| va rfl (ld One22 rfl (Pt.part 6 1 (bi 2 rfl rfl) rfl)) <| va rfl (lf Try.underlying22 ph0.len rfl) <| ?_
   refine pn 1 rfl <| nx <| bk <| bs hk fun y308 e309 hk => Cd.loop <| ?_
   refine ls (l' := [(1, .pointer (some ⟨b101, 0, none⟩)), (2, .int .i64 0), (16, .slice pa0 pn0 pc0), (17, .int .i64 (x0.Rows.length : Int)), (18, .int .i64 0)]) rfl <| ?_
   refine Lp.lst (xs := x0.Rows) e309 (fun ys_ p297 M298 H' l' => Mem.le M144 M298 ∧ snap_Snap_Check_l2 x0 ys_ = some r ∧ l' = [(1, .pointer (some ⟨b101, 0, none⟩)), (2, .int .i64 0), (16, .slice pa0 pn0 pc0), (17, .int .i64 (x0.Rows.length : Int)), (18, .int .i64 p297)] ∧ H' = [pe0, pe1, some (b101, .cells #[.int .i64 x0.K, .int .i64 x0.W, .int .i64 x0.H, .int .i64 x0.X, .int .i64 x0.Y, .string x0.Title, .slice pa0 pn0 pc0, .int .i64 x0.Len, .int .i64 x0.Chain, .slice pa1 pn1 pc1] 25 (0, 0))]) ?_ ?_ _ _ _ ⟨lr, hk, rfl, rfl⟩
   · rintro p297 e302 M298 H' l' ⟨hle299, hk, rfl, rfl⟩
     refine sq <| rg <| pn 1 rfl <| nx <| sq <| cn rfl e302 <| ex <| te <| te <| ?_
     refine xe <| xn <| sq <| rg <| pn 1 rfl <| nx <| rt <| ?_
     obtain rfl := si hk
     exact seX [0, 1] rfl <| oR 2 rfl rfl ⟨rfl, rfl⟩
   rintro y306 ys307 p297 e302 i303 j304 h305 w301 ih300 M298 H' l' ⟨hle299, hk, rfl, rfl⟩
   refine sq <| rg <| pn 1 rfl <| nx <| sq <| cy rfl e302 <| sk <| xn <| sq <| ?_
   refine bk <| sq <| rg <| ?_
   have ph0 := ph0.mono (hle145.t hle299)
   obtain ⟨_, ⟨a343, n344, c345, rfl, h346⟩, h342⟩ := ph0.el h305
   refine va rfl (ix Sl22 rfl rfl i303 (lt_of ph0.len j304) h342.ne) <| va rfl (lN Rowy37 Sz37 rfl (h342.pt 0 rfl) rfl) <| al rfl Zr37 fun b347 => sr 0 rfl Sz37 rfl rfl rfl rfl rfl <| nx <| sq <| rg <| va rfl (fd Fld37_0 rfl (bi 0 rfl rfl)) <| va rfl (ld One35 rfl (Pt.part 0 1 (bi 0 rfl rfl) rfl)) <| va rfl (lf Try.underlying35 h346.len rfl) <| va rfl (fd Fld25_1 rfl (bi 3 rfl rfl)) <| va rfl (ld One3 rfl (Pt.part 1 1 (bi 3 rfl rfl) rfl)) <| pn 2 rfl <| bs hk fun z365 e364 hk => jn 32 4 rfl (.bool z365) (fun J366 => ?_) ?_
   · rcases cs e364 with ⟨e367, e364⟩ | ⟨e367, e364⟩
     · exact kt 28 e367 rfl <| pn 4 rfl <| ji 5 J366 rfl rfl rfl e364
     refine kf 28 e367 rfl <| va rfl (fd Fld37_0 rfl (bi 0 rfl rfl)) <| va rfl (ld One35 rfl (Pt.part 0 1 (bi 0 rfl rfl) rfl)) <| bs e364 fun y368 e369 e364 => caq rfl Ok60 (slices_ContainsFunc_row_Cell_does h346 e369) rfl rfl <| pn 1 rfl <| ?_
     exact ji 5 J366 rfl rfl rfl e364
   refine nx <| ?_
   rcases cs hk with ⟨e372, hk⟩ | ⟨e372, hk⟩
   · refine cy rfl e372 <| sq <| rg <| pn 1 rfl <| nx <| rt <| xr <| tr <| tr <| ?_
     refine xr <| tr <| ?_
     obtain rfl := si hk
     exact seX [1, 2] rfl <| oR 2 rfl rfl ⟨rfl, rfl⟩
   refine cn rfl e372 <| sk <| xb <| xn <| rg <| pn 2 rfl <| on <| sx 18 w301 rfl <| seX [1, 2, 3] rfl <| ?_
   exact asx (ih300 _ _ _ ⟨hle299, hk, rfl, rfl⟩) rfl
 intro J146
 refine rg <| va rfl (lN Rowy25 Sz25 rfl (bi 2 rfl rfl) rfl) <| caq rfl Ok56 (snap_Snap_sizes_does (ph0.rde) (ph1.rde) (tt (snap_Snap_sizes x0))) rfl rfl <| pn 2 rfl <| ?_
 rcases cs hk with ⟨e379, hk⟩ | ⟨e379, hk⟩
 · exact kt 10 e379 rfl <| pn 4 rfl <| on <| asx (J146 _ _ _ ⟨true, lr, hk, rfl, rfl⟩) rfl
 refine kf 10 e379 rfl <| va rfl (fd Fld25_9 rfl (bi 2 rfl rfl)) <| va rfl (ld One23 rfl (Pt.part 9 1 (bi 2 rfl rfl) rfl)) <| se [1, 0, 2] rfl <| bs hk fun y380 e381 hk => caq rfl Ok57 (slices_ContainsFunc_row_Glyph_does (ph1.rde) e381) rfl rfl <| pn 1 rfl <| on <| seX [1, 0, 2] rfl <| ?_
 exact asx (J146 _ _ _ ⟨y380, lr, hk, rfl, rfl⟩) rfl
theorem Ok33 : CallOk Try.prog 33 := ⟨_, Try.func33, by kernel_rfl, by kernel_rfl⟩
theorem Zr87 : Zr Try.prog 87 (.agg #[(.slice none 0 0)]) := ⟨by kernel_rfl⟩
/-! 63 tidewrack/num.digits -/
def num_digits (x0 : Int) : Option (Int) :=
  some x0
set_option maxRecDepth 20000 in
set_option maxHeartbeats 4000000 in
theorem num_digits_does {M : Mem} {x0 : Int}  {r : Int}  (hk : num_digits x0 = some r) :
    Does Try.prog 63 [.int .i64 x0].toArray M [] (fun v M' H' => ∃ b101, v = .func (.func 79) #[] #[.pointer (some ⟨b101, 0, none⟩)] ∧ H' = [some (b101, .cells #[.int .i64 r] 3 (0, 0))]) := by
 refine Does.of Try.func63 rfl rfl fun w0 => sq <| rg <| bx rfl rfl fun b102 => pn 1 rfl <| nx <| sq <| rg <| pn 2 rfl <| ?_
 refine nx <| rt <| ?_
 obtain rfl := si hk
 exact oR 1 rfl rfl ⟨_, rfl, rfl⟩
theorem Ok63 : CallOk Try.prog 63 := ⟨_, Try.func63, by kernel_rfl, by kernel_rfl⟩
/-! 80 tidewrack/num.clip -/
def num_clip (x0 : Int) : Int :=
  (gmax 0 (gmin x0 4611686018427387904))
set_option maxRecDepth 20000 in
set_option maxHeartbeats 4000000 in
theorem num_clip_does {M : Mem} {x0 : Int}  {r : Int}  (hk : some (num_clip x0) = some r) :
    Does Try.prog 80 [.int .i64 x0].toArray M [] (fun v M' H' => v = .int .i64 r ∧ H' = []) := by
 refine Does.of Try.func80 rfl rfl fun w0 => sq <| rg <| pn 1 rfl <| nx <| sq <| rg <| pn 1 rfl <| va rfl (mi rfl rfl) <| ?_
 refine va rfl (ma rfl rfl) <| pn 1 rfl <| nx <| rt <| ?_
 obtain rfl := si hk
 exact oR 0 rfl rfl ⟨rfl, rfl⟩
theorem Ok80 : CallOk Try.prog 80 := ⟨_, Try.func80, by kernel_rfl, by kernel_rfl⟩
def num_digits_1_It (M : Mem) (x : Int) (vs : List Value) : Prop := vs = [.int .u8 x]
theorem num_digits_1_It_len (M : Mem) (x : Int) (vs : List Value) (h : num_digits_1_It M x vs) : vs.length = 1 := by
  obtain rfl := h; rfl
/-! 79 tidewrack/num.digits$1 -/
def num_digits_1_items_l1  : Nat → Int → Option (List Int)
  | 0, _ => none
  | k + 1, p129 =>
  (bif (decide (p129 ≥ 128)) then ((num_digits_1_items_l1 k (gshr .i64 p129 7))).bind fun ys141 => some ((bor .u8 (band .u8 (IntKind.u8.wrap p129) 127) 128) :: ys141) else (some []).bind fun ys149 => some ((IntKind.u8.wrap p129) :: ys149))
def num_digits_1_items (x1 : Int) : Option (List Int) :=
  num_digits_1_items_l1 4294967296 (num_clip x1)
set_option maxRecDepth 20000 in
set_option maxHeartbeats 4000000 in
theorem num_digits_1_items_iter {M : Mem} {x1 : Int} {pb0 : Nat} {xs : List Int}  (hk : num_digits_1_items x1 = some xs) :
    Iter Try.prog 79 [.pointer (some ⟨pb0, 0, none⟩)] num_digits_1_It xs M [some (pb0, .cells #[.int .i64 x1] 3 (0, 0))] [] := by
 intro l J S Hc hrd hJ
 refine Does.of Try.func79 rfl rfl fun w0 => sq <| sq <| rg <| va rfl (ld One3 rfl (bi 0 rfl rfl)) <| caq rfl Ok80 (num_clip_does (tt (num_clip x1))) rfl rfl <| sr 0 rfl Sz3 rfl rfl rfl rfl rfl <| nx <| bk <| ?_
 refine Cd.loop <| ?_
 refine ls (l' := [(0, .func (.yield l) #[] #[]), (1, .pointer (some ⟨pb0, 0, none⟩))]) rfl <| ?_
 refine Lp.ind (fun k M130 H' l' => ∃ p129 ys132 M133 Hc134, Mem.le M M130 ∧ Mem.le M133 M130 ∧ J ys132 M133 Hc134 ∧ num_digits_1_items_l1 k p129 = some ys132 ∧ l' = [(0, .func (.yield l) #[] #[]), (1, .pointer (some ⟨pb0, 0, none⟩))] ∧ H' = [some (pb0, .cells #[.int .i64 p129] 3 (0, 0))] ++ Hc134) ?_ ?_ 4294967296 _ _ _ ⟨(num_clip x1), _, _, _, lr, lr, hJ, hk, rfl, rfl⟩
 · rintro M130 H' l' ⟨p129, ys132, M133, Hc134, hle131, hl136, hj135, hk, -, -⟩; cases hk
 rintro k137 ih138 M130 H' l' ⟨p129, ys132, M133, Hc134, hle131, hl136, hj135, hk, rfl, rfl⟩
 refine sq <| sq <| rg <| va rfl (ld One3 rfl (bi 0 rfl rfl)) <| pn 1 rfl <| nx <| ?_
 rcases cs hk with ⟨e140, hk⟩ | ⟨e140, hk⟩
 · refine cy rfl e140 <| sk <| xn <| sq <| bk <| sq <| rg <| pn 1 rfl <| va rfl (ld One3 rfl (bi 0 rfl rfl)) <| ?_
   refine va rfl (cv rfl Try.underlying5 Try.underlying3) <| pn 2 rfl <| bs hk fun ys141 e142 hk => ?_
   obtain rfl := si hk
   refine yl rfl rfl rfl (vs := [_]) (H2 := [_]) (hrd (bor .u8 (band .u8 (IntKind.u8.wrap p129) 127) 128) ys141 _ _ _ _ hl136 hj135 rfl) rfl <| ?_
   rintro q143 M144 Hc145 l146 (⟨rfl, hj147⟩ | ⟨rfl, hs148⟩)
   · refine pn 1 rfl <| nx <| cn rfl rfl <| sk <| xb <| xn <| rg <| va rfl (ld One3 rfl (bi 0 rfl rfl)) <| va rfl (run_shr rfl rfl rfl (by decide)) <| ?_
     refine sr 0 rfl Sz3 rfl rfl rfl rfl rfl <| on <| ?_
     exact asx (ih138 _ _ _ ⟨(gshr .i64 p129 7), _, _, _, (hle131.t l146), lr, hj147, e142, rfl, rfl⟩) rfl
   refine pn 1 rfl <| nx <| cy rfl rfl <| rt <| xr <| tr <| tr <| xr <| tr <| ?_
   refine stX 1 [] rfl rfl rfl <| ?_
   exact Ex.outA rfl (.inl rfl) rfl (rs := []) (vs := []) trivial rfl ⟨_, rfl, .inr hs148⟩
 refine cn rfl e140 <| ex <| te <| te <| xe <| xn <| rg <| pn 1 rfl <| va rfl (ld One3 rfl (bi 0 rfl rfl)) <| ?_
 refine va rfl (cv rfl Try.underlying5 Try.underlying3) <| bs hk fun ys149 e150 hk => ?_
 obtain rfl := si hk
 refine yl rfl rfl rfl (vs := [_]) (H2 := [_]) (hrd (IntKind.u8.wrap p129) ys149 _ _ _ _ hl136 hj135 rfl) rfl <| ?_
 rintro q151 M152 Hc153 l154 (⟨rfl, hj155⟩ | ⟨rfl, hs156⟩)
 · refine on <| stX 1 [] rfl rfl rfl <| ?_
   obtain rfl := si e150
   exact Ex.outA rfl (.inr rfl) rfl (rs := []) (vs := []) trivial rfl ⟨_, rfl, .inl ⟨_, lr, hj155⟩⟩
 exact on <| stX 1 [] rfl rfl rfl <| Ex.outA rfl (.inr rfl) rfl (rs := []) (vs := []) trivial rfl ⟨_, rfl, .inr hs156⟩
theorem One88 : One Try.prog 88 := ⟨_, Try.underlying88, rfl⟩
theorem Fld87_0 : Fld Try.prog 87 0 0 0 := ⟨_, _, Try.underlying87, rfl, rfl, by kernel_rfl⟩
theorem One85 : One Try.prog 85 := ⟨_, Try.underlying85, rfl⟩
theorem Sl85 : Sl Try.prog 85 5 1 := ⟨Try.underlying85, by kernel_rfl⟩
theorem El5 : El Try.prog 5 1 1 (.int .u8 0) := ⟨by kernel_rfl, rfl⟩
theorem Sz85 : Sz Try.prog 85 1 := ⟨by kernel_rfl⟩
theorem Ok79 : CallOk Try.prog 79 := ⟨_, Try.func79, by kernel_rfl, by kernel_rfl⟩
/-! 34 (*tidewrack/num.Out).Num -/
def num_Out_Num_r2 (rec333 : (List Int) → Option (num_Out)) : List Int → (List Int) → Option (num_Out)
  | [], p388 =>
  (rec333 p388)
  | x397 :: xs396, p388 =>
  (cap (p388.length + ([x397] : List Int).length)).bind fun y418 => ((num_Out_Num_r2 rec333 xs396) (p388 ++ ([x397] : List Int)))

def num_Out_Num_l1  : List Int → (List Int) → Option (num_Out)
  | [], p314 =>
  some (⟨p314⟩ : num_Out)
  | y329 :: ys330, p314 =>
  (num_digits y329).bind fun y335 => (num_digits_1_items y335).bind fun xs340 => num_Out_Num_r2 (num_Out_Num_l1 ys330) xs340 p314
def num_Out_Num (x0 : num_Out) (x1 : List Int) : Option (num_Out) :=
  (cap x1.length).bind fun y331 => num_Out_Num_l1 x1 x0.b
set_option maxRecDepth 20000 in
set_option maxHeartbeats 4000000 in
theorem num_Out_Num_does {M : Mem} {x0 : num_Out} {x1 : List Int} {pb0 : Nat} {pa0 : Option Addr} {pn0 pc0 : Nat} {pe0 : Ent} {pa1 : Option Addr} {pn1 pc1 : Nat} {pe1 : Ent} {r : num_Out} (ph0 : OSl M (eInt .u8) x0.b pa0 pn0 pc0 5 pe0) (ph1 : RdE M (eInt .i64) x1 pa1 pn1 pc1 pe1) (hk : num_Out_Num x0 x1 = some r) :
    Does Try.prog 34 [.pointer (some ⟨pb0, 0, none⟩), .slice pa1 pn1 pc1].toArray M [some (pb0, .cells #[.slice pa0 pn0 pc0] 87 (0, 0)), pe0, pe1] (fun v M' H' => ∃ a101 n102 c103 e105, v = .pointer (some ⟨pb0, 0, none⟩) ∧ OSl M' (eInt .u8) r.b a101 n102 c103 5 e105 ∧ H' = [some (pb0, .cells #[.slice a101 n102 c103] 87 (0, 0)), e105, pe1]) := by
 refine Does.of Try.func34 rfl rfl fun w0 => sq <| rg <| bx rfl rfl fun b106 => pn 1 rfl <| nx <| sq <| sq <| rg <| ?_
 refine pn 1 rfl <| va rfl (lf Try.underlying75 ph1.len rfl) <| pn 1 rfl <| nx <| bk <| bs hk fun y331 e332 hk => Cd.loop <| ?_
 refine seL [2, 3, 0, 1] rfl <| ls (l' := [(2, .pointer (some ⟨b106, 0, none⟩)), (4, .pointer none), (8, .slice pa1 pn1 pc1), (9, .int .i64 (x1.length : Int)), (10, .int .i64 0)]) rfl <| ?_
 refine Lp.lst (xs := x1) e332 (fun ys_ p320 M321 H' l' => ∃ p314 a315 n318 c316 e319, Mem.le M M321 ∧ OSl M321 (eInt .u8) p314 a315 n318 c316 5 e319 ∧ num_Out_Num_l1 ys_ p314 = some r ∧ l' = [(2, .pointer (some ⟨b106, 0, none⟩)), (4, .pointer none), (8, .slice pa1 pn1 pc1), (9, .int .i64 (x1.length : Int)), (10, .int .i64 p320)] ∧ H' = [e319, pe1, some (b106, .cells #[.pointer (some ⟨pb0, 0, none⟩)] 88 (0, 0)), some (pb0, .cells #[.slice a315 n318 c316] 87 (0, 0))]) ?_ ?_ _ _ _ ⟨x0.b, _, _, _, _, lr, ph0, hk, rfl, rfl⟩
 · rintro p320 e325 M321 H' l' ⟨p314, a315, n318, c316, e319, hle322, h317, hk, rfl, rfl⟩
   refine sq <| rg <| pn 1 rfl <| nx <| sq <| cn rfl e325 <| ex <| te <| te <| ?_
   refine xe <| xn <| sq <| rg <| va rfl (ld One88 rfl (bi 2 rfl rfl)) <| pn 1 rfl <| nx <| rt <| ?_
   obtain rfl := si hk
   exact seX [3, 0, 1] rfl <| oR 3 rfl rfl ⟨_, _, _, _, rfl, h317, rfl⟩
 rintro y329 ys330 p320 e325 i326 j327 h328 w324 ih323 M321 H' l' ⟨p314, a315, n318, c316, e319, hle322, h317, hk, rfl, rfl⟩
 refine sq <| rg <| pn 1 rfl <| nx <| sq <| cy rfl e325 <| sk <| xn <| sq <| ?_
 refine bk <| sq <| rg <| ?_
 have ph1 := ph1.mono hle322
 obtain ⟨_, rfl, h334⟩ := ph1.el h328
 refine va rfl (ix Sl75 rfl rfl i326 (lt_of ph1.len j327) h334.ne) <| va rfl (ld One3 rfl (h334.pt 1 rfl)) <| pn 1 rfl <| nx <| sq <| rg <| pn 1 rfl <| bs hk fun y335 e336 hk => ca rfl Ok63 (num_digits_does e336) rfl rfl <| ?_
 rintro _ M337 _ l338 ⟨b339, rfl, rfl⟩
 refine nx <| bk <| bs hk fun xs340 e341 hk => ?_
 have h317 := h317.mono l338
 refine Cd.rangeF (Hi := [_]) (Ho := []) rfl Ok79 (num_digits_1_items_iter e341) (fun ys_ M394 H' => ∃ p388 a389 n392 c390 e393, Mem.le M337 M394 ∧ OSl M394 (eInt .u8) p388 a389 n392 c390 5 e393 ∧ num_Out_Num_r2 (num_Out_Num_l1 ys330) ys_ p388 = some r ∧ H' = [e393, pe1, some (b106, .cells #[.pointer (some ⟨pb0, 0, none⟩)] 88 (0, 0)), some (pb0, .cells #[.slice a389 n392 c390] 87 (0, 0))]) ⟨p314, _, _, _, _, lr, h317, hk, rfl⟩ rfl num_digits_1_It_len ?_ ?_
 · rintro x397 xs396 M394 M398 _ _ l405 ⟨p388, a389, n392, c390, e393, hle395, h391, hk, rfl⟩ rfl lp401 rr402 w403 hr404
   refine rg <| pn 1 rfl <| on <| Ex.begin hr404 <| bk <| ?_
   refine dt [1, 2, 3] rfl 8 rfl (.tk [0, 1, 2, 3, 4, 5] (.one 6 (.one 7 .nil))) Mixed (by kernel_rfl) <| dv rfl rfl (ld One88 rfl (bi 1 rfl rfl)) <| dv rfl rfl (ld One88 rfl (bi 1 rfl rfl)) <| dn 1 rfl <| dv rfl rfl (fd Fld87_0 rfl (bi 2 rfl rfl)) <| dv rfl rfl (ld One85 rfl (bi 2 rfl rfl)) <| dn 1 rfl <| da rfl <| ?_
   refine li (eInt .u8) [x397] rfl Sl85 El5 rfl rfl ⟨rfl, rfl⟩ fun b416 h417 => db [2, 3, 4] lr rfl <| bs hk fun y418 e419 hk => da rfl <| ap (E := (eInt .u8)) 1 rfl Sl85 El5 rfl rfl (h391.mono l405) rfl (RdE.rds h417.rde 0 rfl) e419 rfl (fun _ => rfl) fun a420 n421 c422 e423 h424 => db [2, 3, 4] lr rfl <| dd <| td rfl <| pn 1 rfl <| ?_
   refine va rfl (fd Fld87_0 rfl (bi 4 rfl rfl)) <| sr 4 rfl Sz85 rfl rfl rfl rfl rfl <| on <| xb <| seX [1, 2, 3, 4] rfl <| ?_
   exact Ex.roundN lr ⟨(p388 ++ ([x397] : List Int)), _, _, _, _, (hle395.t l405), h424, hk, rfl⟩
 rintro M394 M425 _ hle426 ⟨p388, a389, n392, c390, e393, hle395, h391, hk, rfl⟩
 refine xb <| xb <| xn <| rg <| pn 2 rfl <| on <| sx 10 w324 rfl <| ?_
 have h391 := h391.mono hle426
 exact asx (ih323 _ _ _ ⟨p388, _, _, _, _, (((hle322.t l338).t hle395).t hle426), h391, hk, rfl, rfl⟩) rfl
theorem Ok34 : CallOk Try.prog 34 := ⟨_, Try.func34, by kernel_rfl, by kernel_rfl⟩
theorem Sl118 : Sl Try.prog 118 9 1 := ⟨Try.underlying118, by kernel_rfl⟩
theorem El9 : El Try.prog 9 1 16 (.string ⟨#[]⟩) := ⟨by kernel_rfl, rfl⟩
/-! 36 (*tidewrack/num.Out).Raw -/
def num_Out_Raw_l1  : List ByteArray → (List Int) → Option (num_Out)
  | [], p143 =>
  some (⟨p143⟩ : num_Out)
  | y158 :: ys159, p143 =>
  (cap (p143.length + y158.size)).bind fun y164 => (num_Out_Raw_l1 ys159 (p143 ++ bytesOf y158))
def num_Out_Raw (x0 : num_Out) (x1 : List ByteArray) : Option (num_Out) :=
  (cap x1.length).bind fun y160 => num_Out_Raw_l1 x1 x0.b
set_option maxRecDepth 20000 in
set_option maxHeartbeats 4000000 in
theorem num_Out_Raw_does {M : Mem} {x0 : num_Out} {x1 : List ByteArray} {pb0 : Nat} {pa0 : Option Addr} {pn0 pc0 : Nat} {pe0 : Ent} {pa1 : Option Addr} {pn1 pc1 : Nat} {pe1 : Ent} {r : num_Out} (ph0 : OSl M (eInt .u8) x0.b pa0 pn0 pc0 5 pe0) (ph1 : RdE M eStr x1 pa1 pn1 pc1 pe1) (hk : num_Out_Raw x0 x1 = some r) :
    Does Try.prog 36 [.pointer (some ⟨pb0, 0, none⟩), .slice pa1 pn1 pc1].toArray M [some (pb0, .cells #[.slice pa0 pn0 pc0] 87 (0, 0)), pe0, pe1] (fun v M' H' => ∃ a101 n102 c103 e105, v = .pointer (some ⟨pb0, 0, none⟩) ∧ OSl M' (eInt .u8) r.b a101 n102 c103 5 e105 ∧ H' = [some (pb0, .cells #[.slice a101 n102 c103] 87 (0, 0)), e105, pe1]) := by
 refine Does.of Try.func36 rfl rfl fun w0 => sq <| rg <| pn 1 rfl <| nx <| sq <| sq <| rg <| pn 1 rfl <| ?_
 refine va rfl (lf Try.underlying118 ph1.len rfl) <| pn 1 rfl <| nx <| bk <| bs hk fun y160 e161 hk => Cd.loop <| ?_
 refine seL [1, 2, 0] rfl <| ls (l' := [(0, .pointer (some ⟨pb0, 0, none⟩)), (4, .pointer none), (7, .slice pa1 pn1 pc1), (8, .int .i64 (x1.length : Int)), (9, .int .i64 0)]) rfl <| ?_
 refine Lp.lst (xs := x1) e161 (fun ys_ p149 M150 H' l' => ∃ p143 a144 n147 c145 e148, Mem.le M M150 ∧ OSl M150 (eInt .u8) p143 a144 n147 c145 5 e148 ∧ num_Out_Raw_l1 ys_ p143 = some r ∧ l' = [(0, .pointer (some ⟨pb0, 0, none⟩)), (4, .pointer none), (7, .slice pa1 pn1 pc1), (8, .int .i64 (x1.length : Int)), (9, .int .i64 p149)] ∧ H' = [e148, pe1, some (pb0, .cells #[.slice a144 n147 c145] 87 (0, 0))]) ?_ ?_ _ _ _ ⟨x0.b, _, _, _, _, lr, ph0, hk, rfl, rfl⟩
 · rintro p149 e154 M150 H' l' ⟨p143, a144, n147, c145, e148, hle151, h146, hk, rfl, rfl⟩
   refine sq <| rg <| pn 1 rfl <| nx <| sq <| cn rfl e154 <| ex <| te <| te <| ?_
   refine xe <| xn <| sq <| rg <| pn 2 rfl <| nx <| rt <| ?_
   obtain rfl := si hk
   exact seX [2, 0, 1] rfl <| oR 3 rfl rfl ⟨_, _, _, _, rfl, h146, rfl⟩
 rintro y158 ys159 p149 e154 i155 j156 h157 w153 ih152 M150 H' l' ⟨p143, a144, n147, c145, e148, hle151, h146, hk, rfl, rfl⟩
 refine sq <| rg <| pn 1 rfl <| nx <| sq <| cy rfl e154 <| sk <| xn <| sq <| ?_
 refine bk <| sq <| rg <| ?_
 have ph1 := ph1.mono hle151
 obtain ⟨_, rfl, h163⟩ := ph1.el h157
 refine va rfl (ix Sl118 rfl rfl i155 (lt_of ph1.len j156) h163.ne) <| va rfl (ld One9 rfl (h163.pt 1 rfl)) <| pn 1 rfl <| nx <| rg <| pn 3 rfl <| va rfl (fd Fld87_0 rfl (bi 2 rfl rfl)) <| va rfl (ld One85 rfl (bi 2 rfl rfl)) <| pn 1 rfl <| ?_
 refine bs hk fun y164 e165 hk => aS 0 rfl Sl85 Try.underlying9 El5 rfl rfl h146 rfl e165 (fun _ => rfl) fun a166 n167 c168 e169 h170 => pn 1 rfl <| va rfl (fd Fld87_0 rfl (bi 2 rfl rfl)) <| sr 2 rfl Sz85 rfl rfl rfl rfl rfl <| on <| xb <| xn <| rg <| ?_
 refine pn 2 rfl <| on <| sx 9 w153 rfl <| ?_
 exact asx (ih152 _ _ _ ⟨(p143 ++ bytesOf y158), _, _, _, _, hle151, h170, hk, rfl, rfl⟩) rfl
theorem Ok36 : CallOk Try.prog 36 := ⟨_, Try.func36, by kernel_rfl, by kernel_rfl⟩
/-! 35 (*tidewrack/num.Out).Text -/
def num_Out_Text_l1  : List ByteArray → (List Int) → Option (num_Out)
  | [], p173 =>
  some (⟨p173⟩ : num_Out)
  | y188 :: ys189, p173 =>
  (num_Out_Num (⟨p173⟩ : num_Out) ([(y188.size : Int)] : List Int)).bind fun y196 => (num_Out_Raw y196 ([y188] : List ByteArray)).bind fun y207 => (num_Out_Text_l1 ys189 y207.b)
def num_Out_Text (x0 : num_Out) (x1 : List ByteArray) : Option (num_Out) :=
  (cap x1.length).bind fun y190 => num_Out_Text_l1 x1 x0.b
set_option maxRecDepth 20000 in
set_option maxHeartbeats 4000000 in
theorem num_Out_Text_does {M : Mem} {x0 : num_Out} {x1 : List ByteArray} {pb0 : Nat} {pa0 : Option Addr} {pn0 pc0 : Nat} {pe0 : Ent} {pa1 : Option Addr} {pn1 pc1 : Nat} {pe1 : Ent} {r : num_Out} (ph0 : OSl M (eInt .u8) x0.b pa0 pn0 pc0 5 pe0) (ph1 : RdE M eStr x1 pa1 pn1 pc1 pe1) (hk : num_Out_Text x0 x1 = some r) :
    Does Try.prog 35 [.pointer (some ⟨pb0, 0, none⟩), .slice pa1 pn1 pc1].toArray M [some (pb0, .cells #[.slice pa0 pn0 pc0] 87 (0, 0)), pe0, pe1] (fun v M' H' => ∃ a101 n102 c103 e105, v = .pointer (some ⟨pb0, 0, none⟩) ∧ OSl M' (eInt .u8) r.b a101 n102 c103 5 e105 ∧ H' = [some (pb0, .cells #[.slice a101 n102 c103] 87 (0, 0)), e105, pe1]) := by
 refine Does.of Try.func35 rfl rfl fun w0 => sq <| rg <| pn 1 rfl <| nx <| sq <| sq <| rg <| pn 1 rfl <| ?_
 refine va rfl (lf Try.underlying118 ph1.len rfl) <| pn 1 rfl <| nx <| bk <| bs hk fun y190 e191 hk => Cd.loop <| ?_
 refine seL [1, 2, 0] rfl <| ls (l' := [(0, .pointer (some ⟨pb0, 0, none⟩)), (4, .pointer none), (7, .slice pa1 pn1 pc1), (8, .int .i64 (x1.length : Int)), (9, .int .i64 0)]) rfl <| ?_
 refine Lp.lst (xs := x1) e191 (fun ys_ p179 M180 H' l' => ∃ p173 a174 n177 c175 e178, Mem.le M M180 ∧ OSl M180 (eInt .u8) p173 a174 n177 c175 5 e178 ∧ num_Out_Text_l1 ys_ p173 = some r ∧ l' = [(0, .pointer (some ⟨pb0, 0, none⟩)), (4, .pointer none), (7, .slice pa1 pn1 pc1), (8, .int .i64 (x1.length : Int)), (9, .int .i64 p179)] ∧ H' = [e178, pe1, some (pb0, .cells #[.slice a174 n177 c175] 87 (0, 0))]) ?_ ?_ _ _ _ ⟨x0.b, _, _, _, _, lr, ph0, hk, rfl, rfl⟩
 · rintro p179 e184 M180 H' l' ⟨p173, a174, n177, c175, e178, hle181, h176, hk, rfl, rfl⟩
   refine sq <| rg <| pn 1 rfl <| nx <| sq <| cn rfl e184 <| ex <| te <| te <| ?_
   refine xe <| xn <| sq <| rg <| pn 2 rfl <| nx <| rt <| ?_
   obtain rfl := si hk
   exact seX [2, 0, 1] rfl <| oR 3 rfl rfl ⟨_, _, _, _, rfl, h176, rfl⟩
 rintro y188 ys189 p179 e184 i185 j186 h187 w183 ih182 M180 H' l' ⟨p173, a174, n177, c175, e178, hle181, h176, hk, rfl, rfl⟩
 refine sq <| rg <| pn 1 rfl <| nx <| sq <| cy rfl e184 <| sk <| xn <| sq <| ?_
 refine bk <| sq <| rg <| ?_
 have ph1 := ph1.mono hle181
 obtain ⟨_, rfl, h193⟩ := ph1.el h187
 refine va rfl (ix Sl118 rfl rfl i185 (lt_of ph1.len j186) h193.ne) <| va rfl (ld One9 rfl (h193.pt 1 rfl)) <| pn 1 rfl <| nx <| rg <| pn 2 rfl <| va rfl (sln Try.underlying9 rfl) <| ?_
 refine li (eInt .i64) [(y188.size : Int)] rfl Sl75 El3 rfl rfl ⟨rfl, rfl⟩ fun b194 h195 => se [3, 1, 0, 2] rfl <| bs hk fun y196 e197 hk => ca rfl Ok34 (num_Out_Num_does h176 (h195.rde) e197) rfl rfl <| ?_
 rintro _ M198 _ l199 ⟨a200, n201, c202, e204, rfl, h203, rfl⟩
 refine pn 1 rfl <| ?_
 refine li eStr [y188] rfl Sl118 El9 rfl rfl ⟨rfl, rfl⟩ fun b205 h206 => se [1, 2, 0, 3, 4] rfl <| bs hk fun y207 e208 hk => ca rfl Ok36 (num_Out_Raw_does h203 (h206.rde) e208) rfl rfl <| ?_
 rintro _ M209 _ l210 ⟨a211, n212, c213, e215, rfl, h214, rfl⟩
 refine on <| xb <| xn <| rg <| pn 2 rfl <| on <| sx 9 w183 rfl <| seX [1, 4, 0] rfl <| ?_
 exact asx (ih182 _ _ _ ⟨y207.b, _, _, _, _, ((hle181.t l199).t l210), h214, hk, rfl, rfl⟩) rfl
theorem Ok35 : CallOk Try.prog 35 := ⟨_, Try.func35, by kernel_rfl, by kernel_rfl⟩
theorem Zr41 : Zr Try.prog 41 (.agg #[(.int .i32 0), (.int .i64 0)]) := ⟨by kernel_rfl⟩
/-! 39 (*tidewrack/num.Out).Bytes -/
def num_Out_Bytes (x0 : num_Out) : ByteArray :=
  (strOfNums x0.b)
set_option maxRecDepth 20000 in
set_option maxHeartbeats 4000000 in
theorem num_Out_Bytes_does {M : Mem} {x0 : num_Out} {pb0 : Nat} {pa0 : Option Addr} {pn0 pc0 : Nat} {pe0 : Ent} {r : ByteArray} (ph0 : OSl M (eInt .u8) x0.b pa0 pn0 pc0 5 pe0) (hk : some (num_Out_Bytes x0) = some r) :
    Does Try.prog 39 [.pointer (some ⟨pb0, 0, none⟩)].toArray M [some (pb0, .cells #[.slice pa0 pn0 pc0] 87 (0, 0)), pe0] (fun v M' H' => v = .string r ∧ H' = [some (pb0, .cells #[.slice pa0 pn0 pc0] 87 (0, 0)), pe0]) := by
 refine Does.of Try.func39 rfl rfl fun w0 => sq <| rg <| pn 1 rfl <| nx <| sq <| rg <| pn 2 rfl <| va rfl (fd Fld87_0 rfl (bi 0 rfl rfl)) <| ?_
 refine va rfl (ld One85 rfl (bi 0 rfl rfl)) <| va rfl (bS rfl Try.underlying85 Try.underlying5 Try.underlying9 (RdE.rds ph0.rde 1 rfl)) <| pn 1 rfl <| nx <| rt <| ?_
 obtain rfl := si hk
 exact oR 2 rfl rfl ⟨rfl, rfl⟩
theorem Ok39 : CallOk Try.prog 39 := ⟨_, Try.func39, by kernel_rfl, by kernel_rfl⟩
/-! 37 tidewrack/book.Pack -/
def book_Pack_l1  : List Glyph → (List Int) → Option (ByteArray)
  | [], p160 =>
  some (num_Out_Bytes (⟨p160⟩ : num_Out))
  | y175 :: ys176, p160 =>
  (num_Out_Num (⟨p160⟩ : num_Out) ([(w64 y175.Rune), y175.Style] : List Int)).bind fun y186 => (book_Pack_l1 ys176 y186.b)
def book_Pack (x0 : List Glyph) : Option (ByteArray) :=
  (num_Out_Num (⟨([] : List Int)⟩ : num_Out) ([(x0.length : Int)] : List Int)).bind fun y104 => (cap x0.length).bind fun y177 => book_Pack_l1 x0 y104.b
set_option maxRecDepth 20000 in
set_option maxHeartbeats 4000000 in
theorem book_Pack_does {M : Mem} {x0 : List Glyph} {pa0 : Option Addr} {pn0 pc0 : Nat} {pe0 : Ent} {r : ByteArray} (ph0 : RdE M E41 x0 pa0 pn0 pc0 pe0) (hk : book_Pack x0 = some r) :
    Does Try.prog 37 [.slice pa0 pn0 pc0].toArray M [pe0] (fun v M' H' => v = .string r ∧ H' = [pe0]) := by
 refine Does.of Try.func37 rfl rfl fun w0 => sq <| rg <| pn 1 rfl <| nx <| sq <| rg <| al rfl Zr87 fun b101 => nx <| ?_
 refine sq <| rg <| pn 1 rfl <| va rfl (lf Try.underlying23 ph0.len rfl) <| ?_
 refine li (eInt .i64) [(x0.length : Int)] rfl Sl75 El3 rfl rfl ⟨rfl, rfl⟩ fun b102 h103 => bl <| se [2, 0, 1, 3] rfl <| bs hk fun y104 e105 hk => ca rfl Ok34 (num_Out_Num_does (OSl.nil _ _ _) (h103.rde) e105) rfl rfl <| ?_
 rintro _ M106 _ l107 ⟨a108, n109, c110, e112, rfl, h111, rfl⟩
 refine nx <| sq <| sq <| rg <| pn 1 rfl <| va rfl (lf Try.underlying23 ph0.len rfl) <| pn 1 rfl <| nx <| bk <| ?_
 refine bs hk fun y177 e178 hk => Cd.loop <| ?_
 refine seL [1, 3, 0] rfl <| ls (l' := [(2, .string (⟨#[]⟩ : ByteArray)), (3, .pointer (some ⟨b101, 0, none⟩)), (10, .slice pa0 pn0 pc0), (11, .int .i64 (x0.length : Int)), (12, .int .i64 0)]) rfl <| ?_
 refine Lp.lst (xs := x0) e178 (fun ys_ p166 M167 H' l' => ∃ p160 a161 n164 c162 e165, Mem.le M106 M167 ∧ OSl M167 (eInt .u8) p160 a161 n164 c162 5 e165 ∧ book_Pack_l1 ys_ p160 = some r ∧ l' = [(2, .string (⟨#[]⟩ : ByteArray)), (3, .pointer (some ⟨b101, 0, none⟩)), (10, .slice pa0 pn0 pc0), (11, .int .i64 (x0.length : Int)), (12, .int .i64 p166)] ∧ H' = [e165, pe0, some (b101, .cells #[.slice a161 n164 c162] 87 (0, 0))]) ?_ ?_ _ _ _ ⟨y104.b, _, _, _, _, lr, h111, hk, rfl, rfl⟩
 · rintro p166 e171 M167 H' l' ⟨p160, a161, n164, c162, e165, hle168, h163, hk, rfl, rfl⟩
   refine sq <| rg <| pn 1 rfl <| nx <| sq <| cn rfl e171 <| ex <| te <| te <| ?_
   refine xe <| xn <| sq <| rg <| se [2, 0, 1] rfl <| caq rfl Ok39 (num_Out_Bytes_does h163 (tt (num_Out_Bytes (⟨p160⟩ : num_Out)))) rfl rfl <| pn 1 rfl <| nx <| rt <| ?_
   obtain rfl := si hk
   exact seX [2] rfl <| oR 1 rfl rfl ⟨rfl, rfl⟩
 rintro y175 ys176 p166 e171 i172 j173 h174 w170 ih169 M167 H' l' ⟨p160, a161, n164, c162, e165, hle168, h163, hk, rfl, rfl⟩
 refine sq <| rg <| pn 1 rfl <| nx <| sq <| cy rfl e171 <| sk <| xn <| sq <| ?_
 refine bk <| sq <| rg <| ?_
 have ph0 := ph0.mono (l107.t hle168)
 obtain ⟨_, rfl, h182⟩ := ph0.el h174
 refine va rfl (ix Sl23 rfl rfl i172 (lt_of ph0.len j173) h182.ne) <| va rfl (lN Rowy41 Sz41 rfl (h182.pt 1 rfl) rfl) <| al rfl Zr41 fun b183 => sr 0 rfl Sz41 rfl rfl rfl rfl rfl <| nx <| rg <| va rfl (fd Fld41_0 rfl (bi 0 rfl rfl)) <| va rfl (ld One21 rfl (Pt.part 0 1 (bi 0 rfl rfl) rfl)) <| va rfl (cv rfl Try.underlying3 Try.underlying21) <| ?_
 refine va rfl (fd Fld41_1 rfl (bi 0 rfl rfl)) <| va rfl (ld One3 rfl (Pt.part 1 1 (bi 0 rfl rfl) rfl)) <| ?_
 refine li (eInt .i64) [(w64 y175.Rune), y175.Style] rfl Sl75 El3 rfl rfl ⟨rfl, rfl, rfl⟩ fun b184 h185 => se [4, 2, 0, 1, 3] rfl <| bs hk fun y186 e187 hk => ca rfl Ok34 (num_Out_Num_does h163 (h185.rde) e187) rfl rfl <| ?_
 rintro _ M188 _ l189 ⟨a190, n191, c192, e194, rfl, h193, rfl⟩
 refine on <| xb <| xn <| rg <| pn 2 rfl <| on <| sx 12 w170 rfl <| seX [1, 4, 0] rfl <| ?_
 exact asx (ih169 _ _ _ ⟨y186.b, _, _, _, _, (hle168.t l189), h193, hk, rfl, rfl⟩) rfl
theorem Ok37 : CallOk Try.prog 37 := ⟨_, Try.func37, by kernel_rfl, by kernel_rfl⟩
/-! 64 tidewrack/snap.bit -/
def snap_bit (x0 : Bool) : Option (Int) :=
  (bif x0 then some 1 else some 0)
set_option maxRecDepth 20000 in
set_option maxHeartbeats 4000000 in
theorem snap_bit_does {M : Mem} {x0 : Bool}  {r : Int}  (hk : snap_bit x0 = some r) :
    Does Try.prog 64 [.bool x0].toArray M [] (fun v M' H' => v = .int .i64 r ∧ H' = []) := by
 refine Does.of Try.func64 rfl rfl fun w0 => sq <| rg <| pn 1 rfl <| nx <| sq <| sq <| rg <| pn 1 rfl <| ?_
 refine nx <| ?_
 rcases cs hk with ⟨e101, hk⟩ | ⟨e101, hk⟩
 · refine cy rfl e101 <| sq <| rg <| pn 1 rfl <| nx <| rt <| tr <| ?_
   obtain rfl := si hk
   exact oR 0 rfl rfl ⟨rfl, rfl⟩
 refine cn rfl e101 <| sk <| xn <| sq <| rg <| pn 1 rfl <| nx <| rt <| ?_
 obtain rfl := si hk
 exact oR 0 rfl rfl ⟨rfl, rfl⟩
theorem Ok64 : CallOk Try.prog 64 := ⟨_, Try.func64, by kernel_rfl, by kernel_rfl⟩
/-! 65 tidewrack/snap.runs -/
def snap_runs (x0 : List Cell) : Option (List Cell) :=
  some x0
set_option maxRecDepth 20000 in
set_option maxHeartbeats 4000000 in
theorem snap_runs_does {M : Mem} {x0 : List Cell} {pa0 : Option Addr} {pn0 pc0 : Nat} {r : List Cell} (ph0 : SRep M E39 x0 pa0 pn0 pc0) (hk : snap_runs x0 = some r) :
    Does Try.prog 65 [.slice pa0 pn0 pc0].toArray M [] (fun v M' H' => ∃ b101 a102 n103 c104, v = .func (.func 81) #[] #[.pointer (some ⟨b101, 0, none⟩)] ∧ SRep M' E39 r a102 n103 c104 ∧ H' = [some (b101, .cells #[.slice a102 n103 c104] 35 (0, 0))]) := by
 refine Does.of Try.func65 rfl rfl fun w0 => sq <| rg <| bx rfl rfl fun b106 => pn 1 rfl <| nx <| sq <| rg <| pn 2 rfl <| ?_
 refine nx <| rt <| ?_
 obtain rfl := si hk
 exact oR 1 rfl rfl ⟨_, _, _, _, rfl, ph0, rfl⟩
theorem Ok65 : CallOk Try.prog 65 := ⟨_, Try.func65, by kernel_rfl, by kernel_rfl⟩
theorem Eqt39 : EqT Try.prog 39 [(0, .int .i32), (1, .int .i64), (2, .int .i64)] := ⟨_, Try.underlying39, by kernel_rfl, by kernel_rfl, by kernel_rfl⟩
theorem Sz35 : Sz Try.prog 35 1 := ⟨by kernel_rfl⟩
def snap_runs_1_It (M : Mem) (x : Int × Cell) (vs : List Value) : Prop := vs = [.int .i64 x.1, .agg #[.int .i32 x.2.Rune, .int .i64 x.2.Style, .int .i64 x.2.Part]]
theorem snap_runs_1_It_len (M : Mem) (x : Int × Cell) (vs : List Value) (h : snap_runs_1_It M x vs) : vs.length = 2 := by
  obtain rfl := h; rfl
/-! 81 tidewrack/snap.runs$1 -/
def snap_runs_1_items_j3 (rec819 : Int → Option (List (Int × Cell))) (p809 : Int) (p637 : List Cell) (rec651 : (List Cell) → Option (List (Int × Cell))) (p870 : Bool) (p871 : Bool) : Option (List (Int × Cell)) :=
  (bif p871 then (rec819 (w64 (p809 + 1))) else (idx p637 0).bind fun y882 => ((lcut p637 p809 (p637.length : Int)).bind fun y895 => (rec651 y895)).bind fun ys887 => some ((p809, y882) :: ys887))
def snap_runs_1_items_l2 (p637 : List Cell) (rec651 : (List Cell) → Option (List (Int × Cell))) : Nat → Int → Option (List (Int × Cell))
  | 0, _ => none
  | k + 1, p809 =>
  (bif (decide (p809 < (p637.length : Int))) then (idx p637 p809).bind fun y903 => (idx p637 0).bind fun y909 => snap_runs_1_items_j3 (snap_runs_1_items_l2 p637 rec651 k) p809 p637 rec651 true ((y903.Rune == y909.Rune) && ((y903.Style == y909.Style) && ((y903.Part == y909.Part) && true))) else snap_runs_1_items_j3 (snap_runs_1_items_l2 p637 rec651 k) p809 p637 rec651 false false)
def snap_runs_1_items_l1  : Nat → (List Cell) → Option (List (Int × Cell))
  | 0, _ => none
  | k + 1, p637 =>
  (bif (decide ((p637.length : Int) > 0)) then snap_runs_1_items_l2 p637 (snap_runs_1_items_l1 k) 4294967296 1 else some [])
def snap_runs_1_items (x1 : List Cell) : Option (List (Int × Cell)) :=
  snap_runs_1_items_l1 4294967296 x1
set_option maxRecDepth 20000 in
set_option maxHeartbeats 4000000 in
theorem snap_runs_1_items_iter {M : Mem} {x1 : List Cell} {pb0 : Nat} {pa0 : Option Addr} {pn0 pc0 : Nat} {xs : List (Int × Cell)} (ph0 : SRep M E39 x1 pa0 pn0 pc0) (hk : snap_runs_1_items x1 = some xs) :
    Iter Try.prog 81 [.pointer (some ⟨pb0, 0, none⟩)] snap_runs_1_It xs M [some (pb0, .cells #[.slice pa0 pn0 pc0] 35 (0, 0))] [] := by
 intro l J S Hc hrd hJ
 refine Does.of Try.func81 rfl rfl fun w0 => bk <| Cd.loop <| ?_
 refine ls (l' := [(0, .func (.yield l) #[] #[]), (1, .pointer (some ⟨pb0, 0, none⟩))]) rfl <| ?_
 refine Lp.ind (fun k M642 H' l' => ∃ p637 a638 n641 c639 ys644 M645 Hc646, Mem.le M M642 ∧ SRep M642 E39 p637 a638 n641 c639 ∧ Mem.le M645 M642 ∧ J ys644 M645 Hc646 ∧ snap_runs_1_items_l1 k p637 = some ys644 ∧ l' = [(0, .func (.yield l) #[] #[]), (1, .pointer (some ⟨pb0, 0, none⟩))] ∧ H' = [some (pb0, .cells #[.slice a638 n641 c639] 35 (0, 0))] ++ Hc646) ?_ ?_ 4294967296 _ _ _ ⟨x1, _, _, _, _, _, _, lr, ph0, lr, hJ, hk, rfl, rfl⟩
 · rintro M642 H' l' ⟨p637, a638, n641, c639, ys644, M645, Hc646, hle643, h640, hl648, hj647, hk, -, -⟩; cases hk
 rintro k649 ih650 M642 H' l' ⟨p637, a638, n641, c639, ys644, M645, Hc646, hle643, h640, hl648, hj647, hk, rfl, rfl⟩
 refine sq <| sq <| rg <| va rfl (ld One35 rfl (bi 0 rfl rfl)) <| va rfl (lf Try.underlying35 h640.len rfl) <| pn 1 rfl <| nx <| ?_
 rcases cs hk with ⟨e652, hk⟩ | ⟨e652, hk⟩
 · refine cy rfl e652 <| sk <| xn <| bk <| sq <| rg <| pn 1 rfl <| nx <| sq <| ?_
   refine bk <| Cd.loop <| ?_
   refine ls (l' := [(0, .func (.yield l) #[] #[]), (1, .pointer (some ⟨pb0, 0, none⟩)), (3, .int .i64 1), (4, .slice a638 n641 c639), (5, .int .i64 (p637.length : Int)), (6, .bool (decide ((p637.length : Int) > 0)))]) rfl <| ?_
   refine Lp.ind (fun k M810 H' l' => ∃ p809 ys812 M813 Hc814, Mem.le M642 M810 ∧ Mem.le M813 M810 ∧ J ys812 M813 Hc814 ∧ snap_runs_1_items_l2 p637 (snap_runs_1_items_l1 k649) k p809 = some ys812 ∧ l' = [(0, .func (.yield l) #[] #[]), (1, .pointer (some ⟨pb0, 0, none⟩)), (3, .int .i64 p809), (4, .slice a638 n641 c639), (5, .int .i64 (p637.length : Int)), (6, .bool (decide ((p637.length : Int) > 0)))] ∧ H' = [some (pb0, .cells #[.slice a638 n641 c639] 35 (0, 0))] ++ Hc814) ?_ ?_ 4294967296 _ _ _ ⟨1, _, _, _, lr, hl648, hj647, hk, rfl, rfl⟩
   · rintro M810 H' l' ⟨p809, ys812, M813, Hc814, hle811, hl816, hj815, hk, -, -⟩; cases hk
   rintro k817 ih818 M810 H' l' ⟨p809, ys812, M813, Hc814, hle811, hl816, hj815, hk, rfl, rfl⟩
   refine sq <| ?_
   refine Cd.join (fun M872 H' l' => ∃ p870 p871 ys874 M875 Hc876, Mem.le M810 M872 ∧ Mem.le M875 M872 ∧ J ys874 M875 Hc876 ∧ snap_runs_1_items_j3 (snap_runs_1_items_l2 p637 (snap_runs_1_items_l1 k649) k817) p809 p637 (snap_runs_1_items_l1 k649) p870 p871 = some ys874 ∧ l' = [(0, .func (.yield l) #[] #[]), (1, .pointer (some ⟨pb0, 0, none⟩)), (3, .int .i64 p809), (4, .slice a638 n641 c639), (5, .int .i64 (p637.length : Int)), (6, .bool (decide ((p637.length : Int) > 0))), (7, .int .i64 p809), (8, .slice a638 n641 c639), (9, .int .i64 (p637.length : Int)), (10, .bool (decide (p809 < (p637.length : Int)))), (11, .bool p870), (20, .bool p871)] ∧ H' = [some (pb0, .cells #[.slice a638 n641 c639] 35 (0, 0))] ++ Hc876) ?_ ?_
   · rintro M872 H' l' ⟨p870, p871, ys874, M875, Hc876, hle873, hl878, hj877, hk, rfl, rfl⟩
     rcases cs hk with ⟨e880, hk⟩ | ⟨e880, hk⟩
     · refine cy rfl e880 <| sk <| xn <| bk <| rg <| pn 3 rfl <| on <| xb <| ?_
       exact asx (ih818 _ _ _ ⟨(w64 (p809 + 1)), _, _, _, (hle811.t hle873), hl878, hj877, hk, rfl, rfl⟩) rfl
     refine cn rfl e880 <| ex <| te <| te <| xe <| xn <| sq <| sq <| rg <| ?_
     refine pn 2 rfl <| va rfl (ld One35 rfl (bi 0 rfl rfl)) <| bs hk fun y882 e883 hk => ?_
     obtain ⟨i884, j885, h886⟩ := idx_some e883
     have h640 := h640.mono (hle811.t hle873)
     obtain ⟨_, rfl, h881⟩ := h640.pt [] h886
     refine va rfl (ix Sl35 rfl rfl i884 (lt_of h640.len j885) (Pt.ne h881)) <| va rfl (lN Rowy39 Sz39 rfl (Pt.any h881 _) rfl) <| bs hk fun ys887 e888 hk => ?_
     obtain rfl := si hk
     refine yl rfl rfl rfl (vs := [_, _]) (H2 := [_]) (hrd (p809, y882) ys887 _ _ _ _ hl878 hj877 rfl) rfl <| ?_
     rintro q889 M890 Hc891 l892 (⟨rfl, hj893⟩ | ⟨rfl, hs894⟩)
     · refine pn 1 rfl <| nx <| cn rfl rfl <| sk <| xn <| rg <| va rfl (ld One35 rfl (bi 0 rfl rfl)) <| pn 1 rfl <| bs e888 fun y895 e896 e888 => ?_
       have h640 := h640.mono l892
       exact ct rfl Sl35 rfl h640 ⟨_, rfl⟩ rfl e896 fun a897 n898 c899 h900 => sr 0 rfl Sz35 rfl rfl rfl rfl rfl <| on <| xb <| asx (ih650 _ _ _ ⟨y895, _, _, _, _, _, _, (((hle643.t hle811).t hle873).t l892), h900, lr, hj893, e888, rfl, rfl⟩) rfl
     refine pn 1 rfl <| nx <| cy rfl rfl <| rt <| tr <| xr <| tr <| xr <| stX 1 [] rfl rfl rfl <| ?_
     exact Ex.outA rfl (.inl rfl) rfl (rs := []) (vs := []) trivial rfl ⟨_, rfl, .inr hs894⟩
   intro J879
   refine dw [0] rfl (.tk [0, 1, 2, 3, 4, 5, 6, 7, 8, 9, 10, 11, 12, 13] .nil) Mixed (by kernel_rfl) <| dn 1 rfl <| dv rfl rfl (ld One35 rfl (bi 0 rfl rfl)) <| dv rfl rfl (lf Try.underlying35 h640.len rfl) <| dn 2 rfl <| ?_
   rcases cs hk with ⟨e901, hk⟩ | ⟨e901, hk⟩
   · refine ktd 11 e901 rfl <| dv rfl rfl (ld One35 rfl (bi 0 rfl rfl)) <| dn 1 rfl <| bs hk fun y903 e904 hk => ?_
     obtain ⟨i905, j906, h907⟩ := idx_some e904
     obtain ⟨_, rfl, h902⟩ := (h640.mono hle811).pt [] h907
     refine dv rfl rfl (ix Sl35 rfl rfl i905 (lt_of h640.len j906) (Pt.ne h902)) <| dv rfl rfl (lN Rowy39 Sz39 rfl (Pt.any h902 _) rfl) <| dv rfl rfl (ld One35 rfl (bi 0 rfl rfl)) <| bs hk fun y909 e910 hk => ?_
     obtain ⟨i911, j912, h913⟩ := idx_some e910
     obtain ⟨_, rfl, h908⟩ := (h640.mono hle811).pt [] h913
     exact dv rfl rfl (ix Sl35 rfl rfl i911 (lt_of h640.len j912) (Pt.ne h908)) <| dv rfl rfl (lN Rowy39 Sz39 rfl (Pt.any h908 _) rfl) <| dv rfl rfl (run_eqlS rfl rfl rfl Eqt39 rfl) <| dn 1 rfl <| dd <| asx (J879 _ _ _ ⟨true, ((y903.Rune == y909.Rune) && ((y903.Style == y909.Style) && ((y903.Part == y909.Part) && true))), _, _, _, lr, hl816, hj815, hk, rfl, rfl⟩) rfl
   exact kfd 11 e901 rfl <| dn 9 rfl <| dd <| asx (J879 _ _ _ ⟨false, false, _, _, _, lr, hl816, hj815, hk, rfl, rfl⟩) rfl
 refine cn rfl e652 <| ex <| te <| te <| xe <| stX 1 [] rfl rfl rfl <| ?_
 obtain rfl := si hk
 exact Ex.outA rfl (.inr rfl) rfl (rs := []) (vs := []) trivial rfl ⟨_, rfl, .inl ⟨_, hl648, hj647⟩⟩
theorem Ok81 : CallOk Try.prog 81 := ⟨_, Try.func81, by kernel_rfl, by kernel_rfl⟩
/-! 38 tidewrack/snap.PackRow -/
def snap_PackRow_r1  : List (Int × Cell) → (List Int) → Option (ByteArray)
  | [], p163 =>
  some (num_Out_Bytes (⟨p163⟩ : num_Out))
  | x172 :: xs171, p163 =>
  (num_Out_Num (⟨p163⟩ : num_Out) ([x172.1, (w64 x172.2.Rune), x172.2.Style, x172.2.Part] : List Int)).bind fun y185 => ((snap_PackRow_r1 xs171) y185.b)

def snap_PackRow (x0 : Row) : Option (ByteArray) :=
  (snap_bit x0.Wrapped).bind fun y103 => (num_Out_Num (⟨([] : List Int)⟩ : num_Out) ([y103] : List Int)).bind fun y109 => (snap_runs x0.Cells).bind fun y118 => (snap_runs_1_items y118).bind fun xs127 => snap_PackRow_r1 xs127 y109.b
set_option maxRecDepth 20000 in
set_option maxHeartbeats 4000000 in
theorem snap_PackRow_does {M : Mem} {x0 : Row} {pa0 : Option Addr} {pn0 pc0 : Nat} {r : ByteArray} (ph0 : SRep M E39 x0.Cells pa0 pn0 pc0) (hk : snap_PackRow x0 = some r) :
    Does Try.prog 38 [.agg #[.slice pa0 pn0 pc0, .bool x0.Wrapped]].toArray M [] (fun v M' H' => v = .string r ∧ H' = []) := by
 refine Does.of Try.func38 rfl rfl fun w0 => sq <| rg <| bx rfl rfl fun b101 => pn 1 rfl <| nx <| sq <| rg <| al rfl Zr87 fun b102 => ?_
 refine nx <| sq <| rg <| va rfl (fd Fld37_1 rfl (bi 1 rfl rfl)) <| va rfl (ld One4 rfl (Pt.part 1 1 (bi 1 rfl rfl) rfl)) <| bs hk fun y103 e104 hk => caq rfl Ok64 (snap_bit_does e104) rfl rfl <| ?_
 refine li (eInt .i64) [y103] rfl Sl75 El3 rfl rfl ⟨rfl, rfl⟩ fun b107 h108 => bl <| se [2, 0, 1, 3] rfl <| bs hk fun y109 e110 hk => ca rfl Ok34 (num_Out_Num_does (OSl.nil _ _ _) (h108.rde) e110) rfl rfl <| ?_
 rintro _ M111 _ l112 ⟨a113, n114, c115, e117, rfl, h116, rfl⟩
 refine nx <| sq <| sq <| rg <| va rfl (fd Fld37_0 rfl (bi 3 rfl rfl)) <| va rfl (ld One35 rfl (Pt.part 0 1 (bi 3 rfl rfl) rfl)) <| ?_
 have ph0 := ph0.mono l112
 refine bs hk fun y118 e119 hk => ca rfl Ok65 (snap_runs_does ph0 e119) rfl rfl <| ?_
 rintro _ M120 _ l121 ⟨b122, a123, n124, c125, rfl, h126, rfl⟩
 refine nx <| bk <| bs hk fun xs127 e128 hk => ?_
 refine seC [0, 2, 1] rfl <| ?_
 have h116 := h116.mono l121
 refine Cd.rangeF (Hi := [_]) (Ho := []) rfl Ok81 (snap_runs_1_items_iter h126 e128) (fun ys_ M169 H' => ∃ p163 a164 n167 c165 e168, Mem.le M120 M169 ∧ OSl M169 (eInt .u8) p163 a164 n167 c165 5 e168 ∧ snap_PackRow_r1 ys_ p163 = some r ∧ H' = [e168, some (b102, .cells #[.slice a164 n167 c165] 87 (0, 0))]) ⟨y109.b, _, _, _, _, lr, h116, hk, rfl⟩ rfl snap_runs_1_It_len ?_ ?_
 · rintro x172 xs171 M169 M173 _ _ l180 ⟨p163, a164, n167, c165, e168, hle170, h166, hk, rfl⟩ rfl lp176 rr177 w178 hr179
   refine sq <| rg <| pn 1 rfl <| nx <| rg <| al rfl Zr39 fun b182 => sr 0 rfl Sz39 rfl rfl rfl rfl rfl <| on <| Ex.begin hr179 <| ?_
   refine bk <| rg <| pn 1 rfl <| va rfl (fd Fld39_0 rfl (bi 0 rfl rfl)) <| va rfl (ld One21 rfl (Pt.part 0 1 (bi 0 rfl rfl) rfl)) <| va rfl (cv rfl Try.underlying3 Try.underlying21) <| va rfl (fd Fld39_1 rfl (bi 0 rfl rfl)) <| va rfl (ld One3 rfl (Pt.part 1 1 (bi 0 rfl rfl) rfl)) <| va rfl (fd Fld39_2 rfl (bi 0 rfl rfl)) <| ?_
   refine va rfl (ld One3 rfl (Pt.part 2 1 (bi 0 rfl rfl) rfl)) <| ?_
   refine li (eInt .i64) [x172.1, (w64 x172.2.Rune), x172.2.Style, x172.2.Part] rfl Sl75 El3 rfl rfl ⟨rfl, rfl, rfl, rfl, rfl⟩ fun b183 h184 => ?_
   have h166 := h166.mono l180
   refine se [3, 2, 0, 1] rfl <| bs hk fun y185 e186 hk => ca rfl Ok34 (num_Out_Num_does h166 (h184.rde) e186) rfl rfl <| ?_
   rintro _ M187 _ l188 ⟨a189, n190, c191, e193, rfl, h192, rfl⟩
   exact on <| xb <| seX [1, 0] rfl <| Ex.roundN lr ⟨y185.b, _, _, _, _, ((hle170.t l180).t l188), h192, hk, rfl⟩
 rintro M169 M194 _ hle195 ⟨p163, a164, n167, c165, e168, hle170, h166, hk, rfl⟩
 refine xb <| xn <| sq <| rg <| ?_
 have h166 := h166.mono hle195
 refine se [1, 0] rfl <| caq rfl Ok39 (num_Out_Bytes_does h166 (tt (num_Out_Bytes (⟨p163⟩ : num_Out)))) rfl rfl <| pn 1 rfl <| nx <| rt <| ?_
 obtain rfl := si hk
 exact seX [] rfl <| oR 0 rfl rfl ⟨rfl, rfl⟩
theorem Ok38 : CallOk Try.prog 38 := ⟨_, Try.func38, by kernel_rfl, by kernel_rfl⟩
/-! 12 (tidewrack/snap.Snap).Pack -/
def snap_Snap_Pack_l2  : List Row → (List Int) → Option (ByteArray)
  | [], p890 =>
  some (num_Out_Bytes (⟨p890⟩ : num_Out))
  | y905 :: ys906, p890 =>
  (snap_PackRow y905).bind fun y918 => (num_Out_Raw (⟨p890⟩ : num_Out) ([y918] : List ByteArray)).bind fun y924 => (snap_Snap_Pack_l2 ys906 y924.b)
def snap_Snap_Pack_j1 (x0 : Snap) (p818 : List Int) : Option (ByteArray) :=
  (cap x0.Rows.length).bind fun y907 => snap_Snap_Pack_l2 x0.Rows p818
def snap_Snap_Pack (x0 : Snap) : Option (ByteArray) :=
  (bif (snap_Snap_empty x0) then some true else (snap_Snap_Check x0).bind fun y147 => some (y147 != 0)).bind fun z152 => (bif z152 then some (⟨#[]⟩ : ByteArray) else (num_Out_Num (⟨([] : List Int)⟩ : num_Out) ([x0.K, x0.W, x0.H, x0.X, x0.Y] : List Int)).bind fun y1548 => (num_Out_Text y1548 ([x0.Title] : List ByteArray)).bind fun y1557 => (num_Out_Num y1557 ([x0.Len, x0.Chain] : List Int)).bind fun y1566 => (book_Pack x0.Begun).bind fun y1575 => (num_Out_Raw y1566 ([y1575] : List ByteArray)).bind fun y1581 => snap_Snap_Pack_j1 x0 y1581.b)
set_option maxRecDepth 20000 in
set_option maxHeartbeats 4000000 in
theorem snap_Snap_Pack_does {M : Mem} {x0 : Snap} {pa0 : Option Addr} {pn0 pc0 : Nat} {pe0 : Ent} {pa1 : Option Addr} {pn1 pc1 : Nat} {pe1 : Ent} {r : ByteArray} (ph0 : RdE M E37 x0.Rows pa0 pn0 pc0 pe0) (ph1 : RdE M E41 x0.Begun pa1 pn1 pc1 pe1) (hk : snap_Snap_Pack x0 = some r) :
    Does Try.prog 12 [.agg #[.int .i64 x0.K, .int .i64 x0.W, .int .i64 x0.H, .int .i64 x0.X, .int .i64 x0.Y, .string x0.Title, .slice pa0 pn0 pc0, .int .i64 x0.Len, .int .i64 x0.Chain, .slice pa1 pn1 pc1]].toArray M [pe0, pe1] (fun v M' H' => v = .string r ∧ H' = [pe0, pe1]) := by
 refine Does.of Try.func12 rfl rfl fun w0 => sq <| rg <| bx rfl rfl fun b101 => pn 1 rfl <| nx <| sq <| sq <| rg <| va rfl (lN Rowy25 Sz25 rfl (bi 0 rfl rfl) rfl) <| se [1, 2, 0] rfl <| caq rfl Ok32 (snap_Snap_empty_does (ph0.rde) (ph1.rde) (tt (snap_Snap_empty x0))) rfl rfl <| pn 1 rfl <| bs hk fun z152 e151 hk => jn 12 4 rfl (.bool z152) (fun J153 => ?_) ?_
 · rcases cs e151 with ⟨e154, e151⟩ | ⟨e154, e151⟩
   · exact kt 8 e154 rfl <| pn 4 rfl <| ji 5 J153 rfl rfl rfl e151
   exact kf 8 e154 rfl <| va rfl (lN Rowy25 Sz25 rfl (bi 2 rfl rfl) rfl) <| bs e151 fun y155 e156 e151 => caq rfl Ok33 (snap_Snap_Check_does (ph0.rde) (ph1.rde) e156) rfl rfl <| pn 2 rfl <| ji 5 J153 rfl rfl rfl e151
 refine nx <| ?_
 rcases cs hk with ⟨e159, hk⟩ | ⟨e159, hk⟩
 · refine cy rfl e159 <| sq <| rg <| pn 1 rfl <| nx <| rt <| tr <| ?_
   obtain rfl := si hk
   exact seX [0, 1] rfl <| oR 2 rfl rfl ⟨rfl, rfl⟩
 refine cn rfl e159 <| sk <| xn <| sq <| rg <| al rfl Zr87 fun b160 => nx <| ?_
 refine Cd.join (fun M824 H' l' => ∃ p818 a819 n822 c820 e823, Mem.le M M824 ∧ OSl M824 (eInt .u8) p818 a819 n822 c820 5 e823 ∧ snap_Snap_Pack_j1 x0 p818 = some r ∧ l' = [(1, .pointer (some ⟨b101, 0, none⟩)), (2, .string (⟨#[]⟩ : ByteArray)), (3, .pointer (some ⟨b160, 0, none⟩))] ∧ H' = [e823, pe0, pe1, some (b101, .cells #[.int .i64 x0.K, .int .i64 x0.W, .int .i64 x0.H, .int .i64 x0.X, .int .i64 x0.Y, .string x0.Title, .slice pa0 pn0 pc0, .int .i64 x0.Len, .int .i64 x0.Chain, .slice pa1 pn1 pc1] 25 (0, 0)), some (b160, .cells #[.slice a819 n822 c820] 87 (0, 0))]) ?_ ?_
 · rintro M824 H' l' ⟨p818, a819, n822, c820, e823, hle825, h821, hk, rfl, rfl⟩
   refine sq <| sq <| rg <| va rfl (fd Fld25_6 rfl (bi 3 rfl rfl)) <| va rfl (ld One22 rfl (Pt.part 6 1 (bi 3 rfl rfl) rfl)) <| va rfl (lf Try.underlying22 ph0.len rfl) <| pn 1 rfl <| nx <| bk <| ?_
   refine bs hk fun y907 e908 hk => Cd.loop <| ?_
   refine seL [0, 1, 2, 4] rfl <| ls (l' := [(2, .string (⟨#[]⟩ : ByteArray)), (3, .pointer (some ⟨b160, 0, none⟩)), (41, .slice pa0 pn0 pc0), (42, .int .i64 (x0.Rows.length : Int)), (43, .int .i64 0)]) rfl <| ?_
   refine Lp.lst (xs := x0.Rows) e908 (fun ys_ p896 M897 H' l' => ∃ p890 a891 n894 c892 e895, Mem.le M824 M897 ∧ OSl M897 (eInt .u8) p890 a891 n894 c892 5 e895 ∧ snap_Snap_Pack_l2 ys_ p890 = some r ∧ l' = [(2, .string (⟨#[]⟩ : ByteArray)), (3, .pointer (some ⟨b160, 0, none⟩)), (41, .slice pa0 pn0 pc0), (42, .int .i64 (x0.Rows.length : Int)), (43, .int .i64 p896)] ∧ H' = [e895, pe0, pe1, some (b160, .cells #[.slice a891 n894 c892] 87 (0, 0))]) ?_ ?_ _ _ _ ⟨p818, _, _, _, _, lr, h821, hk, rfl, rfl⟩
   · rintro p896 e901 M897 H' l' ⟨p890, a891, n894, c892, e895, hle898, h893, hk, rfl, rfl⟩
     refine sq <| rg <| pn 1 rfl <| nx <| sq <| cn rfl e901 <| ex <| te <| te <| ?_
     refine xe <| xn <| sq <| rg <| se [3, 0, 1, 2] rfl <| caq rfl Ok39 (num_Out_Bytes_does h893 (tt (num_Out_Bytes (⟨p890⟩ : num_Out)))) rfl rfl <| pn 1 rfl <| nx <| rt <| ?_
     obtain rfl := si hk
     exact seX [2, 3] rfl <| oR 2 rfl rfl ⟨rfl, rfl⟩
   rintro y905 ys906 p896 e901 i902 j903 h904 w900 ih899 M897 H' l' ⟨p890, a891, n894, c892, e895, hle898, h893, hk, rfl, rfl⟩
   refine sq <| rg <| pn 1 rfl <| nx <| sq <| cy rfl e901 <| sk <| xn <| sq <| ?_
   refine bk <| sq <| rg <| ?_
   have ph0 := ph0.mono (hle825.t hle898)
   obtain ⟨_, ⟨a913, n914, c915, rfl, h916⟩, h912⟩ := ph0.el h904
   refine va rfl (ix Sl22 rfl rfl i902 (lt_of ph0.len j903) h912.ne) <| va rfl (lN Rowy37 Sz37 rfl (h912.pt 1 rfl) rfl) <| al rfl Zr37 fun b917 => sr 0 rfl Sz37 rfl rfl rfl rfl rfl <| nx <| rg <| va rfl (lN Rowy37 Sz37 rfl (bi 0 rfl rfl) rfl) <| bs hk fun y918 e919 hk => caq rfl Ok38 (snap_PackRow_does h916 e919) rfl rfl <| ?_
   refine li eStr [y918] rfl Sl118 El9 rfl rfl ⟨rfl, rfl⟩ fun b922 h923 => se [5, 2, 0, 1, 3, 4] rfl <| bs hk fun y924 e925 hk => ca rfl Ok36 (num_Out_Raw_does h893 (h923.rde) e925) rfl rfl <| ?_
   rintro _ M926 _ l927 ⟨a928, n929, c930, e932, rfl, h931, rfl⟩
   refine on <| xb <| xn <| rg <| pn 2 rfl <| on <| sx 43 w900 rfl <| seX [1, 4, 5, 0] rfl <| ?_
   exact asx (ih899 _ _ _ ⟨y924.b, _, _, _, _, (hle898.t l927), h931, hk, rfl, rfl⟩) rfl
 intro J826
 refine dw [1, 2, 3] rfl (.tk [0, 1, 2, 3, 4, 5, 6, 7, 8, 9, 12, 13, 16, 17, 18, 19, 22, 23] (.three 10 (.three 11 (.two 14 (.two 15 (.one 20 (.one 21 (.one 24 (.one 25 (.one 26 .nil))))) 20 (.one 15 (.one 21 (.one 24 (.one 25 (.one 26 .nil)))))) 20 (.one 14 (.one 15 (.one 21 (.one 24 (.one 25 (.one 26 .nil))))))) 14 (.two 11 (.two 15 (.one 20 (.one 21 (.one 24 (.one 25 (.one 26 .nil))))) 20 (.one 15 (.one 21 (.one 24 (.one 25 (.one 26 .nil)))))) 20 (.one 11 (.one 15 (.one 21 (.one 24 (.one 25 (.one 26 .nil))))))) 20 (.two 11 (.one 14 (.one 15 (.one 21 (.one 24 (.one 25 (.one 26 .nil)))))) 14 (.one 11 (.one 15 (.one 21 (.one 24 (.one 25 (.one 26 .nil)))))))) 14 (.two 10 (.two 11 (.two 15 (.one 20 (.one 21 (.one 24 (.one 25 (.one 26 .nil))))) 20 (.one 15 (.one 21 (.one 24 (.one 25 (.one 26 .nil)))))) 20 (.one 11 (.one 15 (.one 21 (.one 24 (.one 25 (.one 26 .nil))))))) 20 (.one 10 (.one 11 (.one 15 (.one 21 (.one 24 (.one 25 (.one 26 .nil)))))))) 20 (.two 10 (.two 11 (.one 14 (.one 15 (.one 21 (.one 24 (.one 25 (.one 26 .nil)))))) 14 (.one 11 (.one 15 (.one 21 (.one 24 (.one 25 (.one 26 .nil))))))) 14 (.one 10 (.one 11 (.one 15 (.one 21 (.one 24 (.one 25 (.one 26 .nil)))))))))) Mixed (by kernel_rfl) <| dv rfl rfl (fd Fld25_0 rfl (bi 2 rfl rfl)) <| dv rfl rfl (ld One3 rfl (Pt.part 0 1 (bi 2 rfl rfl) rfl)) <| dv rfl rfl (fd Fld25_1 rfl (bi 2 rfl rfl)) <| dv rfl rfl (ld One3 rfl (Pt.part 1 1 (bi 2 rfl rfl) rfl)) <| dv rfl rfl (fd Fld25_2 rfl (bi 2 rfl rfl)) <| dv rfl rfl (ld One3 rfl (Pt.part 2 1 (bi 2 rfl rfl) rfl)) <| dv rfl rfl (fd Fld25_3 rfl (bi 2 rfl rfl)) <| dv rfl rfl (ld One3 rfl (Pt.part 3 1 (bi 2 rfl rfl) rfl)) <| ?_
 refine dv rfl rfl (fd Fld25_4 rfl (bi 2 rfl rfl)) <| dv rfl rfl (ld One3 rfl (Pt.part 4 1 (bi 2 rfl rfl) rfl)) <| dv rfl rfl (fd Fld25_5 rfl (bi 2 rfl rfl)) <| dv rfl rfl (ld One9 rfl (Pt.part 5 1 (bi 2 rfl rfl) rfl)) <| dv rfl rfl (fd Fld25_7 rfl (bi 2 rfl rfl)) <| dv rfl rfl (ld One3 rfl (Pt.part 7 1 (bi 2 rfl rfl) rfl)) <| dv rfl rfl (fd Fld25_8 rfl (bi 2 rfl rfl)) <| dv rfl rfl (ld One3 rfl (Pt.part 8 1 (bi 2 rfl rfl) rfl)) <| dv rfl rfl (fd Fld25_9 rfl (bi 2 rfl rfl)) <| ?_
 refine dv rfl rfl (ld One23 rfl (Pt.part 9 1 (bi 2 rfl rfl) rfl)) <| ?_
 refine Opd.three ?_ ?_ ?_
 · refine da rfl <| ?_
   refine li (eInt .i64) [x0.K, x0.W, x0.H, x0.X, x0.Y] rfl Sl75 El3 rfl rfl ⟨rfl, rfl, rfl, rfl, rfl, rfl⟩ fun b944 h945 => db [2, 3, 4] lr rfl <| ?_
   refine Opd.three ?_ ?_ ?_
   · refine da rfl <| bl <| se [2, 0, 1, 3, 4, 5] rfl <| bs hk fun y946 e947 hk => ca rfl Ok34 (num_Out_Num_does (OSl.nil _ _ _) (h945.rde) e947) rfl rfl <| ?_
     rintro _ M948 _ l949 ⟨a950, n951, c952, e954, rfl, h953, rfl⟩
     refine db [3, 4, 5] l949 rfl <| ?_
     refine Opd.two ?_ ?_
     · refine da rfl <| ?_
       refine li eStr [x0.Title] rfl Sl118 El9 rfl rfl ⟨rfl, rfl⟩ fun b955 h956 => db [4, 5, 6] l949 rfl <| ?_
       refine Opd.two ?_ ?_
       · refine da rfl <| se [1, 2, 0, 3, 4, 5, 6] rfl <| bs hk fun y957 e958 hk => ca rfl Ok35 (num_Out_Text_does h953 (h956.rde) e958) rfl rfl <| ?_
         rintro _ M959 _ l960 ⟨a961, n962, c963, e965, rfl, h964, rfl⟩
         refine db [4, 5, 6] (l949.t l960) rfl <| da rfl <| ?_
         refine li (eInt .i64) [x0.Len, x0.Chain] rfl Sl75 El3 rfl rfl ⟨rfl, rfl, rfl⟩ fun b966 h967 => db [5, 6, 7] (l949.t l960) rfl <| da rfl <| se [1, 2, 0, 3, 4, 5, 6, 7] rfl <| bs hk fun y968 e969 hk => ca rfl Ok34 (num_Out_Num_does h964 (h967.rde) e969) rfl rfl <| ?_
         rintro _ M970 _ l971 ⟨a972, n973, c974, e976, rfl, h975, rfl⟩
         refine db [5, 6, 7] ((l949.t l960).t l971) rfl <| da rfl <| se [6, 0, 1, 2, 3, 4, 5, 7] rfl <| bs hk fun y977 e978 hk => caq rfl Ok37 (book_Pack_does ((ph1.mono ((l949.t l960).t l971)).rde) e978) rfl rfl <| db [6, 0, 7] ((l949.t l960).t l971) rfl <| da rfl <| ?_
         refine li eStr [y977] rfl Sl118 El9 rfl rfl ⟨rfl, rfl⟩ fun b981 h982 => db [7, 1, 8] ((l949.t l960).t l971) rfl <| da rfl <| se [2, 3, 0, 1, 4, 5, 6, 7, 8] rfl <| bs hk fun y983 e984 hk => ca rfl Ok36 (num_Out_Raw_does h975 (h982.rde) e984) rfl rfl <| ?_
         rintro _ M985 _ l986 ⟨a987, n988, c989, e991, rfl, h990, rfl⟩
         exact db [7, 3, 8] (((l949.t l960).t l971).t l986) rfl <| dd <| seX [1, 7, 3, 8, 0] rfl <| asx (J826 _ _ _ ⟨y983.b, _, _, _, _, (((l949.t l960).t l971).t l986), h990, hk, rfl, rfl⟩) rfl
       refine da rfl <| ?_
       refine li (eInt .i64) [x0.Len, x0.Chain] rfl Sl75 El3 rfl rfl ⟨rfl, rfl, rfl⟩ fun b992 h993 => db [5, 6, 7] l949 rfl <| da rfl <| se [2, 3, 1, 0, 4, 5, 6, 7] rfl <| bs hk fun y994 e995 hk => ca rfl Ok35 (num_Out_Text_does h953 (h956.rde) e995) rfl rfl <| ?_
       rintro _ M996 _ l997 ⟨a998, n999, c1000, e1002, rfl, h1001, rfl⟩
       refine db [5, 6, 7] (l949.t l997) rfl <| da rfl <| se [0, 1, 3, 2, 4, 5, 6, 7] rfl <| bs hk fun y1003 e1004 hk => ca rfl Ok34 (num_Out_Num_does h1001 ((h993.mono l997).rde) e1004) rfl rfl <| ?_
       rintro _ M1005 _ l1006 ⟨a1007, n1008, c1009, e1011, rfl, h1010, rfl⟩
       refine db [5, 6, 7] ((l949.t l997).t l1006) rfl <| da rfl <| se [6, 0, 1, 2, 3, 4, 5, 7] rfl <| bs hk fun y1012 e1013 hk => caq rfl Ok37 (book_Pack_does ((ph1.mono ((l949.t l997).t l1006)).rde) e1013) rfl rfl <| db [6, 0, 7] ((l949.t l997).t l1006) rfl <| da rfl <| ?_
       refine li eStr [y1012] rfl Sl118 El9 rfl rfl ⟨rfl, rfl⟩ fun b1016 h1017 => db [7, 1, 8] ((l949.t l997).t l1006) rfl <| da rfl <| se [2, 3, 0, 1, 4, 5, 6, 7, 8] rfl <| bs hk fun y1018 e1019 hk => ca rfl Ok36 (num_Out_Raw_does h1010 (h1017.rde) e1019) rfl rfl <| ?_
       rintro _ M1020 _ l1021 ⟨a1022, n1023, c1024, e1026, rfl, h1025, rfl⟩
       exact db [7, 3, 8] (((l949.t l997).t l1006).t l1021) rfl <| dd <| seX [1, 7, 3, 8, 0] rfl <| asx (J826 _ _ _ ⟨y1018.b, _, _, _, _, (((l949.t l997).t l1006).t l1021), h1025, hk, rfl, rfl⟩) rfl
     refine da rfl <| ?_
     refine li (eInt .i64) [x0.Len, x0.Chain] rfl Sl75 El3 rfl rfl ⟨rfl, rfl, rfl⟩ fun b1027 h1028 => db [4, 5, 6] l949 rfl <| da rfl <| ?_
     refine li eStr [x0.Title] rfl Sl118 El9 rfl rfl ⟨rfl, rfl⟩ fun b1029 h1030 => db [5, 6, 7] l949 rfl <| da rfl <| se [2, 3, 0, 1, 4, 5, 6, 7] rfl <| bs hk fun y1031 e1032 hk => ca rfl Ok35 (num_Out_Text_does h953 (h1030.rde) e1032) rfl rfl <| ?_
     rintro _ M1033 _ l1034 ⟨a1035, n1036, c1037, e1039, rfl, h1038, rfl⟩
     refine db [5, 6, 7] (l949.t l1034) rfl <| da rfl <| se [0, 1, 3, 2, 4, 5, 6, 7] rfl <| bs hk fun y1040 e1041 hk => ca rfl Ok34 (num_Out_Num_does h1038 ((h1028.mono l1034).rde) e1041) rfl rfl <| ?_
     rintro _ M1042 _ l1043 ⟨a1044, n1045, c1046, e1048, rfl, h1047, rfl⟩
     refine db [5, 6, 7] ((l949.t l1034).t l1043) rfl <| da rfl <| se [6, 0, 1, 2, 3, 4, 5, 7] rfl <| bs hk fun y1049 e1050 hk => caq rfl Ok37 (book_Pack_does ((ph1.mono ((l949.t l1034).t l1043)).rde) e1050) rfl rfl <| db [6, 0, 7] ((l949.t l1034).t l1043) rfl <| da rfl <| ?_
     refine li eStr [y1049] rfl Sl118 El9 rfl rfl ⟨rfl, rfl⟩ fun b1053 h1054 => db [7, 1, 8] ((l949.t l1034).t l1043) rfl <| da rfl <| se [2, 3, 0, 1, 4, 5, 6, 7, 8] rfl <| bs hk fun y1055 e1056 hk => ca rfl Ok36 (num_Out_Raw_does h1047 (h1054.rde) e1056) rfl rfl <| ?_
     rintro _ M1057 _ l1058 ⟨a1059, n1060, c1061, e1063, rfl, h1062, rfl⟩
     exact db [7, 3, 8] (((l949.t l1034).t l1043).t l1058) rfl <| dd <| seX [1, 7, 3, 8, 0] rfl <| asx (J826 _ _ _ ⟨y1055.b, _, _, _, _, (((l949.t l1034).t l1043).t l1058), h1062, hk, rfl, rfl⟩) rfl
   · refine da rfl <| ?_
     refine li eStr [x0.Title] rfl Sl118 El9 rfl rfl ⟨rfl, rfl⟩ fun b1064 h1065 => db [3, 4, 5] lr rfl <| ?_
     refine Opd.two ?_ ?_
     · refine da rfl <| bl <| se [3, 0, 2, 1, 4, 5, 6] rfl <| bs hk fun y1066 e1067 hk => ca rfl Ok34 (num_Out_Num_does (OSl.nil _ _ _) (h945.rde) e1067) rfl rfl <| ?_
       rintro _ M1068 _ l1069 ⟨a1070, n1071, c1072, e1074, rfl, h1073, rfl⟩
       refine db [4, 5, 6] l1069 rfl <| ?_
       refine Opd.two ?_ ?_
       · refine da rfl <| se [0, 1, 3, 2, 4, 5, 6] rfl <| bs hk fun y1075 e1076 hk => ca rfl Ok35 (num_Out_Text_does h1073 ((h1065.mono l1069).rde) e1076) rfl rfl <| ?_
         rintro _ M1077 _ l1078 ⟨a1079, n1080, c1081, e1083, rfl, h1082, rfl⟩
         refine db [4, 5, 6] (l1069.t l1078) rfl <| da rfl <| ?_
         refine li (eInt .i64) [x0.Len, x0.Chain] rfl Sl75 El3 rfl rfl ⟨rfl, rfl, rfl⟩ fun b1084 h1085 => db [5, 6, 7] (l1069.t l1078) rfl <| da rfl <| se [1, 2, 0, 3, 4, 5, 6, 7] rfl <| bs hk fun y1086 e1087 hk => ca rfl Ok34 (num_Out_Num_does h1082 (h1085.rde) e1087) rfl rfl <| ?_
         rintro _ M1088 _ l1089 ⟨a1090, n1091, c1092, e1094, rfl, h1093, rfl⟩
         refine db [5, 6, 7] ((l1069.t l1078).t l1089) rfl <| da rfl <| se [6, 0, 1, 2, 3, 4, 5, 7] rfl <| bs hk fun y1095 e1096 hk => caq rfl Ok37 (book_Pack_does ((ph1.mono ((l1069.t l1078).t l1089)).rde) e1096) rfl rfl <| db [6, 0, 7] ((l1069.t l1078).t l1089) rfl <| da rfl <| ?_
         refine li eStr [y1095] rfl Sl118 El9 rfl rfl ⟨rfl, rfl⟩ fun b1099 h1100 => db [7, 1, 8] ((l1069.t l1078).t l1089) rfl <| da rfl <| se [2, 3, 0, 1, 4, 5, 6, 7, 8] rfl <| bs hk fun y1101 e1102 hk => ca rfl Ok36 (num_Out_Raw_does h1093 (h1100.rde) e1102) rfl rfl <| ?_
         rintro _ M1103 _ l1104 ⟨a1105, n1106, c1107, e1109, rfl, h1108, rfl⟩
         exact db [7, 3, 8] (((l1069.t l1078).t l1089).t l1104) rfl <| dd <| seX [1, 7, 3, 8, 0] rfl <| asx (J826 _ _ _ ⟨y1101.b, _, _, _, _, (((l1069.t l1078).t l1089).t l1104), h1108, hk, rfl, rfl⟩) rfl
       refine da rfl <| ?_
       refine li (eInt .i64) [x0.Len, x0.Chain] rfl Sl75 El3 rfl rfl ⟨rfl, rfl, rfl⟩ fun b1110 h1111 => db [5, 6, 7] l1069 rfl <| da rfl <| se [1, 2, 4, 0, 3, 5, 6, 7] rfl <| bs hk fun y1112 e1113 hk => ca rfl Ok35 (num_Out_Text_does h1073 ((h1065.mono l1069).rde) e1113) rfl rfl <| ?_
       rintro _ M1114 _ l1115 ⟨a1116, n1117, c1118, e1120, rfl, h1119, rfl⟩
       refine db [5, 6, 7] (l1069.t l1115) rfl <| da rfl <| se [0, 1, 3, 2, 4, 5, 6, 7] rfl <| bs hk fun y1121 e1122 hk => ca rfl Ok34 (num_Out_Num_does h1119 ((h1111.mono l1115).rde) e1122) rfl rfl <| ?_
       rintro _ M1123 _ l1124 ⟨a1125, n1126, c1127, e1129, rfl, h1128, rfl⟩
       refine db [5, 6, 7] ((l1069.t l1115).t l1124) rfl <| da rfl <| se [6, 0, 1, 2, 3, 4, 5, 7] rfl <| bs hk fun y1130 e1131 hk => caq rfl Ok37 (book_Pack_does ((ph1.mono ((l1069.t l1115).t l1124)).rde) e1131) rfl rfl <| db [6, 0, 7] ((l1069.t l1115).t l1124) rfl <| da rfl <| ?_
       refine li eStr [y1130] rfl Sl118 El9 rfl rfl ⟨rfl, rfl⟩ fun b1134 h1135 => db [7, 1, 8] ((l1069.t l1115).t l1124) rfl <| da rfl <| se [2, 3, 0, 1, 4, 5, 6, 7, 8] rfl <| bs hk fun y1136 e1137 hk => ca rfl Ok36 (num_Out_Raw_does h1128 (h1135.rde) e1137) rfl rfl <| ?_
       rintro _ M1138 _ l1139 ⟨a1140, n1141, c1142, e1144, rfl, h1143, rfl⟩
       exact db [7, 3, 8] (((l1069.t l1115).t l1124).t l1139) rfl <| dd <| seX [1, 7, 3, 8, 0] rfl <| asx (J826 _ _ _ ⟨y1136.b, _, _, _, _, (((l1069.t l1115).t l1124).t l1139), h1143, hk, rfl, rfl⟩) rfl
     refine da rfl <| ?_
     refine li (eInt .i64) [x0.Len, x0.Chain] rfl Sl75 El3 rfl rfl ⟨rfl, rfl, rfl⟩ fun b1145 h1146 => db [4, 5, 6] lr rfl <| da rfl <| bl <| se [4, 0, 3, 1, 2, 5, 6, 7] rfl <| bs hk fun y1147 e1148 hk => ca rfl Ok34 (num_Out_Num_does (OSl.nil _ _ _) (h945.rde) e1148) rfl rfl <| ?_
     rintro _ M1149 _ l1150 ⟨a1151, n1152, c1153, e1155, rfl, h1154, rfl⟩
     refine db [5, 6, 7] l1150 rfl <| da rfl <| se [0, 1, 4, 2, 3, 5, 6, 7] rfl <| bs hk fun y1156 e1157 hk => ca rfl Ok35 (num_Out_Text_does h1154 ((h1065.mono l1150).rde) e1157) rfl rfl <| ?_
     rintro _ M1158 _ l1159 ⟨a1160, n1161, c1162, e1164, rfl, h1163, rfl⟩
     refine db [5, 6, 7] (l1150.t l1159) rfl <| da rfl <| se [0, 1, 4, 2, 3, 5, 6, 7] rfl <| bs hk fun y1165 e1166 hk => ca rfl Ok34 (num_Out_Num_does h1163 ((h1146.mono (l1150.t l1159)).rde) e1166) rfl rfl <| ?_
     rintro _ M1167 _ l1168 ⟨a1169, n1170, c1171, e1173, rfl, h1172, rfl⟩
     refine db [5, 6, 7] ((l1150.t l1159).t l1168) rfl <| da rfl <| se [6, 0, 1, 2, 3, 4, 5, 7] rfl <| bs hk fun y1174 e1175 hk => caq rfl Ok37 (book_Pack_does ((ph1.mono ((l1150.t l1159).t l1168)).rde) e1175) rfl rfl <| db [6, 0, 7] ((l1150.t l1159).t l1168) rfl <| da rfl <| ?_
     refine li eStr [y1174] rfl Sl118 El9 rfl rfl ⟨rfl, rfl⟩ fun b1178 h1179 => db [7, 1, 8] ((l1150.t l1159).t l1168) rfl <| da rfl <| se [2, 3, 0, 1, 4, 5, 6, 7, 8] rfl <| bs hk fun y1180 e1181 hk => ca rfl Ok36 (num_Out_Raw_does h1172 (h1179.rde) e1181) rfl rfl <| ?_
     rintro _ M1182 _ l1183 ⟨a1184, n1185, c1186, e1188, rfl, h1187, rfl⟩
     exact db [7, 3, 8] (((l1150.t l1159).t l1168).t l1183) rfl <| dd <| seX [1, 7, 3, 8, 0] rfl <| asx (J826 _ _ _ ⟨y1180.b, _, _, _, _, (((l1150.t l1159).t l1168).t l1183), h1187, hk, rfl, rfl⟩) rfl
   refine da rfl <| ?_
   refine li (eInt .i64) [x0.Len, x0.Chain] rfl Sl75 El3 rfl rfl ⟨rfl, rfl, rfl⟩ fun b1189 h1190 => db [3, 4, 5] lr rfl <| ?_
   refine Opd.two ?_ ?_
   · refine da rfl <| bl <| se [3, 0, 2, 1, 4, 5, 6] rfl <| bs hk fun y1191 e1192 hk => ca rfl Ok34 (num_Out_Num_does (OSl.nil _ _ _) (h945.rde) e1192) rfl rfl <| ?_
     rintro _ M1193 _ l1194 ⟨a1195, n1196, c1197, e1199, rfl, h1198, rfl⟩
     refine db [4, 5, 6] l1194 rfl <| da rfl <| ?_
     refine li eStr [x0.Title] rfl Sl118 El9 rfl rfl ⟨rfl, rfl⟩ fun b1200 h1201 => db [5, 6, 7] l1194 rfl <| da rfl <| se [1, 2, 0, 3, 4, 5, 6, 7] rfl <| bs hk fun y1202 e1203 hk => ca rfl Ok35 (num_Out_Text_does h1198 (h1201.rde) e1203) rfl rfl <| ?_
     rintro _ M1204 _ l1205 ⟨a1206, n1207, c1208, e1210, rfl, h1209, rfl⟩
     refine db [5, 6, 7] (l1194.t l1205) rfl <| da rfl <| se [0, 1, 4, 2, 3, 5, 6, 7] rfl <| bs hk fun y1211 e1212 hk => ca rfl Ok34 (num_Out_Num_does h1209 ((h1190.mono (l1194.t l1205)).rde) e1212) rfl rfl <| ?_
     rintro _ M1213 _ l1214 ⟨a1215, n1216, c1217, e1219, rfl, h1218, rfl⟩
     refine db [5, 6, 7] ((l1194.t l1205).t l1214) rfl <| da rfl <| se [6, 0, 1, 2, 3, 4, 5, 7] rfl <| bs hk fun y1220 e1221 hk => caq rfl Ok37 (book_Pack_does ((ph1.mono ((l1194.t l1205).t l1214)).rde) e1221) rfl rfl <| db [6, 0, 7] ((l1194.t l1205).t l1214) rfl <| da rfl <| ?_
     refine li eStr [y1220] rfl Sl118 El9 rfl rfl ⟨rfl, rfl⟩ fun b1224 h1225 => db [7, 1, 8] ((l1194.t l1205).t l1214) rfl <| da rfl <| se [2, 3, 0, 1, 4, 5, 6, 7, 8] rfl <| bs hk fun y1226 e1227 hk => ca rfl Ok36 (num_Out_Raw_does h1218 (h1225.rde) e1227) rfl rfl <| ?_
     rintro _ M1228 _ l1229 ⟨a1230, n1231, c1232, e1234, rfl, h1233, rfl⟩
     exact db [7, 3, 8] (((l1194.t l1205).t l1214).t l1229) rfl <| dd <| seX [1, 7, 3, 8, 0] rfl <| asx (J826 _ _ _ ⟨y1226.b, _, _, _, _, (((l1194.t l1205).t l1214).t l1229), h1233, hk, rfl, rfl⟩) rfl
   refine da rfl <| ?_
   refine li eStr [x0.Title] rfl Sl118 El9 rfl rfl ⟨rfl, rfl⟩ fun b1235 h1236 => db [4, 5, 6] lr rfl <| da rfl <| bl <| se [4, 0, 3, 1, 2, 5, 6, 7] rfl <| bs hk fun y1237 e1238 hk => ca rfl Ok34 (num_Out_Num_does (OSl.nil _ _ _) (h945.rde) e1238) rfl rfl <| ?_
   rintro _ M1239 _ l1240 ⟨a1241, n1242, c1243, e1245, rfl, h1244, rfl⟩
   refine db [5, 6, 7] l1240 rfl <| da rfl <| se [0, 1, 3, 2, 4, 5, 6, 7] rfl <| bs hk fun y1246 e1247 hk => ca rfl Ok35 (num_Out_Text_does h1244 ((h1236.mono l1240).rde) e1247) rfl rfl <| ?_
   rintro _ M1248 _ l1249 ⟨a1250, n1251, c1252, e1254, rfl, h1253, rfl⟩
   refine db [5, 6, 7] (l1240.t l1249) rfl <| da rfl <| se [0, 1, 4, 2, 3, 5, 6, 7] rfl <| bs hk fun y1255 e1256 hk => ca rfl Ok34 (num_Out_Num_does h1253 ((h1190.mono (l1240.t l1249)).rde) e1256) rfl rfl <| ?_
   rintro _ M1257 _ l1258 ⟨a1259, n1260, c1261, e1263, rfl, h1262, rfl⟩
   refine db [5, 6, 7] ((l1240.t l1249).t l1258) rfl <| da rfl <| se [6, 0, 1, 2, 3, 4, 5, 7] rfl <| bs hk fun y1264 e1265 hk => caq rfl Ok37 (book_Pack_does ((ph1.mono ((l1240.t l1249).t l1258)).rde) e1265) rfl rfl <| db [6, 0, 7] ((l1240.t l1249).t l1258) rfl <| da rfl <| ?_
   refine li eStr [y1264] rfl Sl118 El9 rfl rfl ⟨rfl, rfl⟩ fun b1268 h1269 => db [7, 1, 8] ((l1240.t l1249).t l1258) rfl <| da rfl <| se [2, 3, 0, 1, 4, 5, 6, 7, 8] rfl <| bs hk fun y1270 e1271 hk => ca rfl Ok36 (num_Out_Raw_does h1262 (h1269.rde) e1271) rfl rfl <| ?_
   rintro _ M1272 _ l1273 ⟨a1274, n1275, c1276, e1278, rfl, h1277, rfl⟩
   exact db [7, 3, 8] (((l1240.t l1249).t l1258).t l1273) rfl <| dd <| seX [1, 7, 3, 8, 0] rfl <| asx (J826 _ _ _ ⟨y1270.b, _, _, _, _, (((l1240.t l1249).t l1258).t l1273), h1277, hk, rfl, rfl⟩) rfl
 · refine da rfl <| ?_
   refine li eStr [x0.Title] rfl Sl118 El9 rfl rfl ⟨rfl, rfl⟩ fun b1279 h1280 => db [2, 3, 4] lr rfl <| ?_
   refine Opd.two ?_ ?_
   · refine da rfl <| ?_
     refine li (eInt .i64) [x0.K, x0.W, x0.H, x0.X, x0.Y] rfl Sl75 El3 rfl rfl ⟨rfl, rfl, rfl, rfl, rfl, rfl⟩ fun b1281 h1282 => db [3, 4, 5] lr rfl <| ?_
     refine Opd.two ?_ ?_
     · refine da rfl <| bl <| se [3, 0, 1, 2, 4, 5, 6] rfl <| bs hk fun y1283 e1284 hk => ca rfl Ok34 (num_Out_Num_does (OSl.nil _ _ _) (h1282.rde) e1284) rfl rfl <| ?_
       rintro _ M1285 _ l1286 ⟨a1287, n1288, c1289, e1291, rfl, h1290, rfl⟩
       refine db [4, 5, 6] l1286 rfl <| ?_
       refine Opd.two ?_ ?_
       · refine da rfl <| se [0, 1, 3, 2, 4, 5, 6] rfl <| bs hk fun y1292 e1293 hk => ca rfl Ok35 (num_Out_Text_does h1290 ((h1280.mono l1286).rde) e1293) rfl rfl <| ?_
         rintro _ M1294 _ l1295 ⟨a1296, n1297, c1298, e1300, rfl, h1299, rfl⟩
         refine db [4, 5, 6] (l1286.t l1295) rfl <| da rfl <| ?_
         refine li (eInt .i64) [x0.Len, x0.Chain] rfl Sl75 El3 rfl rfl ⟨rfl, rfl, rfl⟩ fun b1301 h1302 => db [5, 6, 7] (l1286.t l1295) rfl <| da rfl <| se [1, 2, 0, 3, 4, 5, 6, 7] rfl <| bs hk fun y1303 e1304 hk => ca rfl Ok34 (num_Out_Num_does h1299 (h1302.rde) e1304) rfl rfl <| ?_
         rintro _ M1305 _ l1306 ⟨a1307, n1308, c1309, e1311, rfl, h1310, rfl⟩
         refine db [5, 6, 7] ((l1286.t l1295).t l1306) rfl <| da rfl <| se [6, 0, 1, 2, 3, 4, 5, 7] rfl <| bs hk fun y1312 e1313 hk => caq rfl Ok37 (book_Pack_does ((ph1.mono ((l1286.t l1295).t l1306)).rde) e1313) rfl rfl <| db [6, 0, 7] ((l1286.t l1295).t l1306) rfl <| da rfl <| ?_
         refine li eStr [y1312] rfl Sl118 El9 rfl rfl ⟨rfl, rfl⟩ fun b1316 h1317 => db [7, 1, 8] ((l1286.t l1295).t l1306) rfl <| da rfl <| se [2, 3, 0, 1, 4, 5, 6, 7, 8] rfl <| bs hk fun y1318 e1319 hk => ca rfl Ok36 (num_Out_Raw_does h1310 (h1317.rde) e1319) rfl rfl <| ?_
         rintro _ M1320 _ l1321 ⟨a1322, n1323, c1324, e1326, rfl, h1325, rfl⟩
         exact db [7, 3, 8] (((l1286.t l1295).t l1306).t l1321) rfl <| dd <| seX [1, 7, 3, 8, 0] rfl <| asx (J826 _ _ _ ⟨y1318.b, _, _, _, _, (((l1286.t l1295).t l1306).t l1321), h1325, hk, rfl, rfl⟩) rfl
       refine da rfl <| ?_
       refine li (eInt .i64) [x0.Len, x0.Chain] rfl Sl75 El3 rfl rfl ⟨rfl, rfl, rfl⟩ fun b1327 h1328 => db [5, 6, 7] l1286 rfl <| da rfl <| se [1, 2, 4, 0, 3, 5, 6, 7] rfl <| bs hk fun y1329 e1330 hk => ca rfl Ok35 (num_Out_Text_does h1290 ((h1280.mono l1286).rde) e1330) rfl rfl <| ?_
       rintro _ M1331 _ l1332 ⟨a1333, n1334, c1335, e1337, rfl, h1336, rfl⟩
       refine db [5, 6, 7] (l1286.t l1332) rfl <| da rfl <| se [0, 1, 3, 2, 4, 5, 6, 7] rfl <| bs hk fun y1338 e1339 hk => ca rfl Ok34 (num_Out_Num_does h1336 ((h1328.mono l1332).rde) e1339) rfl rfl <| ?_
       rintro _ M1340 _ l1341 ⟨a1342, n1343, c1344, e1346, rfl, h1345, rfl⟩
       refine db [5, 6, 7] ((l1286.t l1332).t l1341) rfl <| da rfl <| se [6, 0, 1, 2, 3, 4, 5, 7] rfl <| bs hk fun y1347 e1348 hk => caq rfl Ok37 (book_Pack_does ((ph1.mono ((l1286.t l1332).t l1341)).rde) e1348) rfl rfl <| db [6, 0, 7] ((l1286.t l1332).t l1341) rfl <| da rfl <| ?_
       refine li eStr [y1347] rfl Sl118 El9 rfl rfl ⟨rfl, rfl⟩ fun b1351 h1352 => db [7, 1, 8] ((l1286.t l1332).t l1341) rfl <| da rfl <| se [2, 3, 0, 1, 4, 5, 6, 7, 8] rfl <| bs hk fun y1353 e1354 hk => ca rfl Ok36 (num_Out_Raw_does h1345 (h1352.rde) e1354) rfl rfl <| ?_
       rintro _ M1355 _ l1356 ⟨a1357, n1358, c1359, e1361, rfl, h1360, rfl⟩
       exact db [7, 3, 8] (((l1286.t l1332).t l1341).t l1356) rfl <| dd <| seX [1, 7, 3, 8, 0] rfl <| asx (J826 _ _ _ ⟨y1353.b, _, _, _, _, (((l1286.t l1332).t l1341).t l1356), h1360, hk, rfl, rfl⟩) rfl
     refine da rfl <| ?_
     refine li (eInt .i64) [x0.Len, x0.Chain] rfl Sl75 El3 rfl rfl ⟨rfl, rfl, rfl⟩ fun b1362 h1363 => db [4, 5, 6] lr rfl <| da rfl <| bl <| se [4, 0, 2, 1, 3, 5, 6, 7] rfl <| bs hk fun y1364 e1365 hk => ca rfl Ok34 (num_Out_Num_does (OSl.nil _ _ _) (h1282.rde) e1365) rfl rfl <| ?_
     rintro _ M1366 _ l1367 ⟨a1368, n1369, c1370, e1372, rfl, h1371, rfl⟩
     refine db [5, 6, 7] l1367 rfl <| da rfl <| se [0, 1, 4, 2, 3, 5, 6, 7] rfl <| bs hk fun y1373 e1374 hk => ca rfl Ok35 (num_Out_Text_does h1371 ((h1280.mono l1367).rde) e1374) rfl rfl <| ?_
     rintro _ M1375 _ l1376 ⟨a1377, n1378, c1379, e1381, rfl, h1380, rfl⟩
     refine db [5, 6, 7] (l1367.t l1376) rfl <| da rfl <| se [0, 1, 4, 2, 3, 5, 6, 7] rfl <| bs hk fun y1382 e1383 hk => ca rfl Ok34 (num_Out_Num_does h1380 ((h1363.mono (l1367.t l1376)).rde) e1383) rfl rfl <| ?_
     rintro _ M1384 _ l1385 ⟨a1386, n1387, c1388, e1390, rfl, h1389, rfl⟩
     refine db [5, 6, 7] ((l1367.t l1376).t l1385) rfl <| da rfl <| se [6, 0, 1, 2, 3, 4, 5, 7] rfl <| bs hk fun y1391 e1392 hk => caq rfl Ok37 (book_Pack_does ((ph1.mono ((l1367.t l1376).t l1385)).rde) e1392) rfl rfl <| db [6, 0, 7] ((l1367.t l1376).t l1385) rfl <| da rfl <| ?_
     refine li eStr [y1391] rfl Sl118 El9 rfl rfl ⟨rfl, rfl⟩ fun b1395 h1396 => db [7, 1, 8] ((l1367.t l1376).t l1385) rfl <| da rfl <| se [2, 3, 0, 1, 4, 5, 6, 7, 8] rfl <| bs hk fun y1397 e1398 hk => ca rfl Ok36 (num_Out_Raw_does h1389 (h1396.rde) e1398) rfl rfl <| ?_
     rintro _ M1399 _ l1400 ⟨a1401, n1402, c1403, e1405, rfl, h1404, rfl⟩
     exact db [7, 3, 8] (((l1367.t l1376).t l1385).t l1400) rfl <| dd <| seX [1, 7, 3, 8, 0] rfl <| asx (J826 _ _ _ ⟨y1397.b, _, _, _, _, (((l1367.t l1376).t l1385).t l1400), h1404, hk, rfl, rfl⟩) rfl
   refine da rfl <| ?_
   refine li (eInt .i64) [x0.Len, x0.Chain] rfl Sl75 El3 rfl rfl ⟨rfl, rfl, rfl⟩ fun b1406 h1407 => db [3, 4, 5] lr rfl <| da rfl <| ?_
   refine li (eInt .i64) [x0.K, x0.W, x0.H, x0.X, x0.Y] rfl Sl75 El3 rfl rfl ⟨rfl, rfl, rfl, rfl, rfl, rfl⟩ fun b1408 h1409 => db [4, 5, 6] lr rfl <| da rfl <| bl <| se [4, 0, 1, 2, 3, 5, 6, 7] rfl <| bs hk fun y1410 e1411 hk => ca rfl Ok34 (num_Out_Num_does (OSl.nil _ _ _) (h1409.rde) e1411) rfl rfl <| ?_
   rintro _ M1412 _ l1413 ⟨a1414, n1415, c1416, e1418, rfl, h1417, rfl⟩
   refine db [5, 6, 7] l1413 rfl <| da rfl <| se [0, 1, 4, 2, 3, 5, 6, 7] rfl <| bs hk fun y1419 e1420 hk => ca rfl Ok35 (num_Out_Text_does h1417 ((h1280.mono l1413).rde) e1420) rfl rfl <| ?_
   rintro _ M1421 _ l1422 ⟨a1423, n1424, c1425, e1427, rfl, h1426, rfl⟩
   refine db [5, 6, 7] (l1413.t l1422) rfl <| da rfl <| se [0, 1, 4, 2, 3, 5, 6, 7] rfl <| bs hk fun y1428 e1429 hk => ca rfl Ok34 (num_Out_Num_does h1426 ((h1407.mono (l1413.t l1422)).rde) e1429) rfl rfl <| ?_
   rintro _ M1430 _ l1431 ⟨a1432, n1433, c1434, e1436, rfl, h1435, rfl⟩
   refine db [5, 6, 7] ((l1413.t l1422).t l1431) rfl <| da rfl <| se [6, 0, 1, 2, 3, 4, 5, 7] rfl <| bs hk fun y1437 e1438 hk => caq rfl Ok37 (book_Pack_does ((ph1.mono ((l1413.t l1422).t l1431)).rde) e1438) rfl rfl <| db [6, 0, 7] ((l1413.t l1422).t l1431) rfl <| da rfl <| ?_
   refine li eStr [y1437] rfl Sl118 El9 rfl rfl ⟨rfl, rfl⟩ fun b1441 h1442 => db [7, 1, 8] ((l1413.t l1422).t l1431) rfl <| da rfl <| se [2, 3, 0, 1, 4, 5, 6, 7, 8] rfl <| bs hk fun y1443 e1444 hk => ca rfl Ok36 (num_Out_Raw_does h1435 (h1442.rde) e1444) rfl rfl <| ?_
   rintro _ M1445 _ l1446 ⟨a1447, n1448, c1449, e1451, rfl, h1450, rfl⟩
   exact db [7, 3, 8] (((l1413.t l1422).t l1431).t l1446) rfl <| dd <| seX [1, 7, 3, 8, 0] rfl <| asx (J826 _ _ _ ⟨y1443.b, _, _, _, _, (((l1413.t l1422).t l1431).t l1446), h1450, hk, rfl, rfl⟩) rfl
 refine da rfl <| ?_
 refine li (eInt .i64) [x0.Len, x0.Chain] rfl Sl75 El3 rfl rfl ⟨rfl, rfl, rfl⟩ fun b1452 h1453 => db [2, 3, 4] lr rfl <| ?_
 refine Opd.two ?_ ?_
 · refine da rfl <| ?_
   refine li (eInt .i64) [x0.K, x0.W, x0.H, x0.X, x0.Y] rfl Sl75 El3 rfl rfl ⟨rfl, rfl, rfl, rfl, rfl, rfl⟩ fun b1454 h1455 => db [3, 4, 5] lr rfl <| ?_
   refine Opd.two ?_ ?_
   · refine da rfl <| bl <| se [3, 0, 1, 2, 4, 5, 6] rfl <| bs hk fun y1456 e1457 hk => ca rfl Ok34 (num_Out_Num_does (OSl.nil _ _ _) (h1455.rde) e1457) rfl rfl <| ?_
     rintro _ M1458 _ l1459 ⟨a1460, n1461, c1462, e1464, rfl, h1463, rfl⟩
     refine db [4, 5, 6] l1459 rfl <| da rfl <| ?_
     refine li eStr [x0.Title] rfl Sl118 El9 rfl rfl ⟨rfl, rfl⟩ fun b1465 h1466 => db [5, 6, 7] l1459 rfl <| da rfl <| se [1, 2, 0, 3, 4, 5, 6, 7] rfl <| bs hk fun y1467 e1468 hk => ca rfl Ok35 (num_Out_Text_does h1463 (h1466.rde) e1468) rfl rfl <| ?_
     rintro _ M1469 _ l1470 ⟨a1471, n1472, c1473, e1475, rfl, h1474, rfl⟩
     refine db [5, 6, 7] (l1459.t l1470) rfl <| da rfl <| se [0, 1, 4, 2, 3, 5, 6, 7] rfl <| bs hk fun y1476 e1477 hk => ca rfl Ok34 (num_Out_Num_does h1474 ((h1453.mono (l1459.t l1470)).rde) e1477) rfl rfl <| ?_
     rintro _ M1478 _ l1479 ⟨a1480, n1481, c1482, e1484, rfl, h1483, rfl⟩
     refine db [5, 6, 7] ((l1459.t l1470).t l1479) rfl <| da rfl <| se [6, 0, 1, 2, 3, 4, 5, 7] rfl <| bs hk fun y1485 e1486 hk => caq rfl Ok37 (book_Pack_does ((ph1.mono ((l1459.t l1470).t l1479)).rde) e1486) rfl rfl <| db [6, 0, 7] ((l1459.t l1470).t l1479) rfl <| da rfl <| ?_
     refine li eStr [y1485] rfl Sl118 El9 rfl rfl ⟨rfl, rfl⟩ fun b1489 h1490 => db [7, 1, 8] ((l1459.t l1470).t l1479) rfl <| da rfl <| se [2, 3, 0, 1, 4, 5, 6, 7, 8] rfl <| bs hk fun y1491 e1492 hk => ca rfl Ok36 (num_Out_Raw_does h1483 (h1490.rde) e1492) rfl rfl <| ?_
     rintro _ M1493 _ l1494 ⟨a1495, n1496, c1497, e1499, rfl, h1498, rfl⟩
     exact db [7, 3, 8] (((l1459.t l1470).t l1479).t l1494) rfl <| dd <| seX [1, 7, 3, 8, 0] rfl <| asx (J826 _ _ _ ⟨y1491.b, _, _, _, _, (((l1459.t l1470).t l1479).t l1494), h1498, hk, rfl, rfl⟩) rfl
   refine da rfl <| ?_
   refine li eStr [x0.Title] rfl Sl118 El9 rfl rfl ⟨rfl, rfl⟩ fun b1500 h1501 => db [4, 5, 6] lr rfl <| da rfl <| bl <| se [4, 0, 2, 1, 3, 5, 6, 7] rfl <| bs hk fun y1502 e1503 hk => ca rfl Ok34 (num_Out_Num_does (OSl.nil _ _ _) (h1455.rde) e1503) rfl rfl <| ?_
   rintro _ M1504 _ l1505 ⟨a1506, n1507, c1508, e1510, rfl, h1509, rfl⟩
   refine db [5, 6, 7] l1505 rfl <| da rfl <| se [0, 1, 3, 2, 4, 5, 6, 7] rfl <| bs hk fun y1511 e1512 hk => ca rfl Ok35 (num_Out_Text_does h1509 ((h1501.mono l1505).rde) e1512) rfl rfl <| ?_
   rintro _ M1513 _ l1514 ⟨a1515, n1516, c1517, e1519, rfl, h1518, rfl⟩
   refine db [5, 6, 7] (l1505.t l1514) rfl <| da rfl <| se [0, 1, 4, 2, 3, 5, 6, 7] rfl <| bs hk fun y1520 e1521 hk => ca rfl Ok34 (num_Out_Num_does h1518 ((h1453.mono (l1505.t l1514)).rde) e1521) rfl rfl <| ?_
   rintro _ M1522 _ l1523 ⟨a1524, n1525, c1526, e1528, rfl, h1527, rfl⟩
   refine db [5, 6, 7] ((l1505.t l1514).t l1523) rfl <| da rfl <| se [6, 0, 1, 2, 3, 4, 5, 7] rfl <| bs hk fun y1529 e1530 hk => caq rfl Ok37 (book_Pack_does ((ph1.mono ((l1505.t l1514).t l1523)).rde) e1530) rfl rfl <| db [6, 0, 7] ((l1505.t l1514).t l1523) rfl <| da rfl <| ?_
   refine li eStr [y1529] rfl Sl118 El9 rfl rfl ⟨rfl, rfl⟩ fun b1533 h1534 => db [7, 1, 8] ((l1505.t l1514).t l1523) rfl <| da rfl <| se [2, 3, 0, 1, 4, 5, 6, 7, 8] rfl <| bs hk fun y1535 e1536 hk => ca rfl Ok36 (num_Out_Raw_does h1527 (h1534.rde) e1536) rfl rfl <| ?_
   rintro _ M1537 _ l1538 ⟨a1539, n1540, c1541, e1543, rfl, h1542, rfl⟩
   exact db [7, 3, 8] (((l1505.t l1514).t l1523).t l1538) rfl <| dd <| seX [1, 7, 3, 8, 0] rfl <| asx (J826 _ _ _ ⟨y1535.b, _, _, _, _, (((l1505.t l1514).t l1523).t l1538), h1542, hk, rfl, rfl⟩) rfl
 refine da rfl <| ?_
 refine li eStr [x0.Title] rfl Sl118 El9 rfl rfl ⟨rfl, rfl⟩ fun b1544 h1545 => db [3, 4, 5] lr rfl <| da rfl <| ?_
 refine li (eInt .i64) [x0.K, x0.W, x0.H, x0.X, x0.Y] rfl Sl75 El3 rfl rfl ⟨rfl, rfl, rfl, rfl, rfl, rfl⟩ fun b1546 h1547 => db [4, 5, 6] lr rfl <| da rfl <| bl <| se [4, 0, 1, 2, 3, 5, 6, 7] rfl <| bs hk fun y1548 e1549 hk => ca rfl Ok34 (num_Out_Num_does (OSl.nil _ _ _) (h1547.rde) e1549) rfl rfl <| ?_
 rintro _ M1550 _ l1551 ⟨a1552, n1553, c1554, e1556, rfl, h1555, rfl⟩
 refine db [5, 6, 7] l1551 rfl <| da rfl <| se [0, 1, 3, 2, 4, 5, 6, 7] rfl <| bs hk fun y1557 e1558 hk => ca rfl Ok35 (num_Out_Text_does h1555 ((h1545.mono l1551).rde) e1558) rfl rfl <| ?_
 rintro _ M1559 _ l1560 ⟨a1561, n1562, c1563, e1565, rfl, h1564, rfl⟩
 refine db [5, 6, 7] (l1551.t l1560) rfl <| da rfl <| se [0, 1, 4, 2, 3, 5, 6, 7] rfl <| bs hk fun y1566 e1567 hk => ca rfl Ok34 (num_Out_Num_does h1564 ((h1453.mono (l1551.t l1560)).rde) e1567) rfl rfl <| ?_
 rintro _ M1568 _ l1569 ⟨a1570, n1571, c1572, e1574, rfl, h1573, rfl⟩
 refine db [5, 6, 7] ((l1551.t l1560).t l1569) rfl <| da rfl <| se [6, 0, 1, 2, 3, 4, 5, 7] rfl <| bs hk fun y1575 e1576 hk => caq rfl Ok37 (book_Pack_does ((ph1.mono ((l1551.t l1560).t l1569)).rde) e1576) rfl rfl <| db [6, 0, 7] ((l1551.t l1560).t l1569) rfl <| da rfl <| ?_
 refine li eStr [y1575] rfl Sl118 El9 rfl rfl ⟨rfl, rfl⟩ fun b1579 h1580 => db [7, 1, 8] ((l1551.t l1560).t l1569) rfl <| da rfl <| se [2, 3, 0, 1, 4, 5, 6, 7, 8] rfl <| bs hk fun y1581 e1582 hk => ca rfl Ok36 (num_Out_Raw_does h1573 (h1580.rde) e1582) rfl rfl <| ?_
 rintro _ M1583 _ l1584 ⟨a1585, n1586, c1587, e1589, rfl, h1588, rfl⟩
 exact db [7, 3, 8] (((l1551.t l1560).t l1569).t l1584) rfl <| dd <| seX [1, 7, 3, 8, 0] rfl <| asx (J826 _ _ _ ⟨y1581.b, _, _, _, _, (((l1551.t l1560).t l1569).t l1584), h1588, hk, rfl, rfl⟩) rfl
theorem Ok12 : CallOk Try.prog 12 := ⟨_, Try.func12, by kernel_rfl, by kernel_rfl⟩
theorem Bld123 : Bld Try.prog 123 (.agg #[(.string ⟨#[]⟩), (.int .i64 0)]) [(0, 1), (1, 1)] := ⟨_, Try.underlying123, by kernel_rfl, by kernel_rfl⟩
/-! 40 tidewrack/num.Of -/
def num_Of (x0 : ByteArray) : Option (num_In) :=
  some (⟨x0, 0⟩ : num_In)
set_option maxRecDepth 20000 in
set_option maxHeartbeats 4000000 in
theorem num_Of_does {M : Mem} {x0 : ByteArray}  {r : num_In}  (hk : num_Of x0 = some r) :
    Does Try.prog 40 [.string x0].toArray M [] (fun v M' H' => ∃ b101, v = .pointer (some ⟨b101, 0, none⟩) ∧ H' = [some (b101, .cells #[.string r.s, .int .i64 r.e] 123 (0, 0))]) := by
 refine Does.of Try.func40 rfl rfl fun w0 => sq <| rg <| pn 1 rfl <| nx <| sq <| rg <| pn 1 rfl <| va rfl (bd (cells := [.string x0, .int .i64 0]) Bld123 rfl) <| ?_
 refine bx rfl rfl fun b102 => pn 1 rfl <| nx <| rt <| ?_
 obtain rfl := si hk
 exact oR 1 rfl rfl ⟨_, rfl, rfl⟩
theorem Ok40 : CallOk Try.prog 40 := ⟨_, Try.func40, by kernel_rfl, by kernel_rfl⟩
theorem Fld123_0 : Fld Try.prog 123 0 0 0 := ⟨_, _, Try.underlying123, rfl, rfl, by kernel_rfl⟩
theorem Fld123_1 : Fld Try.prog 123 1 1 0 := ⟨_, _, Try.underlying123, rfl, rfl, by kernel_rfl⟩
theorem One50 : One Try.prog 50 := ⟨_, Try.underlying50, rfl⟩
theorem Sz9 : Sz Try.prog 9 1 := ⟨by kernel_rfl⟩
theorem Sz50 : Sz Try.prog 50 1 := ⟨by kernel_rfl⟩
/-! 66 (*tidewrack/num.In).Fail -/
def num_In_Fail (x0 : num_In) (x1 : Int) : Option (num_In) :=
  (bif ((x0.e == 0) && (x1 != 0)) then some (⟨(⟨#[]⟩ : ByteArray), x1⟩ : num_In) else some x0)
set_option maxRecDepth 20000 in
set_option maxHeartbeats 4000000 in
theorem num_In_Fail_does {M : Mem} {x0 : num_In} {x1 : Int} {pb0 : Nat} {r : num_In}  (hk : num_In_Fail x0 x1 = some r) :
    Does Try.prog 66 [.pointer (some ⟨pb0, 0, none⟩), .int .i64 x1].toArray M [some (pb0, .cells #[.string x0.s, .int .i64 x0.e] 123 (0, 0))] (fun v M' H' => v = .tuple #[] ∧ H' = [some (pb0, .cells #[.string r.s, .int .i64 r.e] 123 (0, 0))]) := by
 refine Does.of Try.func66 rfl rfl fun w0 => sq <| rg <| pn 2 rfl <| va rfl (fd Fld123_1 rfl (bi 0 rfl rfl)) <| va rfl (ld One50 rfl (Pt.part 1 1 (bi 0 rfl rfl) rfl)) <| pn 2 rfl <| jA 12 3 rfl (x1 != 0) (fun J105 e104 => ?_) ?_
 · rcases cs e104 with ⟨e106, e104⟩ | ⟨e106, e104⟩
   · exact kt 9 e106 rfl <| pn 3 rfl <| ji 4 J105 rfl rfl rfl e104
   exact kf 9 e106 rfl <| pn 3 rfl <| ji 4 J105 rfl rfl rfl e104
 refine nx <| ?_
 rcases cs hk with ⟨e107, hk⟩ | ⟨e107, hk⟩
 · refine cy rfl e107 <| rg <| pn 4 rfl <| va rfl (fd Fld123_0 rfl (bi 0 rfl rfl)) <| sr 0 rfl Sz9 rfl rfl rfl rfl rfl <| pn 1 rfl <| va rfl (fd Fld123_1 rfl (bi 0 rfl rfl)) <| sr 0 rfl Sz50 rfl rfl rfl rfl rfl <| on <| ?_
   obtain rfl := si hk
   exact oN 1 rfl rfl ⟨rfl, rfl⟩
 refine cn rfl e107 <| sk <| ?_
 obtain rfl := si hk
 exact oN 1 rfl rfl ⟨rfl, rfl⟩
theorem Ok66 : CallOk Try.prog 66 := ⟨_, Try.func66, by kernel_rfl, by kernel_rfl⟩
/-! 41 (*tidewrack/num.In).Num -/
def num_In_Num_j2  (p209 : ByteArray) (p210 : Int) : Option (Int × num_In) :=
  (num_In_Fail (⟨p209, p210⟩ : num_In) 2).bind fun y214 => some (0, y214)
def num_In_Num_l1 (x0 : num_In) : Nat → Int → Int → Option (Int × num_In)
  | 0, p190, p189 =>
  (bif (decide ((x0.s.size : Int) ≥ 9)) then (num_In_Fail x0 1).bind fun y219 => num_In_Num_j2 y219.s y219.e else num_In_Num_j2 x0.s x0.e)
  | k200 + 1, p190, p189 =>
  (sidx x0.s p190).bind fun y223 => (need (decide (0 ≤ (w64 (7 * p190))))).bind fun y225 => (bif (decide (y223 ≥ 128)) then (num_In_Num_l1 x0 k200 (p190 + 1) (bor .i64 p189 (gshl .i64 (w64 (band .u8 y223 127)) (w64 (7 * p190))))) else (bif (((decide (p190 > 0)) && (y223 == 0)) || (decide ((bor .i64 p189 (gshl .i64 (w64 (band .u8 y223 127)) (w64 (7 * p190)))) > 4611686018427387904))) then (num_In_Fail x0 1).bind fun y258 => some (0, y258) else (scut x0.s (w64 (p190 + 1)) (x0.s.size : Int)).bind fun y262 => some ((bor .i64 p189 (gshl .i64 (w64 (band .u8 y223 127)) (w64 (7 * p190)))), (⟨y262, x0.e⟩ : num_In))))
def num_In_Num (x0 : num_In) : Option (Int × num_In) :=
  (need (decide ((gmin (x0.s.size : Int) 9) ≤ 4294967296))).bind fun y201 => num_In_Num_l1 x0 (gmin (x0.s.size : Int) 9).toNat 0 0
set_option maxRecDepth 20000 in
set_option maxHeartbeats 4000000 in
theorem num_In_Num_does {M : Mem} {x0 : num_In} {pb0 : Nat} {r : Int × num_In}  (hk : num_In_Num x0 = some r) :
    Does Try.prog 41 [.pointer (some ⟨pb0, 0, none⟩)].toArray M [some (pb0, .cells #[.string x0.s, .int .i64 x0.e] 123 (0, 0))] (fun v M' H' => v = .int .i64 r.1 ∧ H' = [some (pb0, .cells #[.string r.2.s, .int .i64 r.2.e] 123 (0, 0))]) := by
 refine Does.of Try.func41 rfl rfl fun w0 => sq <| rg <| pn 1 rfl <| nx <| sq <| rg <| pn 1 rfl <| nx <| ?_
 refine sq <| sq <| rg <| pn 2 rfl <| va rfl (fd Fld123_0 rfl (bi 0 rfl rfl)) <| va rfl (ld One9 rfl (Pt.part 0 1 (bi 0 rfl rfl) rfl)) <| va rfl (sln Try.underlying9 rfl) <| va rfl (mi rfl rfl) <| pn 1 rfl <| ?_
 refine nx <| bk <| bs hk fun y201 e202 hk => Cd.loop <| ?_
 refine ls (l' := [(0, .pointer (some ⟨pb0, 0, none⟩)), (2, .int .i64 0), (3, .int .i64 0), (11, .int .i64 (gmin (x0.s.size : Int) 9)), (12, .int .i64 0)]) rfl <| ?_
 refine Lp.nat (n := (gmin (x0.s.size : Int) 9)) (of_decide_eq_true (need_some e202)) (fun ys_ p190 M191 H' l' => ∃ p189, Mem.le M M191 ∧ num_In_Num_l1 x0 ys_ p190 p189 = some r ∧ l' = [(0, .pointer (some ⟨pb0, 0, none⟩)), (2, .int .i64 0), (3, .int .i64 p189), (11, .int .i64 (gmin (x0.s.size : Int) 9)), (12, .int .i64 p190)] ∧ H' = [some (pb0, .cells #[.string x0.s, .int .i64 x0.e] 123 (0, 0))]) ?_ ?_ _ _ _ ⟨0, lr, hk, rfl, rfl⟩
 · rintro p190 e195 M191 H' l' ⟨p189, hle192, hk, rfl, rfl⟩
   refine sq <| rg <| pn 1 rfl <| nx <| sq <| cn rfl e195 <| ex <| te <| te <| ?_
   refine xe <| xn <| ?_
   refine Cd.join (fun M211 H' l' => ∃ p209 p210, Mem.le M191 M211 ∧ num_In_Num_j2 p209 p210 = some r ∧ l' = [(0, .pointer (some ⟨pb0, 0, none⟩)), (2, .int .i64 0)] ∧ H' = [some (pb0, .cells #[.string p209, .int .i64 p210] 123 (0, 0))]) ?_ ?_
   · rintro M211 H' l' ⟨p209, p210, hle212, hk, rfl, rfl⟩
     refine sq <| rg <| pn 1 rfl <| bs hk fun y214 e215 hk => ca rfl Ok66 (num_In_Fail_does e215) rfl rfl <| ?_
     rintro _ M216 _ l217 ⟨rfl, rfl⟩
     refine nx <| sq <| rg <| pn 1 rfl <| nx <| rt <| ?_
     obtain rfl := si hk
     exact oR 1 rfl rfl ⟨rfl, rfl⟩
   intro J213
   refine sq <| rg <| pn 2 rfl <| va rfl (fd Fld123_0 rfl (bi 0 rfl rfl)) <| va rfl (ld One9 rfl (Pt.part 0 1 (bi 0 rfl rfl) rfl)) <| va rfl (sln Try.underlying9 rfl) <| pn 1 rfl <| nx <| ?_
   rcases cs hk with ⟨e218, hk⟩ | ⟨e218, hk⟩
   · refine cy rfl e218 <| rg <| pn 1 rfl <| bs hk fun y219 e220 hk => ca rfl Ok66 (num_In_Fail_does e220) rfl rfl <| ?_
     rintro _ M221 _ l222 ⟨rfl, rfl⟩
     exact on <| asx (J213 _ _ _ ⟨y219.s, y219.e, l222, hk, rfl, rfl⟩) rfl
   exact cn rfl e218 <| sk <| asx (J213 _ _ _ ⟨x0.s, x0.e, lr, hk, rfl, rfl⟩) rfl
 rintro k200 p190 e195 i196 j197 w194 ih193 M191 H' l' ⟨p189, hle192, hk, rfl, rfl⟩
 refine sq <| rg <| pn 1 rfl <| nx <| sq <| cy rfl e195 <| sk <| xn <| sq <| ?_
 refine bk <| sq <| rg <| pn 2 rfl <| nx <| sq <| rg <| pn 2 rfl <| va rfl (fd Fld123_0 rfl (bi 0 rfl rfl)) <| ?_
 refine va rfl (ld One9 rfl (Pt.part 0 1 (bi 0 rfl rfl) rfl)) <| pn 1 rfl <| bs hk fun y223 e224 hk => va rfl (run_sidx' rfl Try.underlying9 rfl rfl e224) <| pn 1 rfl <| nx <| sq <| rg <| pn 3 rfl <| ?_
 refine va rfl (cv rfl Try.underlying3 Try.underlying5) <| pn 2 rfl <| bs hk fun y225 e226 hk => va rfl (run_shl rfl rfl rfl (of_decide_eq_true (need_some e226))) <| pn 2 rfl <| nx <| sq <| sq <| rg <| ?_
 refine pn 2 rfl <| nx <| ?_
 rcases cs hk with ⟨e227, hk⟩ | ⟨e227, hk⟩
 · refine cy rfl e227 <| ex <| te <| xe <| xn <| rg <| pn 2 rfl <| on <| sx 12 w194 rfl <| ?_
   exact asx (ih193 _ _ _ ⟨(bor .i64 p189 (gshl .i64 (w64 (band .u8 y223 127)) (w64 (7 * p190)))), hle192, hk, rfl, rfl⟩) rfl
 refine cn rfl e227 <| sk <| xn <| sq <| sq <| rg <| pn 3 rfl <| jA 36 3 rfl (y223 == 0) (fun J252 e251 => ?_) ?_
 · rcases cs e251 with ⟨e253, e251⟩ | ⟨e253, e251⟩
   · exact kt 33 e253 rfl <| pn 3 rfl <| ji 4 J252 rfl rfl rfl e251
   exact kf 33 e253 rfl <| pn 3 rfl <| ji 4 J252 rfl rfl rfl e251
 refine pn 1 rfl <| jO 40 3 rfl (decide ((bor .i64 p189 (gshl .i64 (w64 (band .u8 y223 127)) (w64 (7 * p190)))) > 4611686018427387904)) (fun J255 e254 => ?_) ?_
 · rcases cs e254 with ⟨e256, e254⟩ | ⟨e256, e254⟩
   · exact kt 37 e256 rfl <| pn 3 rfl <| ji 4 J255 rfl rfl rfl e254
   exact kf 37 e256 rfl <| pn 3 rfl <| ji 4 J255 rfl rfl rfl e254
 refine nx <| ?_
 rcases cs hk with ⟨e257, hk⟩ | ⟨e257, hk⟩
 · refine cy rfl e257 <| sq <| rg <| pn 1 rfl <| bs hk fun y258 e259 hk => ca rfl Ok66 (num_In_Fail_does e259) rfl rfl <| ?_
   rintro _ M260 _ l261 ⟨rfl, rfl⟩
   refine nx <| sq <| rg <| pn 1 rfl <| nx <| rt <| tr <| xr <| tr <| ?_
   refine tr <| xr <| tr <| ?_
   obtain rfl := si hk
   exact oR 1 rfl rfl ⟨rfl, rfl⟩
 refine cn rfl e257 <| sk <| xn <| sq <| rg <| pn 3 rfl <| va rfl (fd Fld123_0 rfl (bi 0 rfl rfl)) <| va rfl (ld One9 rfl (Pt.part 0 1 (bi 0 rfl rfl) rfl)) <| pn 2 rfl <| ?_
 refine bs hk fun y262 e263 hk => va rfl (sc Try.underlying9 rfl ⟨_, rfl⟩ rfl e263) <| pn 1 rfl <| va rfl (fd Fld123_0 rfl (bi 0 rfl rfl)) <| sr 0 rfl Sz9 rfl rfl rfl rfl rfl <| nx <| sq <| rg <| pn 2 rfl <| ?_
 refine nx <| rt <| xr <| tr <| tr <| xr <| tr <| ?_
 obtain rfl := si hk
 exact oR 1 rfl rfl ⟨rfl, rfl⟩
theorem Ok41 : CallOk Try.prog 41 := ⟨_, Try.func41, by kernel_rfl, by kernel_rfl⟩
/-! 42 tidewrack/snap.size -/
def snap_size (x0 : num_In) : Option (Int × num_In) :=
  (num_In_Num x0).bind fun y101 => (bif (decide (y101.1 > 1000)) then (num_In_Fail y101.2 1).bind fun y106 => some (0, y106) else some (y101.1, y101.2))
set_option maxRecDepth 20000 in
set_option maxHeartbeats 4000000 in
theorem snap_size_does {M : Mem} {x0 : num_In} {pb0 : Nat} {r : Int × num_In}  (hk : snap_size x0 = some r) :
    Does Try.prog 42 [.pointer (some ⟨pb0, 0, none⟩)].toArray M [some (pb0, .cells #[.string x0.s, .int .i64 x0.e] 123 (0, 0))] (fun v M' H' => v = .int .i64 r.1 ∧ H' = [some (pb0, .cells #[.string r.2.s, .int .i64 r.2.e] 123 (0, 0))]) := by
 refine Does.of Try.func42 rfl rfl fun w0 => sq <| rg <| pn 1 rfl <| nx <| sq <| rg <| pn 1 rfl <| bs hk fun y101 e102 hk => ?_
 refine ca rfl Ok41 (num_In_Num_does e102) rfl rfl <| ?_
 rintro _ M103 _ l104 ⟨rfl, rfl⟩
 refine pn 1 rfl <| nx <| sq <| sq <| rg <| pn 2 rfl <| nx <| ?_
 rcases cs hk with ⟨e105, hk⟩ | ⟨e105, hk⟩
 · refine cy rfl e105 <| sq <| rg <| pn 1 rfl <| bs hk fun y106 e107 hk => ca rfl Ok66 (num_In_Fail_does e107) rfl rfl <| ?_
   rintro _ M108 _ l109 ⟨rfl, rfl⟩
   refine nx <| sq <| rg <| pn 1 rfl <| nx <| rt <| tr <| ?_
   obtain rfl := si hk
   exact oR 1 rfl rfl ⟨rfl, rfl⟩
 refine cn rfl e105 <| sk <| xn <| sq <| rg <| pn 2 rfl <| nx <| rt <| ?_
 obtain rfl := si hk
 exact oR 1 rfl rfl ⟨rfl, rfl⟩
theorem Ok42 : CallOk Try.prog 42 := ⟨_, Try.func42, by kernel_rfl, by kernel_rfl⟩
/-! 67 (*tidewrack/num.In).Raw -/
def num_In_Raw (x0 : num_In) (x1 : Int) : Option (ByteArray × num_In) :=
  (bif (decide ((gmax 0 x1) > (x0.s.size : Int))) then (num_In_Fail x0 2).bind fun y102 => some ((⟨#[]⟩ : ByteArray), y102) else (scut x0.s 0 (gmax 0 x1)).bind fun y106 => (scut x0.s (gmax 0 x1) (x0.s.size : Int)).bind fun y108 => some (y106, (⟨y108, x0.e⟩ : num_In)))
set_option maxRecDepth 20000 in
set_option maxHeartbeats 4000000 in
theorem num_In_Raw_does {M : Mem} {x0 : num_In} {x1 : Int} {pb0 : Nat} {r : ByteArray × num_In}  (hk : num_In_Raw x0 x1 = some r) :
    Does Try.prog 67 [.pointer (some ⟨pb0, 0, none⟩), .int .i64 x1].toArray M [some (pb0, .cells #[.string x0.s, .int .i64 x0.e] 123 (0, 0))] (fun v M' H' => v = .string r.1 ∧ H' = [some (pb0, .cells #[.string r.2.s, .int .i64 r.2.e] 123 (0, 0))]) := by
 refine Does.of Try.func67 rfl rfl fun w0 => sq <| rg <| pn 1 rfl <| nx <| sq <| rg <| pn 1 rfl <| va rfl (ma rfl rfl) <| ?_
 refine pn 1 rfl <| nx <| sq <| sq <| rg <| pn 3 rfl <| va rfl (fd Fld123_0 rfl (bi 0 rfl rfl)) <| va rfl (ld One9 rfl (Pt.part 0 1 (bi 0 rfl rfl) rfl)) <| va rfl (sln Try.underlying9 rfl) <| ?_
 refine pn 1 rfl <| nx <| ?_
 rcases cs hk with ⟨e101, hk⟩ | ⟨e101, hk⟩
 · refine cy rfl e101 <| sq <| rg <| pn 1 rfl <| bs hk fun y102 e103 hk => ca rfl Ok66 (num_In_Fail_does e103) rfl rfl <| ?_
   rintro _ M104 _ l105 ⟨rfl, rfl⟩
   refine nx <| sq <| rg <| pn 1 rfl <| nx <| rt <| tr <| ?_
   obtain rfl := si hk
   exact oR 1 rfl rfl ⟨rfl, rfl⟩
 refine cn rfl e101 <| sk <| xn <| sq <| rg <| pn 2 rfl <| va rfl (fd Fld123_0 rfl (bi 0 rfl rfl)) <| va rfl (ld One9 rfl (Pt.part 0 1 (bi 0 rfl rfl) rfl)) <| pn 1 rfl <| ?_
 refine bs hk fun y106 e107 hk => va rfl (sc Try.underlying9 rfl rfl ⟨_, rfl⟩ e107) <| pn 1 rfl <| nx <| sq <| rg <| pn 3 rfl <| va rfl (fd Fld123_0 rfl (bi 0 rfl rfl)) <| va rfl (ld One9 rfl (Pt.part 0 1 (bi 0 rfl rfl) rfl)) <| ?_
 refine pn 1 rfl <| bs hk fun y108 e109 hk => va rfl (sc Try.underlying9 rfl ⟨_, rfl⟩ rfl e109) <| pn 1 rfl <| va rfl (fd Fld123_0 rfl (bi 0 rfl rfl)) <| sr 0 rfl Sz9 rfl rfl rfl rfl rfl <| nx <| sq <| rg <| ?_
 refine pn 2 rfl <| nx <| rt <| ?_
 obtain rfl := si hk
 exact oR 1 rfl rfl ⟨rfl, rfl⟩
theorem Ok67 : CallOk Try.prog 67 := ⟨_, Try.func67, by kernel_rfl, by kernel_rfl⟩
/-! 43 (*tidewrack/num.In).Text -/
def num_In_Text (x0 : num_In) : Option (ByteArray × num_In) :=
  (num_In_Num x0).bind fun y101 => (num_In_Raw y101.2 y101.1).bind fun y105 => some (y105.1, y105.2)
set_option maxRecDepth 20000 in
set_option maxHeartbeats 4000000 in
theorem num_In_Text_does {M : Mem} {x0 : num_In} {pb0 : Nat} {r : ByteArray × num_In}  (hk : num_In_Text x0 = some r) :
    Does Try.prog 43 [.pointer (some ⟨pb0, 0, none⟩)].toArray M [some (pb0, .cells #[.string x0.s, .int .i64 x0.e] 123 (0, 0))] (fun v M' H' => v = .string r.1 ∧ H' = [some (pb0, .cells #[.string r.2.s, .int .i64 r.2.e] 123 (0, 0))]) := by
 refine Does.of Try.func43 rfl rfl fun w0 => sq <| rg <| pn 1 rfl <| nx <| sq <| rg <| pn 2 rfl <| bs hk fun y101 e102 hk => ?_
 refine ca rfl Ok41 (num_In_Num_does e102) rfl rfl <| ?_
 rintro _ M103 _ l104 ⟨rfl, rfl⟩
 refine bs hk fun y105 e106 hk => ca rfl Ok67 (num_In_Raw_does e106) rfl rfl <| ?_
 rintro _ M107 _ l108 ⟨rfl, rfl⟩
 refine pn 1 rfl <| nx <| rt <| ?_
 obtain rfl := si hk
 exact oR 1 rfl rfl ⟨rfl, rfl⟩
theorem Ok43 : CallOk Try.prog 43 := ⟨_, Try.func43, by kernel_rfl, by kernel_rfl⟩
/-! 68 tidewrack/book.limited -/
def book_limited (x0 : num_In) (x1 : Int) : Option (Int × num_In) :=
  (num_In_Num x0).bind fun y101 => (bif (decide (y101.1 > x1)) then (num_In_Fail y101.2 1).bind fun y106 => some (0, y106) else some (y101.1, y101.2))
set_option maxRecDepth 20000 in
set_option maxHeartbeats 4000000 in
theorem book_limited_does {M : Mem} {x0 : num_In} {x1 : Int} {pb0 : Nat} {r : Int × num_In}  (hk : book_limited x0 x1 = some r) :
    Does Try.prog 68 [.pointer (some ⟨pb0, 0, none⟩), .int .i64 x1].toArray M [some (pb0, .cells #[.string x0.s, .int .i64 x0.e] 123 (0, 0))] (fun v M' H' => v = .int .i64 r.1 ∧ H' = [some (pb0, .cells #[.string r.2.s, .int .i64 r.2.e] 123 (0, 0))]) := by
 refine Does.of Try.func68 rfl rfl fun w0 => sq <| rg <| pn 1 rfl <| nx <| sq <| rg <| pn 1 rfl <| bs hk fun y101 e102 hk => ?_
 refine ca rfl Ok41 (num_In_Num_does e102) rfl rfl <| ?_
 rintro _ M103 _ l104 ⟨rfl, rfl⟩
 refine pn 1 rfl <| nx <| sq <| sq <| rg <| pn 3 rfl <| nx <| ?_
 rcases cs hk with ⟨e105, hk⟩ | ⟨e105, hk⟩
 · refine cy rfl e105 <| sq <| rg <| pn 1 rfl <| bs hk fun y106 e107 hk => ca rfl Ok66 (num_In_Fail_does e107) rfl rfl <| ?_
   rintro _ M108 _ l109 ⟨rfl, rfl⟩
   refine nx <| sq <| rg <| pn 1 rfl <| nx <| rt <| tr <| ?_
   obtain rfl := si hk
   exact oR 1 rfl rfl ⟨rfl, rfl⟩
 refine cn rfl e105 <| sk <| xn <| sq <| rg <| pn 2 rfl <| nx <| rt <| ?_
 obtain rfl := si hk
 exact oR 1 rfl rfl ⟨rfl, rfl⟩
theorem Ok68 : CallOk Try.prog 68 := ⟨_, Try.func68, by kernel_rfl, by kernel_rfl⟩
theorem Bld41 : Bld Try.prog 41 (.agg #[(.int .i32 0), (.int .i64 0)]) [(0, 1), (1, 1)] := ⟨_, Try.underlying41, by kernel_rfl, by kernel_rfl⟩
/-! 45 (*tidewrack/num.In).Err -/
def num_In_Err (x0 : num_In) : Int :=
  x0.e
set_option maxRecDepth 20000 in
set_option maxHeartbeats 4000000 in
theorem num_In_Err_does {M : Mem} {x0 : num_In} {pb0 : Nat} {r : Int}  (hk : some (num_In_Err x0) = some r) :
    Does Try.prog 45 [.pointer (some ⟨pb0, 0, none⟩)].toArray M [some (pb0, .cells #[.string x0.s, .int .i64 x0.e] 123 (0, 0))] (fun v M' H' => v = .int .i64 r ∧ H' = [some (pb0, .cells #[.string x0.s, .int .i64 x0.e] 123 (0, 0))]) := by
 refine Does.of Try.func45 rfl rfl fun w0 => sq <| rg <| pn 1 rfl <| nx <| sq <| rg <| pn 2 rfl <| va rfl (fd Fld123_1 rfl (bi 0 rfl rfl)) <| ?_
 refine va rfl (ld One50 rfl (Pt.part 1 1 (bi 0 rfl rfl) rfl)) <| pn 1 rfl <| nx <| rt <| ?_
 obtain rfl := si hk
 exact oR 1 rfl rfl ⟨rfl, rfl⟩
theorem Ok45 : CallOk Try.prog 45 := ⟨_, Try.func45, by kernel_rfl, by kernel_rfl⟩
/-! 44 tidewrack/book.Read -/
def book_Read_l1  : Nat → ByteArray → Int → (List Glyph) → Option (List Glyph × num_In)
  | 0, p157, p158, p159 =>
  (bif ((num_In_Err (⟨p157, p158⟩ : num_In)) != 0) then some (([] : List Glyph), (⟨p157, p158⟩ : num_In)) else some (p159, (⟨p157, p158⟩ : num_In)))
  | k175 + 1, p157, p158, p159 =>
  (book_limited (⟨p157, p158⟩ : num_In) 1114111).bind fun y182 => (book_limited y182.2 647).bind fun y186 => (cap (p159.length + ([(⟨(IntKind.i32.wrap y182.1), y186.1⟩ : Glyph)] : List Glyph).length)).bind fun y192 => (book_Read_l1 k175 y186.2.s y186.2.e (p159 ++ ([(⟨(IntKind.i32.wrap y182.1), y186.1⟩ : Glyph)] : List Glyph)))
def book_Read (x0 : num_In) : Option (List Glyph × num_In) :=
  (book_limited x0 1024).bind fun y106 => (need (decide (y106.1 ≤ 4294967296))).bind fun y176 => book_Read_l1 y106.1.toNat y106.2.s y106.2.e ([] : List Glyph)
set_option maxRecDepth 20000 in
set_option maxHeartbeats 4000000 in
theorem book_Read_does {M : Mem} {x0 : num_In} {pb0 : Nat} {r : List Glyph × num_In}  (hk : book_Read x0 = some r) :
    Does Try.prog 44 [.pointer (some ⟨pb0, 0, none⟩)].toArray M [some (pb0, .cells #[.string x0.s, .int .i64 x0.e] 123 (0, 0))] (fun v M' H' => ∃ a101 n102 c103 e105, v = .slice a101 n102 c103 ∧ OSl M' E41 r.1 a101 n102 c103 41 e105 ∧ H' = [some (pb0, .cells #[.string r.2.s, .int .i64 r.2.e] 123 (0, 0)), e105]) := by
 refine Does.of Try.func44 rfl rfl fun w0 => sq <| rg <| pn 1 rfl <| nx <| sq <| rg <| pn 1 rfl <| nx <| ?_
 refine sq <| sq <| rg <| pn 1 rfl <| bs hk fun y106 e107 hk => ca rfl Ok68 (book_limited_does e107) rfl rfl <| ?_
 rintro _ M108 _ l109 ⟨rfl, rfl⟩
 refine pn 1 rfl <| nx <| bk <| bs hk fun y176 e177 hk => Cd.loop <| ?_
 refine blL <| ls (l' := [(0, .pointer (some ⟨pb0, 0, none⟩)), (2, .slice none 0 0), (3, .slice none 0 0), (5, .int .i64 y106.1), (6, .int .i64 0)]) rfl <| ?_
 refine Lp.nat (n := y106.1) (of_decide_eq_true (need_some e177)) (fun ys_ p165 M166 H' l' => ∃ p157 p158 p159 a160 n163 c161 e164, Mem.le M108 M166 ∧ OSl M166 E41 p159 a160 n163 c161 41 e164 ∧ book_Read_l1 ys_ p157 p158 p159 = some r ∧ l' = [(0, .pointer (some ⟨pb0, 0, none⟩)), (2, .slice none 0 0), (3, .slice a160 n163 c161), (5, .int .i64 y106.1), (6, .int .i64 p165)] ∧ H' = [e164, some (pb0, .cells #[.string p157, .int .i64 p158] 123 (0, 0))]) ?_ ?_ _ _ _ ⟨y106.2.s, y106.2.e, ([] : List Glyph), _, _, _, _, lr, (OSl.nil _ _ _), hk, rfl, rfl⟩
 · rintro p165 e170 M166 H' l' ⟨p157, p158, p159, a160, n163, c161, e164, hle167, h162, hk, rfl, rfl⟩
   refine sq <| rg <| pn 1 rfl <| nx <| sq <| cn rfl e170 <| ex <| te <| te <| ?_
   refine xe <| xn <| sq <| sq <| rg <| pn 1 rfl <| se [1, 0] rfl <| caq rfl Ok45 (num_In_Err_does (tt (num_In_Err (⟨p157, p158⟩ : num_In)))) rfl rfl <| pn 1 rfl <| ?_
   refine nx <| ?_
   rcases cs hk with ⟨e181, hk⟩ | ⟨e181, hk⟩
   · refine cy rfl e181 <| sq <| rg <| pn 1 rfl <| nx <| rt <| tr <| ?_
     obtain rfl := si hk
     exact blX <| seX [1, 0] rfl <| oR 2 rfl rfl ⟨_, _, _, _, rfl, (OSl.nil _ _ _), rfl⟩
   refine cn rfl e181 <| sk <| xn <| sq <| rg <| pn 2 rfl <| nx <| rt <| ?_
   obtain rfl := si hk
   exact oR 2 rfl rfl ⟨_, _, _, _, rfl, h162, rfl⟩
 rintro k175 p165 e170 i171 j172 w169 ih168 M166 H' l' ⟨p157, p158, p159, a160, n163, c161, e164, hle167, h162, hk, rfl, rfl⟩
 refine sq <| rg <| pn 1 rfl <| nx <| sq <| cy rfl e170 <| sk <| xn <| sq <| ?_
 refine bk <| rg <| pn 2 rfl <| se [1, 0] rfl <| bs hk fun y182 e183 hk => ca rfl Ok68 (book_limited_does e183) rfl rfl <| ?_
 rintro _ M184 _ l185 ⟨rfl, rfl⟩
 refine va rfl (cv rfl Try.underlying21 Try.underlying3) <| pn 1 rfl <| bs hk fun y186 e187 hk => ca rfl Ok68 (book_limited_does e187) rfl rfl <| ?_
 rintro _ M188 _ l189 ⟨rfl, rfl⟩
 refine va rfl (bd (cells := [.int .i32 (IntKind.i32.wrap y182.1), .int .i64 y186.1]) Bld41 rfl) <| ?_
 refine li E41 [(⟨(IntKind.i32.wrap y182.1), y186.1⟩ : Glyph)] rfl Sl23 El41 rfl rfl ⟨rfl, rfl⟩ fun b190 h191 => bs hk fun y192 e193 hk => ?_
 have h162 := h162.mono (l185.t l189)
 refine ap (E := E41) 2 rfl Sl23 El41 rfl rfl h162 rfl (RdE.rds h191.rde 0 rfl) e193 rfl (fun _ => rfl) fun a194 n195 c196 e197 h198 => pn 1 rfl <| on <| xb <| xn <| rg <| pn 2 rfl <| on <| sx 6 w169 rfl <| ?_
 refine seX [2, 1] rfl <| ?_
 exact asx (ih168 _ _ _ ⟨y186.2.s, y186.2.e, (p159 ++ ([(⟨(IntKind.i32.wrap y182.1), y186.1⟩ : Glyph)] : List Glyph)), _, _, _, _, ((hle167.t l185).t l189), h198, hk, rfl, rfl⟩) rfl
theorem Ok44 : CallOk Try.prog 44 := ⟨_, Try.func44, by kernel_rfl, by kernel_rfl⟩
theorem Ar141 : Ar Try.prog 141 3 3 1 := ⟨Try.underlying141, by kernel_rfl⟩
theorem Zr141 : Zr Try.prog 141 (.agg #[(.int .i64 0), (.int .i64 0), (.int .i64 0)]) := ⟨by kernel_rfl⟩
theorem Sz141 : Sz Try.prog 141 3 := ⟨by kernel_rfl⟩
/-! 69 tidewrack/snap.run -/
def snap_run_j3 (rec288 : ByteArray → Int → (List Int) → Option (Int × Cell × Bool × num_In)) (p353 : ByteArray) (p354 : Int) (p355 : List Int) (p361 : Int) (p362 : Int) (p363 : Int) (p364 : Bool) : Option (Int × Cell × Bool × num_In) :=
  (rec288 p353 p354 p355)
def snap_run_l2 (y102 : Int × num_In) : Nat → Int → ByteArray → Int → (List Int) → Option (Int × Cell × Bool × num_In)
  | 0, p277, p269, p270, p271 =>
  (bif ((num_In_Err (⟨p269, p270⟩ : num_In)) != 0) then some (0, (⟨0, 0, 0⟩ : Cell), false, (⟨p269, p270⟩ : num_In)) else (idx p271 0).bind fun y311 => (idx p271 1).bind fun y317 => (idx p271 2).bind fun y323 => some (y102.1, (⟨(IntKind.i32.wrap y311), y317, y323⟩ : Cell), true, (⟨p269, p270⟩ : num_In)))
  | k287 + 1, p277, p269, p270, p271 =>
  (idx [1114111, 647, 3] p277).bind fun y368 => (num_In_Num (⟨p269, p270⟩ : num_In)).bind fun y370 => (idx p271 p277).bind fun y375 => (idx (p271.set p277.toNat y370.1) p277).bind fun y383 => (bif (decide (y383 > y368)) then (num_In_Fail y370.2 1).bind fun y389 => snap_run_j3 (snap_run_l2 y102 k287 (p277 + 1)) y389.s y389.e (p271.set p277.toNat y370.1) y368 y370.1 y383 (decide (y383 > y368)) else snap_run_j3 (snap_run_l2 y102 k287 (p277 + 1)) y370.2.s y370.2.e (p271.set p277.toNat y370.1) y368 y370.1 y383 (decide (y383 > y368)))
def snap_run_j1 (y102 : Int × num_In) (p117 : ByteArray) (p118 : Int) : Option (Int × Cell × Bool × num_In) :=
  snap_run_l2 y102 3 0 p117 p118 [0, 0, 0]
def snap_run (x0 : num_In) (x1 : Int) : Option (Int × Cell × Bool × num_In) :=
  (num_In_Num x0).bind fun y102 => (bif ((y102.1 == 0) || (decide (y102.1 > x1))) then (num_In_Fail y102.2 1).bind fun y400 => snap_run_j1 y102 y400.s y400.e else snap_run_j1 y102 y102.2.s y102.2.e)
set_option maxRecDepth 20000 in
set_option maxHeartbeats 4000000 in
theorem snap_run_does {M : Mem} {x0 : num_In} {x1 : Int} {pb0 : Nat} {r : Int × Cell × Bool × num_In}  (hk : snap_run x0 x1 = some r) :
    Does Try.prog 69 [.pointer (some ⟨pb0, 0, none⟩), .int .i64 x1].toArray M [some (pb0, .cells #[.string x0.s, .int .i64 x0.e] 123 (0, 0))] (fun v M' H' => v = .tuple #[.int .i64 r.1, .agg #[.int .i32 r.2.1.Rune, .int .i64 r.2.1.Style, .int .i64 r.2.1.Part], .bool r.2.2.1] ∧ H' = [some (pb0, .cells #[.string r.2.2.2.s, .int .i64 r.2.2.2.e] 123 (0, 0))]) := by
 refine Does.of Try.func69 rfl rfl fun w0 => sq <| rg <| pn 1 rfl <| al rfl Zr39 fun b101 => pn 1 rfl <| nx <| sq <| rg <| ?_
 refine pn 1 rfl <| se [1, 0] rfl <| bs hk fun y102 e103 hk => ca rfl Ok41 (num_In_Num_does e103) rfl rfl <| ?_
 rintro _ M104 _ l105 ⟨rfl, rfl⟩
 refine pn 1 rfl <| nx <| ?_
 refine Cd.join (fun M119 H' l' => ∃ p117 p118, Mem.le M104 M119 ∧ snap_run_j1 y102 p117 p118 = some r ∧ l' = [(0, .pointer (some ⟨pb0, 0, none⟩)), (4, .int .i64 0), (5, .pointer (some ⟨b101, 0, none⟩)), (6, .bool false), (7, .int .i64 y102.1)] ∧ H' = [some (pb0, .cells #[.string p117, .int .i64 p118] 123 (0, 0)), some (b101, .cells #[.int .i32 0, .int .i64 0, .int .i64 0] 39 (0, 0))]) ?_ ?_
 · rintro M119 H' l' ⟨p117, p118, hle120, hk, rfl, rfl⟩
   refine sq <| rg <| va rfl (bdA (cells := [.int .i64 0, .int .i64 0, .int .i64 0]) Ar141 Zr141 rfl) <| al rfl Zr141 fun b122 => ?_
   have h123 : OSl M119 (eInt .i64) [0, 0, 0] (some ⟨b122, 0, none⟩) 3 3 141 (some (b122, .cells #[.int .i64 0, .int .i64 0, .int .i64 0] 141 (0, 0))) := OSl.arr ⟨rfl, rfl, rfl, rfl⟩ rfl
   refine sA (ys := [0, 0, 0]) 0 rfl Sz141 rfl rfl h123 rfl rfl ⟨rfl, rfl, rfl, rfl⟩ rfl (fun _ => rfl) fun e124 h125 => nx <| sq <| sq <| rg <| va rfl (bdA (cells := [.int .i64 1114111, .int .i64 647, .int .i64 3]) Ar141 Zr141 rfl) <| pn 1 rfl <| nx <| bk <| ?_
   refine Cd.loop <| ?_
   refine ls (l' := [(0, .pointer (some ⟨pb0, 0, none⟩)), (4, .int .i64 0), (5, .pointer (some ⟨b101, 0, none⟩)), (6, .bool false), (7, .int .i64 y102.1), (8, .pointer (some ⟨b122, 0, none⟩)), (23, .agg #[.int .i64 1114111, .int .i64 647, .int .i64 3]), (24, .int .i64 0)]) rfl <| ?_
   refine Lp.nat (n := 3) (by decide) (fun ys_ p277 M278 H' l' => ∃ p269 p270 p271 e276, Mem.le M119 M278 ∧ OSl M278 (eInt .i64) p271 (some ⟨b122, 0, none⟩) 3 3 141 e276 ∧ snap_run_l2 y102 ys_ p277 p269 p270 p271 = some r ∧ l' = [(0, .pointer (some ⟨pb0, 0, none⟩)), (4, .int .i64 0), (5, .pointer (some ⟨b101, 0, none⟩)), (6, .bool false), (7, .int .i64 y102.1), (8, .pointer (some ⟨b122, 0, none⟩)), (23, .agg #[.int .i64 1114111, .int .i64 647, .int .i64 3]), (24, .int .i64 p277)] ∧ H' = [e276, some (pb0, .cells #[.string p269, .int .i64 p270] 123 (0, 0)), some (b101, .cells #[.int .i32 0, .int .i64 0, .int .i64 0] 39 (0, 0))]) ?_ ?_ _ _ _ ⟨p117, p118, [0, 0, 0], _, lr, h125, hk, rfl, rfl⟩
   · rintro p277 e282 M278 H' l' ⟨p269, p270, p271, e276, hle279, h274, hk, rfl, rfl⟩
     refine sq <| rg <| pn 1 rfl <| nx <| sq <| cn rfl e282 <| ex <| te <| te <| ?_
     refine xe <| xn <| sq <| sq <| rg <| pn 1 rfl <| se [1, 0, 2] rfl <| caq rfl Ok45 (num_In_Err_does (tt (num_In_Err (⟨p269, p270⟩ : num_In)))) rfl rfl <| pn 1 rfl <| ?_
     refine nx <| ?_
     rcases cs hk with ⟨e291, hk⟩ | ⟨e291, hk⟩
     · refine cy rfl e291 <| sq <| rg <| va rfl (bd (cells := [.int .i32 0, .int .i64 0, .int .i64 0]) Bld39 rfl) <| pn 1 rfl <| sr 2 rfl Sz39 rfl rfl rfl rfl rfl <| pn 1 rfl <| nx <| rt <| ?_
       refine tr <| ?_
       obtain rfl := si hk
       exact seX [0, 2] rfl <| Ex.out 1 rfl (.inl rfl) rfl (rs := [_, _, _]) (vs := [_, _, _]) ⟨rfl, ⟨_, rfl, .inr ⟨Rowy39, _, _, rfl, Sz39, (bi 1 rfl rfl), rfl⟩⟩, rfl, trivial⟩ rfl ⟨rfl, rfl⟩
     refine cn rfl e291 <| sk <| xn <| sq <| ?_
     refine dw [0, 1] rfl (.tk [0, 1, 2, 3, 4, 5, 6, 7, 8, 9] (.one 10 (.tk [11] .nil))) Mixed (by kernel_rfl) <| dn 1 rfl <| bs hk fun y311 e312 hk => ?_
     obtain ⟨i313, j314, h315⟩ := idx_some e312
     obtain ⟨_, rfl, h310⟩ := h274.el h315
     refine dv rfl rfl (ixA Ar141 rfl rfl i313 (lt_of h274.len j314)) <| dv rfl rfl (ld One3 rfl (h310.pt 1 rfl)) <| dv rfl rfl (cv rfl Try.underlying21 Try.underlying3) <| bs hk fun y317 e318 hk => ?_
     obtain ⟨i319, j320, h321⟩ := idx_some e318
     obtain ⟨_, rfl, h316⟩ := h274.el h321
     refine dv rfl rfl (ixA Ar141 rfl rfl i319 (lt_of h274.len j320)) <| dv rfl rfl (ld One3 rfl (h316.pt 1 rfl)) <| bs hk fun y323 e324 hk => ?_
     obtain ⟨i325, j326, h327⟩ := idx_some e324
     obtain ⟨_, rfl, h322⟩ := h274.el h327
     refine dv rfl rfl (ixA Ar141 rfl rfl i325 (lt_of h274.len j326)) <| dv rfl rfl (ld One3 rfl (h322.pt 1 rfl)) <| dv rfl rfl (bd (cells := [.int .i32 (IntKind.i32.wrap y311), .int .i64 y317, .int .i64 y323]) Bld39 rfl) <| dn 1 rfl <| da rfl <| sr 2 rfl Sz39 rfl rfl rfl rfl rfl <| db [0, 1] lr rfl <| dn 1 rfl <| dd <| ?_
     refine xn <| rt <| ?_
     obtain rfl := si hk
     exact seX [0, 2] rfl <| Ex.out 1 rfl (.inl rfl) rfl (rs := [_, _, _]) (vs := [_, _, _]) ⟨rfl, ⟨_, rfl, .inr ⟨Rowy39, _, _, rfl, Sz39, (bi 1 rfl rfl), rfl⟩⟩, rfl, trivial⟩ rfl ⟨rfl, rfl⟩
   rintro k287 p277 e282 i283 j284 w281 ih280 M278 H' l' ⟨p269, p270, p271, e276, hle279, h274, hk, rfl, rfl⟩
   refine sq <| rg <| pn 1 rfl <| nx <| sq <| cy rfl e282 <| sk <| xn <| ?_
   refine Cd.join (fun M365 H' l' => ∃ p353 p354 p355 p361 p362 p363 p364 e360, Mem.le M278 M365 ∧ OSl M365 (eInt .i64) p355 (some ⟨b122, 0, none⟩) 3 3 141 e360 ∧ snap_run_j3 (snap_run_l2 y102 k287 (p277 + 1)) p353 p354 p355 p361 p362 p363 p364 = some r ∧ l' = [(0, .pointer (some ⟨pb0, 0, none⟩)), (4, .int .i64 0), (5, .pointer (some ⟨b101, 0, none⟩)), (6, .bool false), (7, .int .i64 y102.1), (8, .pointer (some ⟨b122, 0, none⟩)), (9, .int .i64 p277), (10, .int .i64 p361), (23, .agg #[.int .i64 1114111, .int .i64 647, .int .i64 3]), (24, .int .i64 p277), (25, .bool (decide (p277 < 3))), (26, .int .i64 p277), (27, .int .i64 p361), (28, .int .i64 p277), (29, .pointer (some ⟨pb0, 0, none⟩)), (30, .int .i64 p362), (32, .int .i64 p277), (34, .int .i64 p363), (35, .int .i64 p361), (36, .bool p364)] ∧ H' = [e360, some (pb0, .cells #[.string p353, .int .i64 p354] 123 (0, 0)), some (b101, .cells #[.int .i32 0, .int .i64 0, .int .i64 0] 39 (0, 0))]) ?_ ?_
   · rintro M365 H' l' ⟨p353, p354, p355, p361, p362, p363, p364, e360, hle366, h358, hk, rfl, rfl⟩
     exact rg <| pn 2 rfl <| on <| sx 24 w281 rfl <| asx (ih280 _ _ _ ⟨p353, p354, p355, _, (hle279.t hle366), h358, hk, rfl, rfl⟩) rfl
   intro J367
   refine bk <| sq <| rg <| pn 1 rfl <| bs hk fun y368 e369 hk => va rfl (iA (xs := [1114111, 647, 3]) Ar141 One3 rfl rfl rfl rfl e369) <| pn 2 rfl <| nx <| sq <| ?_
   refine rg <| pn 2 rfl <| se [1, 0, 2] rfl <| bs hk fun y370 e371 hk => ca rfl Ok41 (num_In_Num_does e371) rfl rfl <| ?_
   rintro _ M372 _ l373 ⟨rfl, rfl⟩
   refine bs hk fun y375 e376 hk => ?_
   obtain ⟨i377, j378, h379⟩ := idx_some e376
   have h274 := h274.mono l373
   obtain ⟨_, rfl, h374⟩ := h274.el h379
   refine va rfl (ixA Ar141 rfl rfl i377 (lt_of h274.len j378)) <| sw1 (i := p277.toNat) (z' := y370.1) 1 rfl Sz3 rfl rfl h274 rfl h379 rfl rfl (fun _ => rfl) fun e380 h381 => nx <| sq <| rg <| pn 1 rfl <| bs hk fun y383 e384 hk => ?_
   obtain ⟨i385, j386, h387⟩ := idx_some e384
   obtain ⟨_, rfl, h382⟩ := h381.el h387
   refine va rfl (ixA Ar141 rfl rfl i385 (lt_of h381.len j386)) <| va rfl (ld One3 rfl (h382.pt 1 rfl)) <| pn 2 rfl <| nx <| ?_
   rcases cs hk with ⟨e388, hk⟩ | ⟨e388, hk⟩
   · refine cy rfl e388 <| rg <| pn 1 rfl <| bs hk fun y389 e390 hk => ca rfl Ok66 (num_In_Fail_does e390) rfl rfl <| ?_
     rintro _ M391 _ l392 ⟨rfl, rfl⟩
     refine on <| xb <| seX [1, 0, 2] rfl <| ?_
     have h381 := h381.mono l392
     exact asx (J367 _ _ _ ⟨y389.s, y389.e, (p271.set p277.toNat y370.1), y368, y370.1, y383, (decide (y383 > y368)), _, (l373.t l392), h381, hk, rfl, rfl⟩) rfl
   exact cn rfl e388 <| sk <| xb <| seX [1, 0, 2] rfl <| asx (J367 _ _ _ ⟨y370.2.s, y370.2.e, (p271.set p277.toNat y370.1), y368, y370.1, y383, (decide (y383 > y368)), _, l373, h381, hk, rfl, rfl⟩) rfl
 intro J121
 refine sq <| rg <| pn 3 rfl <| jO 19 4 rfl (decide (y102.1 > x1)) (fun J397 e396 => ?_) ?_
 · rcases cs e396 with ⟨e398, e396⟩ | ⟨e398, e396⟩
   · exact kt 15 e398 rfl <| pn 4 rfl <| ji 5 J397 rfl rfl rfl e396
   exact kf 15 e398 rfl <| pn 4 rfl <| ji 5 J397 rfl rfl rfl e396
 refine nx <| ?_
 rcases cs hk with ⟨e399, hk⟩ | ⟨e399, hk⟩
 · refine cy rfl e399 <| rg <| pn 1 rfl <| bs hk fun y400 e401 hk => ca rfl Ok66 (num_In_Fail_does e401) rfl rfl <| ?_
   rintro _ M402 _ l403 ⟨rfl, rfl⟩
   exact on <| asx (J121 _ _ _ ⟨y400.s, y400.e, l403, hk, rfl, rfl⟩) rfl
 exact cn rfl e399 <| sk <| asx (J121 _ _ _ ⟨y102.2.s, y102.2.e, lr, hk, rfl, rfl⟩) rfl
theorem Ok69 : CallOk Try.prog 69 := ⟨_, Try.func69, by kernel_rfl, by kernel_rfl⟩
/-! 46 tidewrack/snap.ReadRow -/
def snap_ReadRow_j4 (y307 : Int × Cell × Bool × num_In) (rec279 : ByteArray → Int → (List Cell) → Option (Row × num_In)) (p269 : List Cell) (p320 : Bool) (p321 : Bool) : Option (Row × num_In) :=
  (bif p320 then (num_In_Fail y307.2.2.2 1).bind fun y326 => (rec279 y326.s y326.e p269) else (slices_Repeat_row_Cell ([y307.2.1] : List Cell) y307.1).bind fun y332 => (cap (p269.length + y332.length)).bind fun y341 => (rec279 y307.2.2.2.s y307.2.2.2.e (p269 ++ y332)))
def snap_ReadRow_j3 (p267 : ByteArray) (p268 : Int) (x1 : Int) (p269 : List Cell) (rec279 : ByteArray → Int → (List Cell) → Option (Row × num_In)) (y107 : Int × num_In) (p301 : Bool) (p302 : Bool) : Option (Row × num_In) :=
  (bif p302 then (snap_run (⟨p267, p268⟩ : num_In) (w64 (x1 - (p269.length : Int)))).bind fun y307 => (bif (!y307.2.2.1) then (rec279 y307.2.2.2.s y307.2.2.2.e p269) else (bif (decide ((p269.length : Int) > 0)) then (idx p269 (w64 ((p269.length : Int) - 1))).bind fun y350 => snap_ReadRow_j4 y307 rec279 p269 ((y350.Rune == y307.2.1.Rune) && ((y350.Style == y307.2.1.Style) && ((y350.Part == y307.2.1.Part) && true))) true else snap_ReadRow_j4 y307 rec279 p269 false false)) else (bif ((num_In_Err (⟨p267, p268⟩ : num_In)) != 0) then some ((⟨([] : List Cell), false⟩ : Row), (⟨p267, p268⟩ : num_In)) else some ((⟨p269, (y107.1 == 1)⟩ : Row), (⟨p267, p268⟩ : num_In))))
def snap_ReadRow_l2 (x1 : Int) (y107 : Int × num_In) : Nat → ByteArray → Int → (List Cell) → Option (Row × num_In)
  | 0, _, _, _ => none
  | k + 1, p267, p268, p269 =>
  (bif (decide ((p269.length : Int) < x1)) then snap_ReadRow_j3 p267 p268 x1 p269 (snap_ReadRow_l2 x1 y107 k) y107 true ((num_In_Err (⟨p267, p268⟩ : num_In)) == 0) else snap_ReadRow_j3 p267 p268 x1 p269 (snap_ReadRow_l2 x1 y107 k) y107 false false)
def snap_ReadRow_j1 (x1 : Int) (y107 : Int × num_In) (p116 : ByteArray) (p117 : Int) : Option (Row × num_In) :=
  snap_ReadRow_l2 x1 y107 4294967296 p116 p117 ([] : List Cell)
def snap_ReadRow (x0 : num_In) (x1 : Int) : Option (Row × num_In) :=
  (num_In_Num x0).bind fun y107 => (bif (decide (y107.1 > 1)) then (num_In_Fail y107.2 1).bind fun y364 => snap_ReadRow_j1 x1 y107 y364.s y364.e else snap_ReadRow_j1 x1 y107 y107.2.s y107.2.e)
set_option maxRecDepth 20000 in
set_option maxHeartbeats 4000000 in
theorem snap_ReadRow_does {M : Mem} {x0 : num_In} {x1 : Int} {pb0 : Nat} {r : Row × num_In}  (hk : snap_ReadRow x0 x1 = some r) :
    Does Try.prog 46 [.pointer (some ⟨pb0, 0, none⟩), .int .i64 x1].toArray M [some (pb0, .cells #[.string x0.s, .int .i64 x0.e] 123 (0, 0))] (fun v M' H' => ∃ a101 n102 c103 e105, v = .agg #[.slice a101 n102 c103, .bool r.1.Wrapped] ∧ OSl M' E39 r.1.Cells a101 n102 c103 39 e105 ∧ H' = [some (pb0, .cells #[.string r.2.s, .int .i64 r.2.e] 123 (0, 0)), e105]) := by
 refine Does.of Try.func46 rfl rfl fun w0 => sq <| rg <| al rfl Zr37 fun b106 => nx <| sq <| rg <| pn 1 rfl <| se [1, 0] rfl <| ?_
 refine bs hk fun y107 e108 hk => ca rfl Ok41 (num_In_Num_does e108) rfl rfl <| ?_
 rintro _ M109 _ l110 ⟨rfl, rfl⟩
 refine pn 1 rfl <| nx <| ?_
 refine Cd.join (fun M118 H' l' => ∃ p116 p117, Mem.le M109 M118 ∧ snap_ReadRow_j1 x1 y107 p116 p117 = some r ∧ l' = [(0, .pointer (some ⟨pb0, 0, none⟩)), (1, .int .i64 x1), (4, .pointer (some ⟨b106, 0, none⟩)), (5, .int .i64 y107.1)] ∧ H' = [some (pb0, .cells #[.string p116, .int .i64 p117] 123 (0, 0)), some (b106, .cells #[.slice none 0 0, .bool false] 37 (0, 0))]) ?_ ?_
 · rintro M118 H' l' ⟨p116, p117, hle119, hk, rfl, rfl⟩
   refine sq <| rg <| pn 1 rfl <| nx <| sq <| bk <| Cd.loop <| ?_
   refine blL <| ls (l' := [(0, .pointer (some ⟨pb0, 0, none⟩)), (1, .int .i64 x1), (4, .pointer (some ⟨b106, 0, none⟩)), (5, .int .i64 y107.1), (6, .slice none 0 0)]) rfl <| ?_
   refine Lp.ind (fun k M275 H' l' => ∃ p267 p268 p269 a270 n273 c271 e274, Mem.le M118 M275 ∧ OSl M275 E39 p269 a270 n273 c271 39 e274 ∧ snap_ReadRow_l2 x1 y107 k p267 p268 p269 = some r ∧ l' = [(0, .pointer (some ⟨pb0, 0, none⟩)), (1, .int .i64 x1), (4, .pointer (some ⟨b106, 0, none⟩)), (5, .int .i64 y107.1), (6, .slice a270 n273 c271)] ∧ H' = [e274, some (pb0, .cells #[.string p267, .int .i64 p268] 123 (0, 0)), some (b106, .cells #[.slice none 0 0, .bool false] 37 (0, 0))]) ?_ ?_ 4294967296 _ _ _ ⟨p116, p117, ([] : List Cell), _, _, _, _, lr, (OSl.nil _ _ _), hk, rfl, rfl⟩
   · rintro M275 H' l' ⟨p267, p268, p269, a270, n273, c271, e274, hle276, h272, hk, -, -⟩; cases hk
   rintro k277 ih278 M275 H' l' ⟨p267, p268, p269, a270, n273, c271, e274, hle276, h272, hk, rfl, rfl⟩
   refine sq <| ?_
   refine Cd.join (fun M303 H' l' => ∃ p301 p302, Mem.le M275 M303 ∧ snap_ReadRow_j3 p267 p268 x1 p269 (snap_ReadRow_l2 x1 y107 k277) y107 p301 p302 = some r ∧ l' = [(0, .pointer (some ⟨pb0, 0, none⟩)), (1, .int .i64 x1), (4, .pointer (some ⟨b106, 0, none⟩)), (5, .int .i64 y107.1), (6, .slice a270 n273 c271), (16, .slice a270 n273 c271), (17, .int .i64 (p269.length : Int)), (18, .int .i64 x1), (19, .bool (decide ((p269.length : Int) < x1))), (20, .bool p301), (24, .bool p302)] ∧ H' = [e274, some (pb0, .cells #[.string p267, .int .i64 p268] 123 (0, 0)), some (b106, .cells #[.slice none 0 0, .bool false] 37 (0, 0))]) ?_ ?_
   · rintro M303 H' l' ⟨p301, p302, hle304, hk, rfl, rfl⟩
     rcases cs hk with ⟨e306, hk⟩ | ⟨e306, hk⟩
     · refine cy rfl e306 <| sk <| xn <| bk <| sq <| rg <| pn 3 rfl <| va rfl (lf Try.underlying35 h272.len rfl) <| pn 1 rfl <| ?_
       refine se [1, 0, 2] rfl <| bs hk fun y307 e308 hk => ca rfl Ok69 (snap_run_does e308) rfl rfl <| ?_
       rintro _ M309 _ l310 ⟨rfl, rfl⟩
       refine pn 4 rfl <| al rfl Zr39 fun b311 => pn 1 rfl <| sr 0 rfl Sz39 rfl rfl rfl rfl rfl <| pn 1 rfl <| nx <| bk <| sq <| rg <| ?_
       refine pn 3 rfl <| nx <| ?_
       rcases cs hk with ⟨e312, hk⟩ | ⟨e312, hk⟩
       · refine cy rfl e312 <| sk <| xb <| xb <| seX [2, 1, 3] rfl <| ?_
         have h272 := h272.mono (hle304.t l310)
         exact asx (ih278 _ _ _ ⟨y307.2.2.2.s, y307.2.2.2.e, p269, _, _, _, _, ((hle276.t hle304).t l310), h272, hk, rfl, rfl⟩) rfl
       refine cn rfl e312 <| ?_
       refine Cd.join (fun M322 H' l' => ∃ p320 p321, Mem.le M309 M322 ∧ snap_ReadRow_j4 y307 (snap_ReadRow_l2 x1 y107 k277) p269 p320 p321 = some r ∧ l' = [(0, .pointer (some ⟨pb0, 0, none⟩)), (1, .int .i64 x1), (4, .pointer (some ⟨b106, 0, none⟩)), (5, .int .i64 y107.1), (6, .slice a270 n273 c271), (7, .int .i64 y307.1), (8, .pointer (some ⟨b311, 0, none⟩)), (9, .bool y307.2.2.1), (16, .slice a270 n273 c271), (17, .int .i64 (p269.length : Int)), (18, .int .i64 x1), (19, .bool (decide ((p269.length : Int) < x1))), (20, .bool p301), (24, .bool p302), (25, .tuple #[.int .i64 y307.1, .agg #[.int .i32 y307.2.1.Rune, .int .i64 y307.2.1.Style, .int .i64 y307.2.1.Part], .bool y307.2.2.1]), (26, .pointer (some ⟨pb0, 0, none⟩)), (27, .int .i64 x1), (28, .slice a270 n273 c271), (29, .int .i64 (p269.length : Int)), (30, .int .i64 (w64 (x1 - (p269.length : Int)))), (31, .tuple #[.int .i64 y307.1, .agg #[.int .i32 y307.2.1.Rune, .int .i64 y307.2.1.Style, .int .i64 y307.2.1.Part], .bool y307.2.2.1]), (32, .int .i64 y307.1), (33, .agg #[.int .i32 y307.2.1.Rune, .int .i64 y307.2.1.Style, .int .i64 y307.2.1.Part]), (34, .bool y307.2.2.1), (41, .bool (!y307.2.2.1)), (42, .bool y307.2.2.1), (43, .bool (!y307.2.2.1)), (44, .bool p320), (45, .slice a270 n273 c271), (46, .int .i64 (p269.length : Int)), (47, .bool (decide ((p269.length : Int) > 0))), (48, .bool p321), (57, .bool p320)] ∧ H' = [e274, some (pb0, .cells #[.string y307.2.2.2.s, .int .i64 y307.2.2.2.e] 123 (0, 0)), some (b106, .cells #[.slice none 0 0, .bool false] 37 (0, 0)), some (b311, .cells #[.int .i32 y307.2.1.Rune, .int .i64 y307.2.1.Style, .int .i64 y307.2.1.Part] 39 (0, 0))]) ?_ ?_
       · rintro M322 H' l' ⟨p320, p321, hle323, hk, rfl, rfl⟩
         rcases cs hk with ⟨e325, hk⟩ | ⟨e325, hk⟩
         · refine cy rfl e325 <| rg <| pn 1 rfl <| se [1, 0, 2, 3] rfl <| bs hk fun y326 e327 hk => ca rfl Ok66 (num_In_Fail_does e327) rfl rfl <| ?_
           rintro _ M328 _ l329 ⟨rfl, rfl⟩
           refine on <| xb <| xb <| seX [1, 0, 2] rfl <| ?_
           have h272 := h272.mono (((hle304.t l310).t hle323).t l329)
           exact asx (ih278 _ _ _ ⟨y326.s, y326.e, p269, _, _, _, _, ((((hle276.t hle304).t l310).t hle323).t l329), h272, hk, rfl, rfl⟩) rfl
         refine cn rfl e325 <| rg <| pn 1 rfl <| va rfl (lN Rowy39 Sz39 rfl (bi 3 rfl rfl) rfl) <| ?_
         refine li E39 [y307.2.1] rfl Sl35 El39 rfl rfl ⟨rfl, rfl⟩ fun b330 h331 => pn 1 rfl <| bs hk fun y332 e333 hk => ca rfl Ok70 (slices_Repeat_row_Cell_does (h331.rde) e333) rfl rfl <| ?_
         rintro _ M334 _ l335 ⟨a336, n337, c338, e340, rfl, h339, rfl⟩
         refine bs hk fun y341 e342 hk => ?_
         have h272 := h272.mono (((hle304.t l310).t hle323).t l335)
         refine ap (E := E39) 2 rfl Sl35 El39 rfl rfl h272 rfl (RdE.rds h339.rde 1 rfl) e342 rfl (fun _ => rfl) fun a343 n344 c345 e346 h347 => pn 1 rfl <| on <| xb <| xb <| seX [2, 3, 4] rfl <| ?_
         exact asx (ih278 _ _ _ ⟨y307.2.2.2.s, y307.2.2.2.e, (p269 ++ y332), _, _, _, _, ((((hle276.t hle304).t l310).t hle323).t l335), h347, hk, rfl, rfl⟩) rfl
       intro J324
       refine dw [0, 1, 2, 3] rfl (.tk [0, 1, 2, 3, 4, 5, 6, 7, 8, 9, 10, 11, 12, 13] .nil) Mixed (by kernel_rfl) <| dn 1 rfl <| dv rfl rfl (lf Try.underlying35 h272.len rfl) <| dn 2 rfl <| ?_
       rcases cs hk with ⟨e348, hk⟩ | ⟨e348, hk⟩
       · refine ktd 48 e348 rfl <| dn 2 rfl <| dv rfl rfl (lf Try.underlying35 h272.len rfl) <| dn 1 rfl <| bs hk fun y350 e351 hk => ?_
         obtain ⟨i352, j353, h354⟩ := idx_some e351
         obtain ⟨_, rfl, h349⟩ := (h272.mono (hle304.t l310)).el h354
         refine dv rfl rfl (ix Sl35 rfl rfl i352 (lt_of h272.len j353) h349.ne) <| dv rfl rfl (lN Rowy39 Sz39 rfl (h349.pt 2 rfl) rfl) <| dv rfl rfl (lN Rowy39 Sz39 rfl (bi 0 rfl rfl) rfl) <| dv rfl rfl (run_eqlS rfl rfl rfl Eqt39 rfl) <| dn 2 rfl <| dd <| seX [2, 1, 3, 0] rfl <| ?_
         exact asx (J324 _ _ _ ⟨((y350.Rune == y307.2.1.Rune) && ((y350.Style == y307.2.1.Style) && ((y350.Part == y307.2.1.Part) && true))), true, lr, hk, rfl, rfl⟩) rfl
       exact kfd 48 e348 rfl <| dn 10 rfl <| dd <| seX [2, 1, 3, 0] rfl <| asx (J324 _ _ _ ⟨false, false, lr, hk, rfl, rfl⟩) rfl
     refine cn rfl e306 <| ex <| te <| te <| xe <| xn <| sq <| sq <| rg <| ?_
     refine pn 1 rfl <| se [1, 0, 2] rfl <| caq rfl Ok45 (num_In_Err_does (tt (num_In_Err (⟨p267, p268⟩ : num_In)))) rfl rfl <| pn 1 rfl <| nx <| ?_
     rcases cs hk with ⟨e357, hk⟩ | ⟨e357, hk⟩
     · refine cy rfl e357 <| sq <| rg <| va rfl (bd (cells := [.slice none 0 0, .bool false]) Bld37 rfl) <| sr 2 rfl Sz37 rfl rfl rfl rfl rfl <| nx <| rt <| tr <| ?_
       obtain rfl := si hk
       exact blX <| seX [1, 0, 3] rfl <| Ex.out 2 rfl (.inl rfl) rfl (rs := [_]) (vs := [_]) ⟨⟨_, rfl, .inr ⟨Rowy37, _, _, rfl, Sz37, (bi 2 rfl rfl), rfl⟩⟩, trivial⟩ rfl ⟨_, _, _, _, rfl, (OSl.nil _ _ _), rfl⟩
     refine cn rfl e357 <| sk <| xn <| sq <| rg <| pn 3 rfl <| va rfl (bd (cells := [.slice a270 n273 c271, .bool (y107.1 == 1)]) Bld37 rfl) <| sr 2 rfl Sz37 rfl rfl rfl rfl rfl <| nx <| ?_
     refine rt <| ?_
     obtain rfl := si hk
     have h272 := h272.mono hle304
     exact Ex.out 2 rfl (.inl rfl) rfl (rs := [_]) (vs := [_]) ⟨⟨_, rfl, .inr ⟨Rowy37, _, _, rfl, Sz37, (bi 2 rfl rfl), rfl⟩⟩, trivial⟩ rfl ⟨_, _, _, _, rfl, h272, rfl⟩
   intro J305
   refine rg <| pn 1 rfl <| va rfl (lf Try.underlying35 h272.len rfl) <| pn 3 rfl <| ?_
   rcases cs hk with ⟨e360, hk⟩ | ⟨e360, hk⟩
   · refine kt 20 e360 rfl <| pn 1 rfl <| se [1, 0, 2] rfl <| caq rfl Ok45 (num_In_Err_does (tt (num_In_Err (⟨p267, p268⟩ : num_In)))) rfl rfl <| pn 2 rfl <| on <| seX [1, 0, 2] rfl <| ?_
     exact asx (J305 _ _ _ ⟨true, ((num_In_Err (⟨p267, p268⟩ : num_In)) == 0), lr, hk, rfl, rfl⟩) rfl
   exact kf 20 e360 rfl <| pn 4 rfl <| on <| asx (J305 _ _ _ ⟨false, false, lr, hk, rfl, rfl⟩) rfl
 intro J120
 refine sq <| rg <| pn 2 rfl <| nx <| ?_
 rcases cs hk with ⟨e363, hk⟩ | ⟨e363, hk⟩
 · refine cy rfl e363 <| rg <| pn 1 rfl <| bs hk fun y364 e365 hk => ca rfl Ok66 (num_In_Fail_does e365) rfl rfl <| ?_
   rintro _ M366 _ l367 ⟨rfl, rfl⟩
   exact on <| asx (J120 _ _ _ ⟨y364.s, y364.e, l367, hk, rfl, rfl⟩) rfl
 exact cn rfl e363 <| sk <| asx (J120 _ _ _ ⟨y107.2.s, y107.2.e, lr, hk, rfl, rfl⟩) rfl
theorem Ok46 : CallOk Try.prog 46 := ⟨_, Try.func46, by kernel_rfl, by kernel_rfl⟩
/-! 47 (*tidewrack/num.In).End -/
def num_In_End (x0 : num_In) : Option (Int) :=
  (bif (!(seq x0.s (⟨#[]⟩ : ByteArray))) then some 1 else some x0.e)
set_option maxRecDepth 20000 in
set_option maxHeartbeats 4000000 in
theorem num_In_End_does {M : Mem} {x0 : num_In} {pb0 : Nat} {r : Int}  (hk : num_In_End x0 = some r) :
    Does Try.prog 47 [.pointer (some ⟨pb0, 0, none⟩)].toArray M [some (pb0, .cells #[.string x0.s, .int .i64 x0.e] 123 (0, 0))] (fun v M' H' => v = .int .i64 r ∧ H' = [some (pb0, .cells #[.string x0.s, .int .i64 x0.e] 123 (0, 0))]) := by
 refine Does.of Try.func47 rfl rfl fun w0 => sq <| rg <| pn 1 rfl <| nx <| sq <| sq <| rg <| pn 2 rfl <| ?_
 refine va rfl (fd Fld123_0 rfl (bi 0 rfl rfl)) <| va rfl (ld One9 rfl (Pt.part 0 1 (bi 0 rfl rfl) rfl)) <| va rfl (run_sneq rfl rfl rfl) <| nx <| ?_
 rcases cs hk with ⟨e101, hk⟩ | ⟨e101, hk⟩
 · refine cy rfl e101 <| sq <| rg <| pn 1 rfl <| nx <| rt <| tr <| ?_
   obtain rfl := si hk
   exact oR 1 rfl rfl ⟨rfl, rfl⟩
 refine cn rfl e101 <| sk <| xn <| sq <| rg <| pn 2 rfl <| va rfl (fd Fld123_1 rfl (bi 0 rfl rfl)) <| va rfl (ld One50 rfl (Pt.part 1 1 (bi 0 rfl rfl) rfl)) <| pn 1 rfl <| ?_
 refine nx <| rt <| ?_
 obtain rfl := si hk
 exact oR 1 rfl rfl ⟨rfl, rfl⟩
theorem Ok47 : CallOk Try.prog 47 := ⟨_, Try.func47, by kernel_rfl, by kernel_rfl⟩
/-! 13 tidewrack/snap.Parse -/
def snap_Parse_j2 (y118 : Int × num_In) (y122 : Int × num_In) (y126 : Int × num_In) (y130 : Int × num_In) (y134 : Int × num_In) (y138 : ByteArray × num_In) (p365 : List Row) (y142 : Int × num_In) (y146 : Int × num_In) (y150 : List Glyph × num_In) (p452 : Int) : Option (Snap × Int) :=
  (bif (p452 != 0) then some ((⟨0, 0, 0, 0, 0, (⟨#[]⟩ : ByteArray), ([] : List Row), 0, 0, ([] : List Glyph)⟩ : Snap), p452) else some ((⟨y118.1, y122.1, y126.1, y130.1, y134.1, y138.1, p365, y142.1, y146.1, y150.1⟩ : Snap), 0))
def snap_Parse_j3 (y118 : Int × num_In) (y122 : Int × num_In) (y126 : Int × num_In) (y130 : Int × num_In) (y134 : Int × num_In) (y138 : ByteArray × num_In) (p365 : List Row) (y142 : Int × num_In) (y146 : Int × num_In) (y150 : List Glyph × num_In) (y385 : Int) (p486 : Bool) : Option (Snap × Int) :=
  (bif p486 then snap_Parse_j2 y118 y122 y126 y130 y134 y138 p365 y142 y146 y150 1 else snap_Parse_j2 y118 y122 y126 y130 y134 y138 p365 y142 y146 y150 y385)
def snap_Parse_j4 (rec384 : ByteArray → Int → (List Row) → Option (Snap × Int)) (p572 : ByteArray) (p573 : Int) (p574 : List Row) : Option (Snap × Int) :=
  (rec384 p572 p573 p574)
def snap_Parse_l1 (y118 : Int × num_In) (y122 : Int × num_In) (y126 : Int × num_In) (y130 : Int × num_In) (y134 : Int × num_In) (y138 : ByteArray × num_In) (y142 : Int × num_In) (y146 : Int × num_In) (y150 : List Glyph × num_In) : Nat → ByteArray → Int → (List Row) → Option (Snap × Int)
  | 0, p363, p364, p365 =>
  (num_In_End (⟨p363, p364⟩ : num_In)).bind fun y385 => (bif (y385 == 0) then (bif (snap_Snap_empty (⟨y118.1, y122.1, y126.1, y130.1, y134.1, y138.1, p365, y142.1, y146.1, y150.1⟩ : Snap)) then some true else (snap_Snap_Check (⟨y118.1, y122.1, y126.1, y130.1, y134.1, y138.1, p365, y142.1, y146.1, y150.1⟩ : Snap)).bind fun y508 => some (y508 != 0)).bind fun z513 => snap_Parse_j3 y118 y122 y126 y130 y134 y138 p365 y142 y146 y150 y385 z513 else snap_Parse_j3 y118 y122 y126 y130 y134 y138 p365 y142 y146 y150 y385 false)
  | k381 + 1, p363, p364, p365 =>
  (bif ((num_In_Err (⟨p363, p364⟩ : num_In)) == 0) then (snap_ReadRow (⟨p363, p364⟩ : num_In) y122.1).bind fun y615 => (cap (p365.length + ([y615.1] : List Row).length)).bind fun y628 => snap_Parse_j4 (snap_Parse_l1 y118 y122 y126 y130 y134 y138 y142 y146 y150 k381) y615.2.s y615.2.e (p365 ++ ([y615.1] : List Row)) else snap_Parse_j4 (snap_Parse_l1 y118 y122 y126 y130 y134 y138 y142 y146 y150 k381) p363 p364 p365)
def snap_Parse (x0 : ByteArray) : Option (Snap × Int) :=
  (bif (seq x0 (⟨#[]⟩ : ByteArray)) then some ((⟨0, 0, 0, 0, 0, (⟨#[]⟩ : ByteArray), ([] : List Row), 0, 0, ([] : List Glyph)⟩ : Snap), 0) else (num_Of x0).bind fun y113 => (num_In_Num y113).bind fun y118 => (snap_size y118.2).bind fun y122 => (snap_size y122.2).bind fun y126 => (num_In_Num y126.2).bind fun y130 => (num_In_Num y130.2).bind fun y134 => (num_In_Text y134.2).bind fun y138 => (num_In_Num y138.2).bind fun y142 => (num_In_Num y142.2).bind fun y146 => (book_Read y146.2).bind fun y150 => (need (decide (y126.1 ≤ 4294967296))).bind fun y382 => snap_Parse_l1 y118 y122 y126 y130 y134 y138 y142 y146 y150 y126.1.toNat y150.2.s y150.2.e ([] : List Row))
set_option maxRecDepth 20000 in
set_option maxHeartbeats 4000000 in
theorem snap_Parse_does {M : Mem} {x0 : ByteArray}  {r : Snap × Int}  (hk : snap_Parse x0 = some r) :
    Does Try.prog 13 [.string x0].toArray M [] (fun v M' H' => ∃ a101 n102 c103 e105 a106 n107 c108 e110, v = .tuple #[.agg #[.int .i64 r.1.K, .int .i64 r.1.W, .int .i64 r.1.H, .int .i64 r.1.X, .int .i64 r.1.Y, .string r.1.Title, .slice a101 n102 c103, .int .i64 r.1.Len, .int .i64 r.1.Chain, .slice a106 n107 c108], .int .i64 r.2] ∧ OSl M' E37 r.1.Rows a101 n102 c103 37 e105 ∧ OSl M' E41 r.1.Begun a106 n107 c108 41 e110 ∧ H' = [e105, e110]) := by
 refine Does.of Try.func13 rfl rfl fun w0 => sq <| rg <| al rfl Zr25 fun b111 => pn 1 rfl <| nx <| sq <| sq <| rg <| ?_
 refine pn 1 rfl <| va rfl (run_seql rfl rfl rfl) <| nx <| ?_
 rcases cs hk with ⟨e112, hk⟩ | ⟨e112, hk⟩
 · refine cy rfl e112 <| sq <| rg <| va rfl (bd (cells := [.int .i64 0, .int .i64 0, .int .i64 0, .int .i64 0, .int .i64 0, .string (⟨#[]⟩ : ByteArray), .slice none 0 0, .int .i64 0, .int .i64 0, .slice none 0 0]) Bld25 rfl) <| sr 0 rfl Sz25 rfl rfl rfl rfl rfl <| pn 1 rfl <| nx <| rt <| tr <| ?_
   obtain rfl := si hk
   exact blX <| blX <| seX [1, 0, 2] rfl <| Ex.out 2 rfl (.inl rfl) rfl (rs := [_, _]) (vs := [_, _]) ⟨⟨_, rfl, .inr ⟨Rowy25, _, _, rfl, Sz25, (bi 2 rfl rfl), rfl⟩⟩, rfl, trivial⟩ rfl ⟨_, _, _, _, _, _, _, _, rfl, (OSl.nil _ _ _), (OSl.nil _ _ _), rfl⟩
 refine cn rfl e112 <| sk <| xn <| sq <| rg <| pn 1 rfl <| bs hk fun y113 e114 hk => ca rfl Ok40 (num_Of_does e114) rfl rfl <| ?_
 rintro _ M115 _ l116 ⟨b117, rfl, rfl⟩
 refine pn 1 rfl <| nx <| sq <| rg <| pn 1 rfl <| bs hk fun y118 e119 hk => ca rfl Ok41 (num_In_Num_does e119) rfl rfl <| ?_
 rintro _ M120 _ l121 ⟨rfl, rfl⟩
 refine pn 1 rfl <| bs hk fun y122 e123 hk => ca rfl Ok42 (snap_size_does e123) rfl rfl <| ?_
 rintro _ M124 _ l125 ⟨rfl, rfl⟩
 refine pn 1 rfl <| bs hk fun y126 e127 hk => ca rfl Ok42 (snap_size_does e127) rfl rfl <| ?_
 rintro _ M128 _ l129 ⟨rfl, rfl⟩
 refine pn 1 rfl <| bs hk fun y130 e131 hk => ca rfl Ok41 (num_In_Num_does e131) rfl rfl <| ?_
 rintro _ M132 _ l133 ⟨rfl, rfl⟩
 refine pn 1 rfl <| bs hk fun y134 e135 hk => ca rfl Ok41 (num_In_Num_does e135) rfl rfl <| ?_
 rintro _ M136 _ l137 ⟨rfl, rfl⟩
 refine pn 1 rfl <| bs hk fun y138 e139 hk => ca rfl Ok43 (num_In_Text_does e139) rfl rfl <| ?_
 rintro _ M140 _ l141 ⟨rfl, rfl⟩
 refine pn 1 rfl <| bs hk fun y142 e143 hk => ca rfl Ok41 (num_In_Num_does e143) rfl rfl <| ?_
 rintro _ M144 _ l145 ⟨rfl, rfl⟩
 refine pn 1 rfl <| bs hk fun y146 e147 hk => ca rfl Ok41 (num_In_Num_does e147) rfl rfl <| ?_
 rintro _ M148 _ l149 ⟨rfl, rfl⟩
 refine pn 1 rfl <| bs hk fun y150 e151 hk => ca rfl Ok44 (book_Read_does e151) rfl rfl <| ?_
 rintro _ M152 _ l153 ⟨a154, n155, c156, e158, rfl, h157, rfl⟩
 refine va rfl (bd (cells := [.int .i64 y118.1, .int .i64 y122.1, .int .i64 y126.1, .int .i64 y130.1, .int .i64 y134.1, .string y138.1, .slice none 0 0, .int .i64 y142.1, .int .i64 y146.1, .slice a154 n155 c156]) Bld25 rfl) <| al rfl Zr25 fun b159 => sr 0 rfl Sz25 rfl rfl rfl rfl rfl <| nx <| sq <| sq <| rg <| va rfl (fd Fld25_2 rfl (bi 0 rfl rfl)) <| va rfl (ld One3 rfl (Pt.part 2 1 (bi 0 rfl rfl) rfl)) <| ?_
 refine pn 1 rfl <| nx <| bk <| bs hk fun y382 e383 hk => Cd.loop <| ?_
 refine blL <| seL [0, 3, 4, 2, 1] rfl <| ls (l' := [(2, .pointer (some ⟨b111, 0, none⟩)), (3, .int .i64 0), (4, .pointer (some ⟨b117, 0, none⟩)), (5, .pointer (some ⟨b159, 0, none⟩)), (32, .int .i64 y126.1), (33, .int .i64 0)]) rfl <| ?_
 refine Lp.nat (n := y126.1) (of_decide_eq_true (need_some e383)) (fun ys_ p371 M372 H' l' => ∃ p363 p364 p365 a366 n369 c367 e370, Mem.le M152 M372 ∧ OSl M372 E37 p365 a366 n369 c367 37 e370 ∧ snap_Parse_l1 y118 y122 y126 y130 y134 y138 y142 y146 y150 ys_ p363 p364 p365 = some r ∧ l' = [(2, .pointer (some ⟨b111, 0, none⟩)), (3, .int .i64 0), (4, .pointer (some ⟨b117, 0, none⟩)), (5, .pointer (some ⟨b159, 0, none⟩)), (32, .int .i64 y126.1), (33, .int .i64 p371)] ∧ H' = [e370, e158, some (b111, .cells #[.int .i64 0, .int .i64 0, .int .i64 0, .int .i64 0, .int .i64 0, .string (⟨#[]⟩ : ByteArray), .slice none 0 0, .int .i64 0, .int .i64 0, .slice none 0 0] 25 (0, 0)), some (b117, .cells #[.string p363, .int .i64 p364] 123 (0, 0)), some (b159, .cells #[.int .i64 y118.1, .int .i64 y122.1, .int .i64 y126.1, .int .i64 y130.1, .int .i64 y134.1, .string y138.1, .slice a366 n369 c367, .int .i64 y142.1, .int .i64 y146.1, .slice a154 n155 c156] 25 (0, 0))]) ?_ ?_ _ _ _ ⟨y150.2.s, y150.2.e, ([] : List Row), _, _, _, _, lr, (OSl.nil _ _ _), hk, rfl, rfl⟩
 · rintro p371 e376 M372 H' l' ⟨p363, p364, p365, a366, n369, c367, e370, hle373, h368, hk, rfl, rfl⟩
   refine sq <| rg <| pn 1 rfl <| nx <| sq <| cn rfl e376 <| ex <| te <| te <| ?_
   refine xe <| xn <| sq <| rg <| pn 1 rfl <| se [3, 0, 1, 2, 4] rfl <| bs hk fun y385 e386 hk => caq rfl Ok47 (num_In_End_does e386) rfl rfl <| pn 1 rfl <| ?_
   refine nx <| ?_
   refine Cd.join (fun M453 H' l' => ∃ p452, Mem.le M372 M453 ∧ snap_Parse_j2 y118 y122 y126 y130 y134 y138 p365 y142 y146 y150 p452 = some r ∧ l' = [(2, .pointer (some ⟨b111, 0, none⟩)), (3, .int .i64 0), (5, .pointer (some ⟨b159, 0, none⟩)), (6, .int .i64 p452)] ∧ H' = [e370, e158, some (b111, .cells #[.int .i64 0, .int .i64 0, .int .i64 0, .int .i64 0, .int .i64 0, .string (⟨#[]⟩ : ByteArray), .slice none 0 0, .int .i64 0, .int .i64 0, .slice none 0 0] 25 (0, 0)), some (b159, .cells #[.int .i64 y118.1, .int .i64 y122.1, .int .i64 y126.1, .int .i64 y130.1, .int .i64 y134.1, .string y138.1, .slice a366 n369 c367, .int .i64 y142.1, .int .i64 y146.1, .slice a154 n155 c156] 25 (0, 0))]) ?_ ?_
   · rintro M453 H' l' ⟨p452, hle454, hk, rfl, rfl⟩
     refine sq <| sq <| rg <| pn 2 rfl <| nx <| ?_
     rcases cs hk with ⟨e456, hk⟩ | ⟨e456, hk⟩
     · refine cy rfl e456 <| sq <| rg <| va rfl (bd (cells := [.int .i64 0, .int .i64 0, .int .i64 0, .int .i64 0, .int .i64 0, .string (⟨#[]⟩ : ByteArray), .slice none 0 0, .int .i64 0, .int .i64 0, .slice none 0 0]) Bld25 rfl) <| pn 1 rfl <| sr 2 rfl Sz25 rfl rfl rfl rfl rfl <| pn 1 rfl <| nx <| rt <| ?_
       refine tr <| ?_
       obtain rfl := si hk
       exact blX <| blX <| seX [1, 0, 4] rfl <| Ex.out 2 rfl (.inl rfl) rfl (rs := [_, _]) (vs := [_, _]) ⟨⟨_, rfl, .inr ⟨Rowy25, _, _, rfl, Sz25, (bi 2 rfl rfl), rfl⟩⟩, rfl, trivial⟩ rfl ⟨_, _, _, _, _, _, _, _, rfl, (OSl.nil _ _ _), (OSl.nil _ _ _), rfl⟩
     refine cn rfl e456 <| sk <| xn <| sq <| rg <| va rfl (lN Rowy25 Sz25 rfl (bi 3 rfl rfl) rfl) <| sr 2 rfl Sz25 rfl rfl rfl rfl rfl <| pn 1 rfl <| nx <| ?_
     refine rt <| ?_
     obtain rfl := si hk
     refine seX [0, 1, 2] rfl <| ?_
     have h368 := h368.mono hle454
     have h157 := h157.mono (hle373.t hle454)
     exact Ex.out 2 rfl (.inl rfl) rfl (rs := [_, _]) (vs := [_, _]) ⟨⟨_, rfl, .inr ⟨Rowy25, _, _, rfl, Sz25, (bi 2 rfl rfl), rfl⟩⟩, rfl, trivial⟩ rfl ⟨_, _, _, _, _, _, _, _, rfl, h368, h157, rfl⟩
   intro J455
   refine Cd.join (fun M487 H' l' => ∃ p486, Mem.le M372 M487 ∧ snap_Parse_j3 y118 y122 y126 y130 y134 y138 p365 y142 y146 y150 y385 p486 = some r ∧ l' = [(2, .pointer (some ⟨b111, 0, none⟩)), (3, .int .i64 0), (5, .pointer (some ⟨b159, 0, none⟩)), (6, .int .i64 y385), (60, .bool p486)] ∧ H' = [e370, e158, some (b111, .cells #[.int .i64 0, .int .i64 0, .int .i64 0, .int .i64 0, .int .i64 0, .string (⟨#[]⟩ : ByteArray), .slice none 0 0, .int .i64 0, .int .i64 0, .slice none 0 0] 25 (0, 0)), some (b159, .cells #[.int .i64 y118.1, .int .i64 y122.1, .int .i64 y126.1, .int .i64 y130.1, .int .i64 y134.1, .string y138.1, .slice a366 n369 c367, .int .i64 y142.1, .int .i64 y146.1, .slice a154 n155 c156] 25 (0, 0))]) ?_ ?_
   · rintro M487 H' l' ⟨p486, hle488, hk, rfl, rfl⟩
     rcases cs hk with ⟨e490, hk⟩ | ⟨e490, hk⟩
     · exact cy rfl e490 <| rg <| pn 1 rfl <| on <| asx (J455 _ _ _ ⟨1, hle488, hk, rfl, rfl⟩) rfl
     exact cn rfl e490 <| sk <| asx (J455 _ _ _ ⟨y385, hle488, hk, rfl, rfl⟩) rfl
   intro J489
   refine rg <| pn 3 rfl <| ?_
   rcases cs hk with ⟨e505, hk⟩ | ⟨e505, hk⟩
   · refine kt 52 e505 rfl <| va rfl (lN Rowy25 Sz25 rfl (bi 4 rfl rfl) rfl) <| ?_
     have h157 := h157.mono hle373
     refine se [1, 2, 0, 3, 4] rfl <| caq rfl Ok32 (snap_Snap_empty_does (h368.rde) (h157.rde) (tt (snap_Snap_empty (⟨y118.1, y122.1, y126.1, y130.1, y134.1, y138.1, p365, y142.1, y146.1, y150.1⟩ : Snap)))) rfl rfl <| pn 1 rfl <| bs hk fun z513 e512 hk => jn 59 4 rfl (.bool z513) (fun J514 => ?_) ?_
     · rcases cs e512 with ⟨e515, e512⟩ | ⟨e515, e512⟩
       · exact kt 55 e515 rfl <| pn 4 rfl <| ji 5 J514 rfl rfl rfl e512
       exact kf 55 e515 rfl <| va rfl (lN Rowy25 Sz25 rfl (bi 4 rfl rfl) rfl) <| bs e512 fun y516 e517 e512 => caq rfl Ok33 (snap_Snap_Check_does (h368.rde) (h157.rde) e517) rfl rfl <| pn 2 rfl <| ji 5 J514 rfl rfl rfl e512
     exact pn 1 rfl <| on <| seX [0, 1, 3, 4] rfl <| asx (J489 _ _ _ ⟨z513, lr, hk, rfl, rfl⟩) rfl
   exact kf 52 e505 rfl <| pn 8 rfl <| on <| seX [1, 2, 3, 4] rfl <| asx (J489 _ _ _ ⟨false, lr, hk, rfl, rfl⟩) rfl
 rintro k381 p371 e376 i377 j378 w375 ih374 M372 H' l' ⟨p363, p364, p365, a366, n369, c367, e370, hle373, h368, hk, rfl, rfl⟩
 refine sq <| rg <| pn 1 rfl <| nx <| sq <| cy rfl e376 <| sk <| xn <| ?_
 refine Cd.join (fun M580 H' l' => ∃ p572 p573 p574 a575 n578 c576 e579, Mem.le M372 M580 ∧ OSl M580 E37 p574 a575 n578 c576 37 e579 ∧ snap_Parse_j4 (snap_Parse_l1 y118 y122 y126 y130 y134 y138 y142 y146 y150 k381) p572 p573 p574 = some r ∧ l' = [(2, .pointer (some ⟨b111, 0, none⟩)), (3, .int .i64 0), (4, .pointer (some ⟨b117, 0, none⟩)), (5, .pointer (some ⟨b159, 0, none⟩)), (32, .int .i64 y126.1), (33, .int .i64 p371), (34, .bool (decide (p371 < y126.1))), (35, .pointer (some ⟨b117, 0, none⟩)), (36, .int .i64 (num_In_Err (⟨p363, p364⟩ : num_In))), (37, .bool ((num_In_Err (⟨p363, p364⟩ : num_In)) == 0))] ∧ H' = [e579, e158, some (b111, .cells #[.int .i64 0, .int .i64 0, .int .i64 0, .int .i64 0, .int .i64 0, .string (⟨#[]⟩ : ByteArray), .slice none 0 0, .int .i64 0, .int .i64 0, .slice none 0 0] 25 (0, 0)), some (b117, .cells #[.string p572, .int .i64 p573] 123 (0, 0)), some (b159, .cells #[.int .i64 y118.1, .int .i64 y122.1, .int .i64 y126.1, .int .i64 y130.1, .int .i64 y134.1, .string y138.1, .slice a575 n578 c576, .int .i64 y142.1, .int .i64 y146.1, .slice a154 n155 c156] 25 (0, 0))]) ?_ ?_
 · rintro M580 H' l' ⟨p572, p573, p574, a575, n578, c576, e579, hle581, h577, hk, rfl, rfl⟩
   exact rg <| pn 2 rfl <| on <| sx 33 w375 rfl <| asx (ih374 _ _ _ ⟨p572, p573, p574, _, _, _, _, (hle373.t hle581), h577, hk, rfl, rfl⟩) rfl
 intro J582
 refine bk <| sq <| rg <| pn 1 rfl <| se [3, 0, 1, 2, 4] rfl <| caq rfl Ok45 (num_In_Err_does (tt (num_In_Err (⟨p363, p364⟩ : num_In)))) rfl rfl <| pn 1 rfl <| nx <| ?_
 rcases cs hk with ⟨e585, hk⟩ | ⟨e585, hk⟩
 · refine cy rfl e585 <| ?_
   refine dt [2, 3, 4] rfl 8 rfl (.tk [0, 1, 2, 3, 4] (.one 5 (.one 6 (.one 7 .nil)))) Mixed (by kernel_rfl) <| dv rfl rfl (fd Fld25_6 rfl (bi 2 rfl rfl)) <| dv rfl rfl (ld One22 rfl (Pt.part 6 1 (bi 2 rfl rfl) rfl)) <| dn 1 rfl <| dv rfl rfl (fd Fld25_1 rfl (bi 2 rfl rfl)) <| dv rfl rfl (ld One3 rfl (Pt.part 1 1 (bi 2 rfl rfl) rfl)) <| da rfl <| bs hk fun y615 e616 hk => ca rfl Ok46 (snap_ReadRow_does e616) rfl rfl <| ?_
   rintro _ M617 _ l618 ⟨a619, n620, c621, e623, rfl, h622, rfl⟩
   refine db [3, 4, 5] l618 rfl <| da rfl <| fz 1 h622 rfl rfl fun M626 l627 h622 => ?_
   refine li E37 [y615.1] rfl Sl22 El37 rfl rfl ⟨⟨_, _, _, rfl, h622⟩, rfl⟩ fun b624 h625 => db [3, 4, 5] (l618.t l627) rfl <| bs hk fun y628 e629 hk => da rfl <| ap (E := E37) 2 rfl Sl22 El37 rfl rfl (h368.mono (l618.t l627)) rfl (RdE.rds h625.rde 0 rfl) e629 rfl (fun _ => rfl) fun a630 n631 c632 e633 h634 => db [3, 4, 5] (l618.t l627) rfl <| dd <| td rfl <| va rfl (fd Fld25_6 rfl (bi 5 rfl rfl)) <| ?_
   refine sr 5 rfl Sz22 rfl rfl rfl rfl rfl <| on <| xb <| seX [2, 3, 4, 1, 5] rfl <| ?_
   exact asx (J582 _ _ _ ⟨y615.2.s, y615.2.e, (p365 ++ ([y615.1] : List Row)), _, _, _, _, (l618.t l627), h634, hk, rfl, rfl⟩) rfl
 exact cn rfl e585 <| sk <| xb <| seX [1, 2, 3, 0, 4] rfl <| asx (J582 _ _ _ ⟨p363, p364, p365, _, _, _, _, lr, h368, hk, rfl, rfl⟩) rfl
theorem Ok13 : CallOk Try.prog 13 := ⟨_, Try.func13, by kernel_rfl, by kernel_rfl⟩
/-! 71 slices.Equal[[]tidewrack/row.Cell,tidewrack/row.Cell] -/
def slices_Equal_row_Cell_l1 (x1 : List Cell) : List Cell → Int → Option (Bool)
  | [], p133 =>
  some true
  | y142 :: ys143, p133 =>
  (idx x1 p133).bind fun y149 => (bif (!((y142.Rune == y149.Rune) && ((y142.Style == y149.Style) && ((y142.Part == y149.Part) && true)))) then some false else (slices_Equal_row_Cell_l1 x1 ys143 (p133 + 1)))
def slices_Equal_row_Cell (x0 : List Cell) (x1 : List Cell) : Option (Bool) :=
  (bif ((x0.length : Int) != (x1.length : Int)) then some false else (cap x0.length).bind fun y144 => slices_Equal_row_Cell_l1 x1 x0 0)
set_option maxRecDepth 20000 in
set_option maxHeartbeats 4000000 in
theorem slices_Equal_row_Cell_does {M : Mem} {x0 : List Cell} {x1 : List Cell} {pa0 : Option Addr} {pn0 pc0 : Nat} {pa1 : Option Addr} {pn1 pc1 : Nat} {r : Bool} (ph0 : SRep M E39 x0 pa0 pn0 pc0) (ph1 : SRep M E39 x1 pa1 pn1 pc1) (hk : slices_Equal_row_Cell x0 x1 = some r) :
    Does Try.prog 71 [.slice pa0 pn0 pc0, .slice pa1 pn1 pc1].toArray M [] (fun v M' H' => v = .bool r ∧ H' = []) := by
 refine Does.of Try.func71 rfl rfl fun w0 => sq <| rg <| pn 1 rfl <| nx <| sq <| sq <| rg <| pn 1 rfl <| ?_
 refine va rfl (lf Try.underlying35 ph0.len rfl) <| pn 1 rfl <| va rfl (lf Try.underlying35 ph1.len rfl) <| pn 1 rfl <| nx <| ?_
 rcases cs hk with ⟨e101, hk⟩ | ⟨e101, hk⟩
 · refine cy rfl e101 <| sq <| rg <| pn 1 rfl <| nx <| rt <| tr <| ?_
   obtain rfl := si hk
   exact oR 0 rfl rfl ⟨rfl, rfl⟩
 refine cn rfl e101 <| sk <| xn <| sq <| sq <| rg <| pn 1 rfl <| va rfl (lf Try.underlying35 ph0.len rfl) <| pn 1 rfl <| ?_
 refine nx <| bk <| bs hk fun y144 e145 hk => Cd.loop <| ?_
 refine ls (l' := [(0, .slice pa0 pn0 pc0), (1, .slice pa1 pn1 pc1), (4, .bool false), (12, .int .i64 (x0.length : Int)), (13, .int .i64 0)]) rfl <| ?_
 refine Lp.lst (xs := x0) e145 (fun ys_ p133 M134 H' l' => Mem.le M M134 ∧ slices_Equal_row_Cell_l1 x1 ys_ p133 = some r ∧ l' = [(0, .slice pa0 pn0 pc0), (1, .slice pa1 pn1 pc1), (4, .bool false), (12, .int .i64 (x0.length : Int)), (13, .int .i64 p133)] ∧ H' = []) ?_ ?_ _ _ _ ⟨lr, hk, rfl, rfl⟩
 · rintro p133 e138 M134 H' l' ⟨hle135, hk, rfl, rfl⟩
   refine sq <| rg <| pn 1 rfl <| nx <| sq <| cn rfl e138 <| ex <| te <| te <| ?_
   refine xe <| xn <| sq <| rg <| pn 1 rfl <| nx <| rt <| ?_
   obtain rfl := si hk
   exact oR 0 rfl rfl ⟨rfl, rfl⟩
 rintro y142 ys143 p133 e138 i139 j140 h141 w137 ih136 M134 H' l' ⟨hle135, hk, rfl, rfl⟩
 refine sq <| rg <| pn 1 rfl <| nx <| sq <| cy rfl e138 <| sk <| xn <| sq <| ?_
 refine bk <| sq <| rg <| pn 2 rfl <| nx <| sq <| ?_
 refine dw [] rfl (.tk [0, 1, 2, 3, 4, 5, 6, 7, 8] .nil) Mixed (by kernel_rfl) <| dn 2 rfl <| ?_
 obtain ⟨_, rfl, h147⟩ := (ph0.mono hle135).pt [] h141
 refine dv rfl rfl (ix Sl35 rfl rfl i139 (lt_of ph0.len j140) (Pt.ne h147)) <| dv rfl rfl (lN Rowy39 Sz39 rfl (Pt.any h147 _) rfl) <| dn 2 rfl <| bs hk fun y149 e150 hk => ?_
 obtain ⟨i151, j152, h153⟩ := idx_some e150
 obtain ⟨_, rfl, h148⟩ := (ph1.mono hle135).pt [] h153
 refine dv rfl rfl (ix Sl35 rfl rfl i151 (lt_of ph1.len j152) (Pt.ne h148)) <| dv rfl rfl (lN Rowy39 Sz39 rfl (Pt.any h148 _) rfl) <| dv rfl rfl (run_neqS rfl rfl rfl Eqt39 rfl) <| dd <| xn <| ?_
 rcases cs hk with ⟨e154, hk⟩ | ⟨e154, hk⟩
 · refine cy rfl e154 <| sq <| rg <| pn 1 rfl <| nx <| rt <| xr <| tr <| tr <| ?_
   refine xr <| tr <| ?_
   obtain rfl := si hk
   exact oR 0 rfl rfl ⟨rfl, rfl⟩
 refine cn rfl e154 <| sk <| xb <| xn <| rg <| pn 2 rfl <| on <| sx 13 w137 rfl <| ?_
 exact asx (ih136 _ _ _ ⟨hle135, hk, rfl, rfl⟩) rfl
theorem Ok71 : CallOk Try.prog 71 := ⟨_, Try.func71, by kernel_rfl, by kernel_rfl⟩
/-! 49 (tidewrack/row.Row).Same -/
def row_Row_Same (x0 : Row) (x1 : Row) : Option (Bool) :=
  (bif (x0.Wrapped == x1.Wrapped) then (slices_Equal_row_Cell x0.Cells x1.Cells).bind fun y115 => some y115 else some false).bind fun z120 => some z120
set_option maxRecDepth 20000 in
set_option maxHeartbeats 4000000 in
theorem row_Row_Same_does {M : Mem} {x0 : Row} {x1 : Row} {pa0 : Option Addr} {pn0 pc0 : Nat} {pa1 : Option Addr} {pn1 pc1 : Nat} {r : Bool} (ph0 : SRep M E39 x0.Cells pa0 pn0 pc0) (ph1 : SRep M E39 x1.Cells pa1 pn1 pc1) (hk : row_Row_Same x0 x1 = some r) :
    Does Try.prog 49 [.agg #[.slice pa0 pn0 pc0, .bool x0.Wrapped], .agg #[.slice pa1 pn1 pc1, .bool x1.Wrapped]].toArray M [] (fun v M' H' => v = .bool r ∧ H' = []) := by
 refine Does.of Try.func49 rfl rfl fun w0 => sq <| rg <| bx rfl rfl fun b101 => bx rfl rfl fun b102 => pn 1 rfl <| nx <| sq <| rg <| va rfl (fd Fld37_1 rfl (bi 1 rfl rfl)) <| va rfl (ld One4 rfl (Pt.part 1 1 (bi 1 rfl rfl) rfl)) <| va rfl (fd Fld37_1 rfl (bi 0 rfl rfl)) <| va rfl (ld One4 rfl (Pt.part 1 1 (bi 0 rfl rfl) rfl)) <| va rfl (run_beql rfl rfl rfl Try.underlying4) <| pn 1 rfl <| bs hk fun z120 e119 hk => jn 16 6 rfl (.bool z120) (fun J121 => ?_) ?_
 · rcases cs e119 with ⟨e122, e119⟩ | ⟨e122, e119⟩
   · refine kt 10 e122 rfl <| va rfl (fd Fld37_0 rfl (bi 1 rfl rfl)) <| va rfl (ld One35 rfl (Pt.part 0 1 (bi 1 rfl rfl) rfl)) <| va rfl (fd Fld37_0 rfl (bi 0 rfl rfl)) <| va rfl (ld One35 rfl (Pt.part 0 1 (bi 0 rfl rfl) rfl)) <| bs e119 fun y123 e124 e119 => caq rfl Ok71 (slices_Equal_row_Cell_does ph0 ph1 e124) rfl rfl <| pn 1 rfl <| ?_
     exact ji 7 J121 rfl rfl rfl e119
   exact kf 10 e122 rfl <| pn 6 rfl <| ji 7 J121 rfl rfl rfl e119
 refine pn 1 rfl <| nx <| rt <| ?_
 obtain rfl := si hk
 exact seX [] rfl <| oR 0 rfl rfl ⟨rfl, rfl⟩
theorem Ok49 : CallOk Try.prog 49 := ⟨_, Try.func49, by kernel_rfl, by kernel_rfl⟩
end Go.Proofs.Ytjbfolnnepjidaa.Tw
