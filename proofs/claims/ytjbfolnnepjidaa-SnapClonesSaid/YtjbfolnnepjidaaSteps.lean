/-
  The single operations of the generated walks of this claim.
-/
import Derived.Test.YtjbfolnnepjidaaRep
set_option linter.unusedVariables false
set_option linter.unusedSimpArgs false
namespace Go.Proofs.Ytjbfolnnepjidaa.Tw
open Go

section
variable {P : Program} {J : World → Prop} {o : Oper} {l : Slots}

theorem run_move {x : Operand} {v : Value} (ho : o.op = .move x) (hx : ev l x = some v) : RunV P J o l v := fun ρ w ha _ => by simp [execOp, ho, ha x v hx, pure, Sem.run]
theorem run_assign {x : Operand} {v : Value} (ho : o.op = .assign x) (hx : ev l x = some v) : RunV P J o l v := fun ρ w ha _ => by simp [execOp, ho, ha x v hx, pure, Sem.run]
theorem run_pick {c x y : Operand} {t : Bool} {vx vy : Value} (ho : o.op = .pick c x y) (hc : ev l c = some (.bool t)) (hx : ev l x = some vx) (hy : ev l y = some vy) : RunV P J o l (if t then vx else vy) :=
  fun ρ w ha _ => by cases t <;> simp [execOp, ho, ha x vx hx, ha y vy hy, ha c _ hc, asBool]
theorem run_pickY {c x y : Operand} {vx : Value} {t : Bool} (ho : o.op = .pick c x y) (hc : ev l c = some (.bool t)) (ht : t = true) (hx : ev l x = some vx) : RunV P J o l vx :=
  fun ρ w ha _ => by subst ht; simp [execOp, ho, ha x vx hx, ha c _ hc, asBool]
theorem run_pickN {c x y : Operand} {vy : Value} {t : Bool} (ho : o.op = .pick c x y) (hc : ev l c = some (.bool t)) (ht : t = false) (hy : ev l y = some vy) : RunV P J o l vy :=
  fun ρ w ha _ => by subst ht; simp [execOp, ho, ha y vy hy, ha c _ hc, asBool]

/-! ### Whole numbers -/
def ib : BinOp → IntKind → Int → Int → Option Value
  | .add, k, a, b => some (.int k (k.wrap (a + b)))
  | .sub, k, a, b => some (.int k (k.wrap (a - b)))
  | .mul, k, a, b => some (.int k (k.wrap (a * b)))
  | .and, k, a, b => some (.int k (k.wrap ((BitVec.ofInt k.bits a &&& BitVec.ofInt k.bits b).toNat : Int)))
  | .or, k, a, b => some (.int k (k.wrap ((BitVec.ofInt k.bits a ||| BitVec.ofInt k.bits b).toNat : Int)))
  | .xor, k, a, b => some (.int k (k.wrap ((BitVec.ofInt k.bits a ^^^ BitVec.ofInt k.bits b).toNat : Int)))
  | .eql, _, a, b => some (.bool (a == b))
  | .neq, _, a, b => some (.bool (a != b))
  | .lss, _, a, b => some (.bool (decide (a < b)))
  | .leq, _, a, b => some (.bool (decide (a ≤ b)))
  | .gtr, _, a, b => some (.bool (decide (a > b)))
  | .geq, _, a, b => some (.bool (decide (a ≥ b)))
  | _, _, _, _ => none
theorem run_int {op : BinOp} {T T' : TypeId} {x y : Operand} {k : IntKind} {a b : Int} {v : Value} (ho : o.op = .binOp op T x y T') (hx : ev l x = some (.int k a)) (hy : ev l y = some (.int k b)) (hv : ib op k a b = some v) : RunV P J o l v :=
  fun ρ w ha _ => by
    cases op <;> simp only [ib, Option.some.injEq, reduceCtorEq] at hv <;> subst hv <;>
      simp [execOp, ho, ha x _ hx, ha y _ hy, eqGuard, binOp, Op.intArith, Op.intBits, Op.intCmp]
theorem run_quo {T T' : TypeId} {x y : Operand} {k : IntKind} {a b : Int} (ho : o.op = .binOp .quo T x y T') (hx : ev l x = some (.int k a)) (hy : ev l y = some (.int k b)) (hb : b ≠ 0) : RunV P J o l (.int k (k.wrap (a.tdiv b))) :=
  fun ρ w ha _ => by simp [execOp, ho, ha x _ hx, ha y _ hy, eqGuard, binOp, Op.intDiv, hb]
theorem run_rem {T T' : TypeId} {x y : Operand} {k : IntKind} {a b : Int} (ho : o.op = .binOp .rem T x y T') (hx : ev l x = some (.int k a)) (hy : ev l y = some (.int k b)) (hb : b ≠ 0) : RunV P J o l (.int k (a.tmod b)) :=
  fun ρ w ha _ => by simp [execOp, ho, ha x _ hx, ha y _ hy, eqGuard, binOp, Op.intDiv, hb]
theorem run_shl {T T' : TypeId} {x y : Operand} {k k' : IntKind} {a b : Int} (ho : o.op = .binOp .shl T x y T') (hx : ev l x = some (.int k a)) (hy : ev l y = some (.int k' b)) (hb : 0 ≤ b) : RunV P J o l (.int k (k.wrap (a * 2 ^ (min b.toNat k.bits)))) :=
  fun ρ w ha _ => by
    have : ¬ b < 0 := by omega
    simp [execOp, ho, ha x _ hx, ha y _ hy, eqGuard, binOp, Op.shift, this]
theorem run_shr {T T' : TypeId} {x y : Operand} {k k' : IntKind} {a b : Int} (ho : o.op = .binOp .shr T x y T') (hx : ev l x = some (.int k a)) (hy : ev l y = some (.int k' b)) (hb : 0 ≤ b) : RunV P J o l (.int k (a.fdiv (2 ^ (min b.toNat k.bits)))) :=
  fun ρ w ha _ => by
    have : ¬ b < 0 := by omega
    simp [execOp, ho, ha x _ hx, ha y _ hy, eqGuard, binOp, Op.shift, this]
theorem run_neg {T : TypeId} {x : Operand} {k : IntKind} {a : Int} (ho : o.op = .unOp .neg T x) (hx : ev l x = some (.int k a)) : RunV P J o l (.int k (k.wrap (0 - a))) :=
  fun ρ w ha _ => by simp [execOp, ho, ha x _ hx, Op.unary, Op.intArith]
theorem run_compl {T : TypeId} {x : Operand} {k : IntKind} {a : Int} (ho : o.op = .unOp .xor T x) (hx : ev l x = some (.int k a)) : RunV P J o l (.int k (k.wrap ((BitVec.ofInt k.bits (if k.signed then -1 else k.max) ^^^ BitVec.ofInt k.bits a).toNat : Int))) :=
  fun ρ w ha _ => by simp [execOp, ho, ha x _ hx, Op.unary, Op.intBits]
theorem run_not {T : TypeId} {x : Operand} {a : Bool} (ho : o.op = .unOp .not T x) (hx : ev l x = some (.bool a)) : RunV P J o l (.bool (!a)) :=
  fun ρ w ha _ => by simp [execOp, ho, ha x _ hx, Op.unary]
theorem run_conv {S T : TypeId} {x : Operand} {k k' : IntKind} {a : Int} (ho : o.op = .convert S T x) (hx : ev l x = some (.int k a)) (hT : P.underlying T = some (.int k')) (hS : P.underlying S = some (.int k)) : RunV P J o l (.int k' (k'.wrap a)) :=
  fun ρ w ha _ => by simp [execOp, ho, ha x _ hx, convert, Sem.run_bind, run_underlying hT, run_underlying hS, Conv.intToInt]
theorem run_min {x y : Operand} {k : IntKind} {a b : Int} {ts : Array TypeId} (ho : o.op = .call { callee := .builtin .min, args := #[x, y], argTypes := ts }) (hx : ev l x = some (.int k a)) (hy : ev l y = some (.int k b)) : RunV P J o l (.int k (if b < a then b else a)) :=
  fun ρ w ha _ => by simp [execOp, ho, ha x _ hx, ha y _ hy, resolve, invoke, builtin, Builtin.min_, Builtin.min2]
theorem run_max {x y : Operand} {k : IntKind} {a b : Int} {ts : Array TypeId} (ho : o.op = .call { callee := .builtin .max, args := #[x, y], argTypes := ts }) (hx : ev l x = some (.int k a)) (hy : ev l y = some (.int k b)) : RunV P J o l (.int k (if b > a then b else a)) :=
  fun ρ w ha _ => by simp [execOp, ho, ha x _ hx, ha y _ hy, resolve, invoke, builtin, Builtin.max_, Builtin.max2]

/-! ### Bools, strings -/
theorem run_equal_bool {T : TypeId} (hT : P.underlying T = some .bool) (a b : Bool) (w : World) : (Op.equal T (.bool a) (.bool b)).run P w = .ok (a == b) w := by
  show (Op.equalIn (9999 + 1) T _ _).run P w = _
  generalize 9999 = k
  rw [Op.equalIn]
  simp [Sem.run_bind, run_underlying hT]
theorem run_beql {T T' : TypeId} {x y : Operand} {a b : Bool} (ho : o.op = .binOp .eql T x y T') (hx : ev l x = some (.bool a)) (hy : ev l y = some (.bool b)) (hT : P.underlying T = some .bool) : RunV P J o l (.bool (a == b)) :=
  fun ρ w ha _ => by simp only [execOp, ho, ha x _ hx, ha y _ hy, eqGuard, binOp, Sem.run_bind, run_equal_bool hT]; rfl
theorem run_bneq {T T' : TypeId} {x y : Operand} {a b : Bool} (ho : o.op = .binOp .neq T x y T') (hx : ev l x = some (.bool a)) (hy : ev l y = some (.bool b)) (hT : P.underlying T = some .bool) : RunV P J o l (.bool (!(a == b))) :=
  fun ρ w ha _ => by simp only [execOp, ho, ha x _ hx, ha y _ hy, eqGuard, binOp, Sem.run_bind, run_equal_bool hT]; rfl
theorem run_seql {T T' : TypeId} {x y : Operand} {a b : ByteArray} (ho : o.op = .binOp .eql T x y T') (hx : ev l x = some (.string a)) (hy : ev l y = some (.string b)) : RunV P J o l (.bool (a.toList == b.toList)) :=
  fun ρ w ha _ => by simp [execOp, ho, ha x _ hx, ha y _ hy, eqGuard, binOp, Op.stringOp]
theorem run_sneq {T T' : TypeId} {x y : Operand} {a b : ByteArray} (ho : o.op = .binOp .neq T x y T') (hx : ev l x = some (.string a)) (hy : ev l y = some (.string b)) : RunV P J o l (.bool (!(a.toList == b.toList))) :=
  fun ρ w ha _ => by simp [execOp, ho, ha x _ hx, ha y _ hy, eqGuard, binOp, Op.stringOp]
theorem run_sadd {T T' : TypeId} {x y : Operand} {a b : ByteArray} (ho : o.op = .binOp .add T x y T') (hx : ev l x = some (.string a)) (hy : ev l y = some (.string b)) (hl : a.size + b.size ≤ 4294967296) : RunV P J o l (.string (a ++ b)) :=
  fun ρ w ha _ => by
    have : ¬ ((a.size + b.size : Nat) : Int) > IntKind.i64.max := by
      have : IntKind.i64.max = 9223372036854775807 := by decide
      omega
    simp only [execOp, ho, ha x _ hx, ha y _ hy, eqGuard, binOp, Op.stringOp, if_neg this]
    simp
theorem run_slen {x : Operand} {s : ByteArray} {T : TypeId} (ho : o.op = .call { callee := .builtin .len, args := #[x], argTypes := #[T] }) (hT : P.underlying T = some .string) (hx : ev l x = some (.string s)) : RunV P J o l (.int .i64 s.size) :=
  fun ρ w ha _ => by simp [execOp, ho, ha x _ hx, resolve, invoke, builtin, Builtin.len_, Sem.run_bind, run_underlying hT, goInt]
theorem run_sidx {x y : Operand} {s : ByteArray} {k : IntKind} {i : Int} {T : TypeId} (ho : o.op = .index T x y) (hT : P.underlying T = some .string) (hx : ev l x = some (.string s)) (hy : ev l y = some (.int k i)) (h0 : 0 ≤ i) (hi : i.toNat < s.size) :
    RunV P J o l (.int .u8 ((s[i.toNat]'hi).toNat : Int)) :=
  fun ρ w ha _ => by
    simp [execOp, ho, ha x _ hx, ha y _ hy, Instr.index, asIntOf, Sem.run_bind, run_underlying hT, h0, hi]
theorem run_scut {x : Operand} {lo hi : Option Operand} {s : ByteArray} {a b : Int} {T : TypeId} (ho : o.op = .slice T x lo hi none) (hT : P.underlying T = some .string) (hx : ev l x = some (.string s))
    (hlo : match lo with | some y => ∃ k, ev l y = some (.int k a) | none => a = 0) (hhi : match hi with | some y => ∃ k, ev l y = some (.int k b) | none => b = s.size) (h1 : 0 ≤ a) (h2 : a ≤ b) (h3 : b ≤ s.size) :
    RunV P J o l (.string (s.extract a.toNat b.toNat)) :=
  fun ρ w ha _ => by
    have hb : 0 ≤ b := by omega
    have e1 : a ≤ (b.toNat : Int) := by omega
    have e2 : (b.toNat : Int) ≤ s.size := by omega
    have e3 : max b 0 = b := by omega
    cases lo with
    | none =>
      simp only at hlo; subst hlo
      cases hi with
      | none =>
        simp only at hhi; subst hhi
        simp [execOp, ho, ha x _ hx, Instr.sliceAt, Instr.slice, Instr.sliceBounds, Sem.run_bind, run_underlying hT]
      | some y =>
        obtain ⟨k, hy⟩ := hhi
        simp [execOp, ho, ha x _ hx, ha y _ hy, Instr.sliceAt, Instr.slice, Instr.sliceBounds, Instr.sliceBound, asIntOf, Sem.run_bind, run_underlying hT, hb, h3]
    | some z =>
      obtain ⟨k', hz⟩ := hlo
      cases hi with
      | none =>
        simp only at hhi; subst hhi
        simp [execOp, ho, ha x _ hx, ha z _ hz, Instr.sliceAt, Instr.slice, Instr.sliceBounds, Instr.sliceBound, asIntOf, Sem.run_bind, run_underlying hT, h1, h2]
      | some y =>
        obtain ⟨k, hy⟩ := hhi
        simp [execOp, ho, ha x _ hx, ha y _ hy, ha z _ hz, Instr.sliceAt, Instr.slice, Instr.sliceBounds, Instr.sliceBound, asIntOf, Sem.run_bind, run_underlying hT, hb, h3, h1, e1, e3, h2]

/-! ### Slices' headers -/
theorem run_len {x : Operand} {a : Option Addr} {n c : Nat} {T e : TypeId} (ho : o.op = .call { callee := .builtin .len, args := #[x], argTypes := #[T] }) (hT : P.underlying T = some (.slice e)) (hx : ev l x = some (.slice a n c)) : RunV P J o l (.int .i64 n) :=
  fun ρ w ha _ => by simp [execOp, ho, ha x _ hx, resolve, invoke, builtin, Builtin.len_, Sem.run_bind, run_underlying hT, goInt]
theorem run_tuple {x : Operand} {vs : Array Value} {v : Value} {i : Nat} (ho : o.op = .extract x i) (hx : ev l x = some (.tuple vs)) (hv : vs[i]? = some v) : RunV P J o l v :=
  fun ρ w ha _ => by simp [execOp, ho, ha x _ hx, Instr.extract, hv]
theorem run_func {fn : Go.Fn} (ho : o.op = .makeFunc fn #[] #[]) : RunV P J o l (.func fn #[] #[]) :=
  fun ρ w ha _ => by simp [execOp, ho, Instr.makeFunc]
theorem run_func1 {fn : Go.Fn} {x : Operand} {v : Value} (ho : o.op = .makeFunc fn #[] #[x]) (hx : ev l x = some v) : RunV P J o l (.func fn #[] #[v]) :=
  fun ρ w ha _ => by simp [execOp, ho, ha x _ hx, Instr.makeFunc]
theorem run_nilCheck {x : Operand} {a : Addr} (ho : o.op = .nilCheck x) (hx : ev l x = some (.pointer (some a))) : RunV P J o l (.pointer (some a)) :=
  fun ρ w ha _ => by simp [execOp, ho, ha x _ hx]
end

end Go.Proofs.Ytjbfolnnepjidaa.Tw
