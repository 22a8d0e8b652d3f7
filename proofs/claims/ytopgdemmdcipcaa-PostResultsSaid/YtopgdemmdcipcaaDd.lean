/- Rules for operations that leave the world as it is. Nothing of the program is named here. -/
import Derived.Test.YtopgdemmdcipcaaDc
namespace Go.Proofs.Ytopgdemmdcipcaa
open Go.RowKit
open Rep (rep)

section
variable {P : Program} {S : World → Prop} {T : Tm} {dst : Option Tmp} {ty : TypeId} {pos : String} {af : Array Edge} {g : Option (Nat × Bool)}

theorem Y_move {x : Operand} (v : Value) (h : evT T x = v) : YV P S T ⟨dst, .move x, ty, pos, af, g⟩ v := by intro w _; simp [execOp, h]
theorem Y_assign {x : Operand} (v : Value) (h : evT T x = v) : YV P S T ⟨dst, .assign x, ty, pos, af, g⟩ v := by intro w _; simp [execOp, h]
theorem Y_pick_t {c x y : Operand} (v : Value) (hc : evT T c = .bool true) (h : evT T x = v) : YV P S T ⟨dst, .pick c x y, ty, pos, af, g⟩ v := by intro w _; simp [execOp, h, hc, asBool]
theorem Y_pick_f {c x y : Operand} (v : Value) (hc : evT T c = .bool false) (h : evT T y = v) : YV P S T ⟨dst, .pick c x y, ty, pos, af, g⟩ v := by intro w _; simp [execOp, h, hc, asBool]
theorem Y_pick_b {c x y : Operand} {b p q : Bool} (hc : evT T c = .bool b) (hx : evT T x = .bool p) (hy : evT T y = .bool q) : YV P S T ⟨dst, .pick c x y, ty, pos, af, g⟩ (.bool (bif b then p else q)) := by
  intro w _; cases b <;> simp [execOp, hx, hy, hc, asBool]
theorem Y_not {x : Operand} {b : Bool} {t : TypeId} (h : evT T x = .bool b) : YV P S T ⟨dst, .unOp .not t x, ty, pos, af, g⟩ (.bool (!b)) := by intro w _; simp [execOp, h, Op.unary]
theorem Y_neg {x : Operand} {k : IntKind} {a : Int} {t : TypeId} (h : evT T x = .int k a) : YV P S T ⟨dst, .unOp .neg t x, ty, pos, af, g⟩ (.int k (k.wrap (0 - a))) := by intro w _; simp [execOp, h, Op.unary, Op.intArith]

theorem run_eqGuard_int (op : BinOp) (t : TypeId) (x y : Operand) (k k' : IntKind) (a b : Int) (w : World) : (eqGuard op t x y (.int k a) (.int k' b)).run P w = .ok () w := by
  unfold eqGuard
  cases op <;> simp
theorem run_eqGuard_bool (op : BinOp) (t : TypeId) (x y : Operand) (a b : Bool) (w : World) : (eqGuard op t x y (.bool a) (.bool b)).run P w = .ok () w := by
  unfold eqGuard
  cases op <;> simp
theorem run_eqGuard_str (op : BinOp) (t : TypeId) (x y : Operand) (a b : ByteArray) (w : World) : (eqGuard op t x y (.string a) (.string b)).run P w = .ok () w := by
  unfold eqGuard
  cases op <;> simp

section
variable {x y : Operand} {k : IntKind} {a b : Int} {t u : TypeId}
theorem Y_add (hx : evT T x = .int k a) (hy : evT T y = .int k b) : YV P S T ⟨dst, .binOp .add t x y u, ty, pos, af, g⟩ (.int k (k.wrap (a + b))) := by
  intro w _; simp [execOp, hx, hy, binOp, Op.intArith, run_eqGuard_int]
theorem Y_sub (hx : evT T x = .int k a) (hy : evT T y = .int k b) : YV P S T ⟨dst, .binOp .sub t x y u, ty, pos, af, g⟩ (.int k (k.wrap (a - b))) := by
  intro w _; simp [execOp, hx, hy, binOp, Op.intArith, run_eqGuard_int]
theorem Y_mul (hx : evT T x = .int k a) (hy : evT T y = .int k b) : YV P S T ⟨dst, .binOp .mul t x y u, ty, pos, af, g⟩ (.int k (k.wrap (a * b))) := by
  intro w _; simp [execOp, hx, hy, binOp, Op.intArith, run_eqGuard_int]
theorem Y_quo (hx : evT T x = .int k a) (hy : evT T y = .int k b) (h0 : b ≠ 0) : YV P S T ⟨dst, .binOp .quo t x y u, ty, pos, af, g⟩ (.int k (k.wrap (a.tdiv b))) := by
  intro w _; simp [execOp, hx, hy, binOp, Op.intDiv, run_eqGuard_int, h0]
theorem Y_rem (hx : evT T x = .int k a) (hy : evT T y = .int k b) (h0 : b ≠ 0) : YV P S T ⟨dst, .binOp .rem t x y u, ty, pos, af, g⟩ (.int k (a.tmod b)) := by
  intro w _; simp [execOp, hx, hy, binOp, Op.intDiv, run_eqGuard_int, h0]
theorem Y_shl {k' : IntKind} (hx : evT T x = .int k a) (hy : evT T y = .int k' b) (h0 : 0 ≤ b) : YV P S T ⟨dst, .binOp .shl t x y u, ty, pos, af, g⟩ (.int k (k.wrap (a * 2 ^ (min b.toNat k.bits)))) := by
  intro w _
  have h1 : ¬ b < 0 := by omega
  simp [execOp, hx, hy, binOp, Op.shift, run_eqGuard_int, h1]
theorem Y_shr {k' : IntKind} (hx : evT T x = .int k a) (hy : evT T y = .int k' b) (h0 : 0 ≤ b) : YV P S T ⟨dst, .binOp .shr t x y u, ty, pos, af, g⟩ (.int k (a.fdiv (2 ^ (min b.toNat k.bits)))) := by
  intro w _
  have h1 : ¬ b < 0 := by omega
  simp [execOp, hx, hy, binOp, Op.shift, run_eqGuard_int, h1]
def orI (k : IntKind) (a b : Int) : Int := k.wrap ((BitVec.ofInt k.bits a ||| BitVec.ofInt k.bits b).toNat : Int)
theorem Y_or (hx : evT T x = .int k a) (hy : evT T y = .int k b) : YV P S T ⟨dst, .binOp .or t x y u, ty, pos, af, g⟩ (.int k (orI k a b)) := by
  intro w _; simp [execOp, hx, hy, binOp, Op.intBits, run_eqGuard_int, orI]
theorem Y_lss (hx : evT T x = .int k a) (hy : evT T y = .int k b) : YV P S T ⟨dst, .binOp .lss t x y u, ty, pos, af, g⟩ (.bool (decide (a < b))) := by
  intro w _; simp [execOp, hx, hy, binOp, Op.intCmp, run_eqGuard_int]
theorem Y_leq (hx : evT T x = .int k a) (hy : evT T y = .int k b) : YV P S T ⟨dst, .binOp .leq t x y u, ty, pos, af, g⟩ (.bool (decide (a ≤ b))) := by
  intro w _; simp [execOp, hx, hy, binOp, Op.intCmp, run_eqGuard_int]
theorem Y_gtr (hx : evT T x = .int k a) (hy : evT T y = .int k b) : YV P S T ⟨dst, .binOp .gtr t x y u, ty, pos, af, g⟩ (.bool (decide (a > b))) := by
  intro w _; simp [execOp, hx, hy, binOp, Op.intCmp, run_eqGuard_int]
theorem Y_geq (hx : evT T x = .int k a) (hy : evT T y = .int k b) : YV P S T ⟨dst, .binOp .geq t x y u, ty, pos, af, g⟩ (.bool (decide (a ≥ b))) := by
  intro w _; simp [execOp, hx, hy, binOp, Op.intCmp, run_eqGuard_int]
theorem Y_eql (hx : evT T x = .int k a) (hy : evT T y = .int k b) : YV P S T ⟨dst, .binOp .eql t x y u, ty, pos, af, g⟩ (.bool (a == b)) := by
  intro w _; simp [execOp, hx, hy, binOp, Op.intCmp, run_eqGuard_int]
theorem Y_neq (hx : evT T x = .int k a) (hy : evT T y = .int k b) : YV P S T ⟨dst, .binOp .neq t x y u, ty, pos, af, g⟩ (.bool (a != b)) := by
  intro w _; simp [execOp, hx, hy, binOp, Op.intCmp, run_eqGuard_int]
end

section
variable {x y : Operand} {a b : ByteArray} {t u : TypeId}
theorem Y_cat (hx : evT T x = .string a) (hy : evT T y = .string b) (h : a.size + b.size ≤ 140737488351232) : YV P S T ⟨dst, .binOp .add t x y u, ty, pos, af, g⟩ (.string (a ++ b)) := by
  intro w _
  have h2 : IntKind.i64.max = 9223372036854775807 := by decide
  have h1 : ¬ ((a.size + b.size : Nat) : Int) > IntKind.i64.max := by rw [h2]; omega
  simp only [execOp, hx, hy, binOp, Op.stringOp, Sem.run_bind, run_eqGuard_str, if_neg h1]
  rfl
theorem Y_eqS (hx : evT T x = .string a) (hy : evT T y = .string b) : YV P S T ⟨dst, .binOp .eql t x y u, ty, pos, af, g⟩ (.bool (a.toList == b.toList)) := by
  intro w _; simp [execOp, hx, hy, binOp, Op.stringOp, run_eqGuard_str]
theorem Y_neS (hx : evT T x = .string a) (hy : evT T y = .string b) : YV P S T ⟨dst, .binOp .neq t x y u, ty, pos, af, g⟩ (.bool (!(a.toList == b.toList))) := by
  intro w _; simp [execOp, hx, hy, binOp, Op.stringOp, run_eqGuard_str]
end
section
variable {x y : Operand} {a b : Bool} {t u : TypeId}
theorem Y_eqB (hx : evT T x = .bool a) (hy : evT T y = .bool b) (ht : P.underlying t = some .bool) : YV P S T ⟨dst, .binOp .eql t x y u, ty, pos, af, g⟩ (.bool (a == b)) := by
  intro w _; simp [execOp, hx, hy, binOp, Sem.run_bind, run_eqGuard_bool, run_equal_bool w t a b ht]
theorem Y_neB (hx : evT T x = .bool a) (hy : evT T y = .bool b) (ht : P.underlying t = some .bool) : YV P S T ⟨dst, .binOp .neq t x y u, ty, pos, af, g⟩ (.bool (!(a == b))) := by
  intro w _; simp [execOp, hx, hy, binOp, Sem.run_bind, run_eqGuard_bool, run_equal_bool w t a b ht]
end

theorem Y_conv {s d : TypeId} {x : Operand} {k k' : IntKind} {a : Int} (hs : ∃ t, P.underlying s = some t) (hd : P.underlying d = some (.int k)) (hx : evT T x = .int k' a) : YV P S T ⟨dst, .convert s d x, ty, pos, af, g⟩ (.int k (k.wrap a)) := by
  intro w _
  obtain ⟨t, hs⟩ := hs
  cases t <;> simp [execOp, hx, convert, Sem.run_bind, run_underlying hs w, run_underlying hd w, Conv.intToInt]

theorem Y_nil {x : Operand} {a : Addr} (hx : evT T x = .pointer (some a)) : YV P S T ⟨dst, .nilCheck x, ty, pos, af, g⟩ (.pointer (some a)) := by
  intro w _; simp [execOp, hx]
theorem Y_extract {x : Operand} {i : Nat} {vs : Array Value} {v : Value} (hx : evT T x = .tuple vs) (hv : vs[i]? = some v) : YV P S T ⟨dst, .extract x i, ty, pos, af, g⟩ v := by
  intro w _; simp [execOp, hx, Instr.extract, hv]

/-! Lengths. -/
theorem Y_lenL {x : Operand} {t e : TypeId} {a : Option Addr} {n c : Nat} (ht : P.underlying t = some (.slice e)) (hx : evT T x = .slice a n c) : YV P S T ⟨dst, .call ⟨.builtin .len, #[x], #[t]⟩, ty, pos, af, g⟩ (.int .i64 n) := by
  intro w _
  simp [execOp, resolve, invoke, builtin, hx, Builtin.len_, Sem.run_bind, run_underlying ht w, goInt]
theorem Y_lenS {x : Operand} {t : TypeId} {s : ByteArray} (ht : P.underlying t = some .string) (hx : evT T x = .string s) : YV P S T ⟨dst, .call ⟨.builtin .len, #[x], #[t]⟩, ty, pos, af, g⟩ (.int .i64 s.size) := by
  intro w _
  simp [execOp, resolve, invoke, builtin, hx, Builtin.len_, Sem.run_bind, run_underlying ht w, goInt]
theorem Y_min {x y : Operand} {t t' : TypeId} {k k' : IntKind} {a b : Int} (hx : evT T x = .int k a) (hy : evT T y = .int k' b) : YV P S T ⟨dst, .call ⟨.builtin .min, #[x, y], #[t, t']⟩, ty, pos, af, g⟩ (.int k (min a b)) := by
  intro w _
  have : (if b < a then b else a) = min a b := by omega
  simp [execOp, resolve, invoke, builtin, hx, hy, Builtin.min_, Builtin.min2, List.foldlM, this]
theorem Y_max {x y : Operand} {t t' : TypeId} {k k' : IntKind} {a b : Int} (hx : evT T x = .int k a) (hy : evT T y = .int k' b) : YV P S T ⟨dst, .call ⟨.builtin .max, #[x, y], #[t, t']⟩, ty, pos, af, g⟩ (.int k (max a b)) := by
  intro w _
  have : (if a < b then b else a) = max a b := by omega
  simp [execOp, resolve, invoke, builtin, hx, hy, Builtin.max_, Builtin.max2, List.foldlM, this]

end
end Go.Proofs.Ytopgdemmdcipcaa
