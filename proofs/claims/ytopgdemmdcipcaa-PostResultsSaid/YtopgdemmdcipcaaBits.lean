/- The bit operations that read and write numbers byte by byte. Nothing of the program is named here. -/
import Derived.Test.YtopgdemmdcipcaaBase
namespace Go.Proofs.Ytopgdemmdcipcaa
open Go.RowKit

theorem i64_or_nat (a b : Nat) (ha : a < 4611686018427387904) (hb : b < 4611686018427387904) (h : a ||| b < 9223372036854775808) : bits .or .i64 (a : Int) (b : Int) = ((a ||| b : Nat) : Int) := by
  show IntKind.i64.wrap ((BitVec.ofInt 64 (a : Int) ||| BitVec.ofInt 64 (b : Int)).toNat : Int) = _
  rw [BitVec.ofInt_natCast, BitVec.ofInt_natCast, BitVec.toNat_or, BitVec.toNat_ofNat, BitVec.toNat_ofNat, Nat.mod_eq_of_lt (by omega), Nat.mod_eq_of_lt (by omega)]
  exact IntWalk.i64_in _ (by omega)

theorem or_bytes (a b : Nat) (ha : a < 4611686018427387904 / 256) (hb : b < 256) : bits .or .i64 ((a : Int) * 256) (b : Int) = (a : Int) * 256 + b := by
  have h := Nat.two_pow_add_eq_or_of_lt (i := 8) (b := b) (by omega) a
  have e : ((a * 256 : Nat) : Int) = (a : Int) * 256 := by omega
  rw [← e, i64_or_nat _ _ (by omega) (by omega) (by rw [Nat.mul_comm]; rw [show (256 : Nat) = 2 ^ 8 from rfl, ← h]; omega)]
  rw [Nat.mul_comm, show (256 : Nat) = 2 ^ 8 from rfl, ← h]
  omega

theorem or_bytes' (a b : Nat) (ha : a < 256) (hb : b < 256) : bits .or .i64 (wrap64 (wrap64 (a : Int) * 256)) (wrap64 (b : Int)) = (a : Int) * 256 + b := by
  rw [IntWalk.wrap64_in (a : Int) (by omega), IntWalk.wrap64_in (b : Int) (by omega), IntWalk.wrap64_in _ (by omega)]
  exact or_bytes a b (by omega) hb

end Go.Proofs.Ytopgdemmdcipcaa
