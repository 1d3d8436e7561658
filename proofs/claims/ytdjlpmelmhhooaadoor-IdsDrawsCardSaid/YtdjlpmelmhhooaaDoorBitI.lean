/- Plain words: the bits of int: numbers that don't go below nought. -/
import Derived.Test.YtdjlpmelmhhooaaDoorKit
namespace Go.Proofs.YtdjlpmelmhhooaaDoor
open Go

theorem ofInt_i64 (a : Nat) (ha : a < 9223372036854775808) : (BitVec.ofInt 64 (a : Int)).toNat = a := by
  rw [BitVec.ofInt_natCast, BitVec.toNat_ofNat]; exact Nat.mod_eq_of_lt (by omega)
theorem i64_and_nat (a b : Nat) (ha : a < 9223372036854775808) (hb : b < 9223372036854775808) : bits .and .i64 (a : Int) (b : Int) = ((a &&& b : Nat) : Int) := by
  have hx : a &&& b < 2 ^ 63 := Nat.and_lt_two_pow _ (by omega)
  show IntKind.i64.wrap ((BitVec.ofInt 64 (a : Int) &&& BitVec.ofInt 64 (b : Int)).toNat : Int) = _
  rw [BitVec.toNat_and, ofInt_i64 a ha, ofInt_i64 b hb, IntKind.wrap_i64]
  omega
theorem i64_or_nat (a b : Nat) (ha : a < 9223372036854775808) (hb : b < 9223372036854775808) : bits .or .i64 (a : Int) (b : Int) = ((a ||| b : Nat) : Int) := by
  have hx : a ||| b < 2 ^ 63 := Nat.or_lt_two_pow (by omega) (by omega)
  show IntKind.i64.wrap ((BitVec.ofInt 64 (a : Int) ||| BitVec.ofInt 64 (b : Int)).toNat : Int) = _
  rw [BitVec.toNat_or, ofInt_i64 a ha, ofInt_i64 b hb, IntKind.wrap_i64]
  omega
theorem i64_or_add (a j b : Nat) (hb : b < 2 ^ j) (h : a * 2 ^ j + b < 9223372036854775808) : bits .or .i64 ((a * 2 ^ j : Nat) : Int) (b : Int) = ((a * 2 ^ j + b : Nat) : Int) := by
  have h1 := i64_or_nat (a * 2 ^ j) b (by omega) (by omega)
  have e : a * 2 ^ j ||| b = a * 2 ^ j + b := by
    have := Nat.two_pow_add_eq_or_of_lt (i := j) (b := b) hb a
    rw [Nat.mul_comm]; exact this.symm
  rw [h1, e]
theorem i64_and_mask (a j : Nat) (ha : a < 9223372036854775808) (hj : j ≤ 62) : bits .and .i64 (a : Int) ((2 ^ j - 1 : Nat) : Int) = ((a % 2 ^ j : Nat) : Int) := by
  have hp : 2 ^ j ≤ 2 ^ 62 := Nat.pow_le_pow_right (by omega) hj
  rw [i64_and_nat a (2 ^ j - 1) ha (by omega), Nat.and_two_pow_sub_one_eq_mod]

end Go.Proofs.YtdjlpmelmhhooaaDoor
