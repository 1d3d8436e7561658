/- Plain words on the sum of layer 1: the table and its rounds; no program in sight. -/
import Derived.Test.YtbbjoahloghpkaaDoorKit
namespace Go.Proofs.YtbbjoahloghpkaaDoor
open Go

/-- One bit of a sum. -/
def stepN (n : Nat) : Nat := if n % 2 = 1 then (n / 2) ^^^ 3988292384 else n / 2
def iterN (n : Nat) : Nat → Nat
  | 0 => n
  | k + 1 => stepN (iterN n k)
/-- What a byte makes of a sum. -/
def tabN (i : Nat) : Nat := iterN i 8

theorem stepN_lt {n : Nat} (h : n < 4294967296) : stepN n < 4294967296 := by
  unfold stepN
  split
  · exact Nat.xor_lt_two_pow (n := 32) (by omega) (by omega)
  · omega
theorem iterN_lt {n : Nat} (h : n < 4294967296) : ∀ k, iterN n k < 4294967296
  | 0 => h
  | k + 1 => stepN_lt (iterN_lt h k)
theorem tabN_lt {i : Nat} (h : i < 256) : tabN i < 4294967296 := iterN_lt (by omega) 8

theorem and_one_u32 (n : Nat) (h : n < 4294967296) : bits .and .u32 (n : Int) 1 = ((n % 2 : Nat) : Int) := by
  have := u32_and_nat n 1 h (by decide)
  rw [show ((1 : Nat) : Int) = 1 from rfl] at this
  rw [this, Nat.and_one_is_mod]
theorem xor_poly_u32 (n : Nat) (h : n < 4294967296) : bits .xor .u32 (n : Int) 3988292384 = ((n ^^^ 3988292384 : Nat) : Int) :=
  u32_xor_nat n 3988292384 h (by decide)

/-- The table's cells when the first k are made. -/
def tabF (k i : Nat) : Value := if i < k then .int .u32 (tabN i : Nat) else .int .u32 0
def tabA (k : Nat) : Array Value := rowA 256 (tabF k)
theorem tabA_zero : tabA 0 = Array.replicate 256 (.int .u32 0) := by
  rw [rowA_rep]; exact rowA_ext (fun i _ => by simp [tabF])
theorem tabA_set (k : Nat) : (tabA k).setIfInBounds k (.int .u32 (tabN k : Nat)) = tabA (k + 1) := by
  unfold tabA
  rw [rowA_set]
  refine rowA_ext fun i _ => ?_
  unfold tabF
  by_cases e : i = k
  · rw [if_pos e, if_pos (by omega), e]
  · rw [if_neg e]
    by_cases e2 : i < k
    · rw [if_pos e2, if_pos (by omega)]
    · rw [if_neg e2, if_neg (by omega)]

/-- A sum goes on by one byte, by a text, by a row of texts. -/
def crcB (n : Nat) (b : UInt8) : Nat := tabN ((n % 256) ^^^ b.toNat) ^^^ (n / 256)
def crcS (n : Nat) (l : List UInt8) : Nat := l.foldl crcB n
def crcF (f : Nat → ByteArray) : Nat → Nat
  | 0 => 4294967295
  | k + 1 => crcS (crcF f k) (f k).data.toList
theorem crc_at {n : Nat} (b : UInt8) : (n % 256) ^^^ b.toNat < 256 := Nat.xor_lt_two_pow (n := 8) (by omega) (by have := b.toNat_lt; omega)
theorem crcB_lt {n : Nat} (h : n < 4294967296) (b : UInt8) : crcB n b < 4294967296 :=
  Nat.xor_lt_two_pow (n := 32) (tabN_lt (crc_at b)) (by omega)
theorem crcS_lt {n : Nat} (h : n < 4294967296) (l : List UInt8) : crcS n l < 4294967296 := by
  induction l generalizing n with
  | nil => exact h
  | cons b l ih => exact ih (crcB_lt h b)
theorem crcF_lt (f : Nat → ByteArray) : ∀ k, crcF f k < 4294967296
  | 0 => by unfold crcF; omega
  | k + 1 => crcS_lt (crcF_lt f k) _
theorem take_succ_bytes (s : ByteArray) (k : Nat) (h : k < s.size) : s.data.toList.take (k + 1) = s.data.toList.take k ++ [s[k]] := by
  rw [List.take_succ_eq_append_getElem (by simpa using h)]; rfl
theorem crcS_snoc (n : Nat) (s : ByteArray) (k : Nat) (h : k < s.size) : crcS n (s.data.toList.take (k + 1)) = crcB (crcS n (s.data.toList.take k)) s[k] := by
  rw [take_succ_bytes s k h]; unfold crcS; rw [List.foldl_append]; rfl
theorem crc_xor8 (n : Nat) (b : UInt8) : bits .xor .u8 ((n : Int) % 256) (b.toNat : Int) = (((n % 256) ^^^ b.toNat : Nat) : Int) := by
  have := u8_xor_nat (n % 256) b.toNat (by omega) b.toNat_lt
  simpa using this
theorem crc_xor32 (a n : Nat) (ha : a < 4294967296) (h : n < 4294967296) : bits .xor .u32 (a : Int) ((n : Int) / 256) = ((a ^^^ (n / 256) : Nat) : Int) := by
  have := u32_xor_nat a (n / 256) ha (by omega)
  simpa using this
theorem not_u32 (x : Nat) (h : x < 4294967296) : bits .xor .u32 IntKind.u32.max (x : Int) = ((4294967295 - x : Nat) : Int) := by
  have h1 := u32_xor_nat 4294967295 x (by decide) h
  have e : 4294967295 ^^^ x = 4294967295 - x := by
    apply Nat.eq_of_testBit_eq
    intro i
    have h2 := Nat.testBit_two_pow_sub_succ (n := 32) (x := x) (by omega) i
    have h3 := Nat.testBit_two_pow_sub_one 32 i
    rw [show (4294967295 : Nat) - x = 2 ^ 32 - (x + 1) by omega, Nat.testBit_xor, h2, show (4294967295 : Nat) = 2 ^ 32 - 1 by decide, h3]
    by_cases hi : i < 32
    · simp [hi]
    · have hx : x.testBit i = false := Nat.testBit_lt_two_pow (Nat.lt_of_lt_of_le h (by rw [show 4294967296 = 2 ^ 32 by decide]; exact Nat.pow_le_pow_right (by omega) (by omega)))
      simp [hi, hx]
  rw [← e, ← h1]; rfl

/-- The document's: a byte into the sum, then eight bits. -/
def rcrcB (n : Nat) (b : UInt8) : Nat := iterN (n ^^^ b.toNat) 8
def rcrcS (n : Nat) (l : List UInt8) : Nat := l.foldl rcrcB n
theorem rcrcB_lt {n : Nat} (h : n < 4294967296) (b : UInt8) : rcrcB n b < 4294967296 :=
  iterN_lt (Nat.xor_lt_two_pow (n := 32) (by omega) (by have := b.toNat_lt; omega)) 8
theorem rcrcS_lt {n : Nat} (h : n < 4294967296) (l : List UInt8) : rcrcS n l < 4294967296 := by
  induction l generalizing n with
  | nil => exact h
  | cons b l ih => exact ih (rcrcB_lt h b)
theorem rcrcS_snoc (n : Nat) (s : ByteArray) (k : Nat) (h : k < s.size) : rcrcS n (s.data.toList.take (k + 1)) = rcrcB (rcrcS n (s.data.toList.take k)) s[k] := by
  rw [take_succ_bytes s k h]; unfold rcrcS; rw [List.foldl_append]; rfl

end Go.Proofs.YtbbjoahloghpkaaDoor
