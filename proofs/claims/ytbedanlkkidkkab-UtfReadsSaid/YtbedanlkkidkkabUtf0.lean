/- Plain words on layer 4: code points and their bytes; no program in sight. -/
import Derived.Test.YtbedanlkkidkkabKit
namespace Go.Proofs.Ytbedanlkkidkkab
open Go

/-- Is it a code point? -/
def isPoint (r : Int) : Bool := decide (0 ≤ r) && decide (r ≤ 1114111) && (decide (r < 55296) || decide (57343 < r))
def sizeN (r : Int) : Nat := if r < 128 then 1 else if r < 2048 then 2 else if r < 65536 then 3 else 4
theorem sizeN_pos (r : Int) : 1 ≤ sizeN r ∧ sizeN r ≤ 4 := by unfold sizeN; split <;> (try split) <;> (try split) <;> omega
/-- How many bytes a first byte tells of, and the bits that it has itself. -/
def leadN (b : Nat) : Nat × Nat :=
  if b < 128 then (1, b) else if 192 ≤ b ∧ b < 224 then (2, b % 32) else if 224 ≤ b ∧ b < 240 then (3, b % 16) else if 240 ≤ b ∧ b < 248 then (4, b % 8) else (0, 0)
theorem leadN_le (b : Nat) : (leadN b).1 ≤ 4 := by
  unfold leadN
  by_cases h1 : b < 128
  · simp [h1]
  · by_cases h2 : 192 ≤ b ∧ b < 224
    · simp [h1, h2]
    · by_cases h3 : 224 ≤ b ∧ b < 240
      · simp [h1, h2, h3]
      · by_cases h4 : 240 ≤ b ∧ b < 248
        · simp [h1, h2, h3, h4]
        · simp [h1, h2, h3, h4]
theorem leadN_bits (b : Nat) : (leadN b).2 < 128 := by
  unfold leadN
  by_cases h1 : b < 128
  · simp [h1]
  · by_cases h2 : 192 ≤ b ∧ b < 224
    · simp only [if_neg h1, if_pos h2]; omega
    · by_cases h3 : 224 ≤ b ∧ b < 240
      · simp only [if_neg h1, if_neg h2, if_pos h3]; omega
      · by_cases h4 : 240 ≤ b ∧ b < 248
        · simp only [if_neg h1, if_neg h2, if_neg h3, if_pos h4]; omega
        · simp only [if_neg h1, if_neg h2, if_neg h3, if_neg h4]; omega
/-- The bits of so many bytes behind. -/
def tailN : List UInt8 → Nat → Nat → Option Nat
  | _, 0, r => some r
  | [], _ + 1, _ => none
  | c :: l, k + 1, r => if c.toNat / 64 = 2 then tailN l k (r * 64 + c.toNat % 64) else none
/-- A text's first code point, and its size. -/
def firstN (l : List UInt8) : Option (Nat × Nat) :=
  match l with
  | [] => none
  | b :: t =>
    if (leadN b.toNat).1 = 0 ∨ l.length < (leadN b.toNat).1 then none
    else match tailN t ((leadN b.toNat).1 - 1) (leadN b.toNat).2 with
      | none => none
      | some r => if isPoint r = true ∧ sizeN r = (leadN b.toNat).1 then some (r, (leadN b.toNat).1) else none
theorem firstN_size {l : List UInt8} {r n : Nat} (h : firstN l = some (r, n)) : 1 ≤ n ∧ n ≤ l.length ∧ n ≤ 4 ∧ isPoint r = true ∧ sizeN r = n := by
  cases l with
  | nil => cases h
  | cons b t =>
    unfold firstN at h
    simp only at h
    split at h
    · cases h
    · rename_i h1
      split at h
      · cases h
      · rename_i r' _
        split at h
        · rename_i h2
          simp only [Option.some.injEq, Prod.mk.injEq] at h
          obtain ⟨rfl, rfl⟩ := h
          have := leadN_le b.toNat
          exact ⟨by omega, by omega, this, h2.1, h2.2⟩
        · cases h
/-- All code points, with their places, up to the first byte that is wrong. -/
def runesF : Nat → Nat → List UInt8 → List (Nat × Nat)
  | 0, _, _ => []
  | k + 1, at', l => match firstN l with
    | none => []
    | some (r, n) => (at', r) :: runesF k (at' + n) (l.drop n)
def runesN (l : List UInt8) : List (Nat × Nat) := runesF l.length 0 l
/-- Where the code points end. -/
def endF : Nat → Nat → List UInt8 → Nat
  | 0, at', _ => at'
  | k + 1, at', l => match firstN l with
    | none => at'
    | some (_, n) => endF k (at' + n) (l.drop n)
def endN (l : List UInt8) : Nat := endF l.length 0 l

/-- A code point's bytes, the program's way: the least six bits behind, and so on. -/
def putN (r : Int) : List UInt8 :=
  if isPoint r then
    let n := r.toNat
    match sizeN r with
    | 1 => [UInt8.ofNat n]
    | 2 => [UInt8.ofNat (192 + n / 64), UInt8.ofNat (128 + n % 64)]
    | 3 => [UInt8.ofNat (224 + n / 4096), UInt8.ofNat (128 + n / 64 % 64), UInt8.ofNat (128 + n % 64)]
    | _ => [UInt8.ofNat (240 + n / 262144), UInt8.ofNat (128 + n / 4096 % 64), UInt8.ofNat (128 + n / 64 % 64), UInt8.ofNat (128 + n % 64)]
  else []
def putS (r : Int) : ByteArray := ⟨(putN r).toArray⟩

end Go.Proofs.Ytbedanlkkidkkab
