/- Plain words on layer 5: roots of primes; no program in sight. -/
import Derived.Test.YtbbjoahloghpkaaDoorKit
namespace Go.Proofs.YtbbjoahloghpkaaDoor
open Go

/-- Is x, cubed, at most p times 2 to the 96th? As the program reckons it. -/
def cubeV (x p : Nat) : Bool :=
  let h := x * x / 18446744073709551616 * x + x * x % 18446744073709551616 * x / 18446744073709551616
  let l := x * x % 18446744073709551616 * x % 18446744073709551616
  decide (h < p * 4294967296) || (decide (h = p * 4294967296) && decide (l = 0))
def squareV (x p : Nat) : Bool :=
  let h := x * x / 18446744073709551616
  let l := x * x % 18446744073709551616
  decide (h < p) || (decide (h = p) && decide (l = 0))
/-- The bits below m of a root, the highest first, behind x. -/
def rootF (f : Nat → Nat → Bool) (p : Nat) : Nat → Nat → Nat
  | 0, x => x
  | m + 1, x => rootF f p m (if f (x + 2 ^ m) p then x + 2 ^ m else x)
def rootN (f : Nat → Nat → Bool) (p : Nat) : Nat := rootF f p 38 0 % 4294967296
/-- By trial. -/
def prime (n : Nat) : Bool := decide (2 ≤ n) && (List.range n).all fun e => decide (e < 2) || decide (n < e * e) || decide (n % e ≠ 0)
theorem prime_yes {n d : Nat} (h2 : 2 ≤ n) (hd : n < d * d) (h : ∀ e, 2 ≤ e → e < d → n % e ≠ 0) : prime n = true := by
  unfold prime
  rw [Bool.and_eq_true, decide_eq_true_iff, List.all_eq_true]
  refine ⟨h2, fun e he => ?_⟩
  by_cases h1 : e < 2
  · simp [h1]
  · by_cases h3 : e < d
    · have := h e (by omega) h3
      simp [this]
    · have : d * d ≤ e * e := Nat.mul_self_le_mul_self (by omega)
      have h5 : n < e * e := by omega
      simp [h5]
theorem prime_no {n d : Nat} (h2 : 2 ≤ d) (hd : d * d ≤ n) (h : n % d = 0) : prime n = false := by
  unfold prime
  rw [Bool.and_eq_false_iff]
  right
  rw [List.all_eq_false]
  have hdn : d < n := by
    have : d * 2 ≤ d * d := Nat.mul_le_mul_left d h2
    omega
  refine ⟨d, List.mem_range.2 hdn, ?_⟩
  simp only [Bool.or_eq_true, decide_eq_true_eq, not_or]
  exact ⟨⟨by omega, by omega⟩, by omega⟩
/-- The primes below a number. -/
def primesTo (n : Nat) : List Nat := (List.range n).filter prime
theorem primesTo_succ (n : Nat) : primesTo (n + 1) = primesTo n ++ (if prime n then [n] else []) := by
  unfold primesTo
  rw [List.range_succ, List.filter_append]
  congr 1
  simp only [List.filter_cons, List.filter_nil]
theorem primes_2 : primesTo 2 = [] := by decide +kernel
theorem primes_len : (primesTo 314).length = 65 := by decide +kernel
/-- The rounds' constants, as the document prints them. -/
def keyL : List Nat := [0x428a2f98, 0x71374491, 0xb5c0fbcf, 0xe9b5dba5, 0x3956c25b, 0x59f111f1, 0x923f82a4, 0xab1c5ed5,
  0xd807aa98, 0x12835b01, 0x243185be, 0x550c7dc3, 0x72be5d74, 0x80deb1fe, 0x9bdc06a7, 0xc19bf174,
  0xe49b69c1, 0xefbe4786, 0x0fc19dc6, 0x240ca1cc, 0x2de92c6f, 0x4a7484aa, 0x5cb0a9dc, 0x76f988da,
  0x983e5152, 0xa831c66d, 0xb00327c8, 0xbf597fc7, 0xc6e00bf3, 0xd5a79147, 0x06ca6351, 0x14292967,
  0x27b70a85, 0x2e1b2138, 0x4d2c6dfc, 0x53380d13, 0x650a7354, 0x766a0abb, 0x81c2c92e, 0x92722c85,
  0xa2bfe8a1, 0xa81a664b, 0xc24b8b70, 0xc76c51a3, 0xd192e819, 0xd6990624, 0xf40e3585, 0x106aa070,
  0x19a4c116, 0x1e376c08, 0x2748774c, 0x34b0bcb5, 0x391c0cb3, 0x4ed8aa4a, 0x5b9cca4f, 0x682e6ff3,
  0x748f82ee, 0x78a5636f, 0x84c87814, 0x8cc70208, 0x90befffa, 0xa4506ceb, 0xbef9a3f7, 0xc67178f2]
def startL : List Nat := [0x6a09e667, 0xbb67ae85, 0x3c6ef372, 0xa54ff53a, 0x510e527f, 0x9b05688c, 0x1f83d9ab, 0x5be0cd19]
set_option maxRecDepth 100000 in
theorem keys_are : ((primesTo 314).take 64).map (rootN cubeV) = keyL := by decide +kernel
set_option maxRecDepth 100000 in
theorem start_is : ((primesTo 314).take 8).map (rootN squareV) = startL := by decide +kernel
theorem rootF_lt (f : Nat → Nat → Bool) (p : Nat) : ∀ m x M, x % 2 ^ m = 0 → x < 2 ^ M → m ≤ M → rootF f p m x < 2 ^ M
  | 0, x, M, _, h, _ => h
  | m + 1, x, M, h0, h, hm => by
    rw [rootF]
    have hx : x % 2 ^ m = 0 := by
      have e : 2 ^ (m + 1) = 2 ^ m * 2 := Nat.pow_succ 2 m
      rw [e] at h0
      exact Nat.mod_eq_zero_of_dvd (Nat.dvd_trans ⟨2, rfl⟩ (Nat.dvd_of_mod_eq_zero h0))
    split
    · refine rootF_lt f p m _ M (by rw [Nat.add_mod_right]; exact hx) ?_ (by omega)
      obtain ⟨c, hc⟩ := Nat.dvd_of_mod_eq_zero h0
      obtain ⟨k, rfl⟩ : ∃ k, M = m + 1 + k := ⟨M - (m + 1), by omega⟩
      rw [Nat.pow_add] at h ⊢
      rw [hc] at h ⊢
      have hck : c < 2 ^ k := Nat.lt_of_mul_lt_mul_left h
      have hp : 0 < 2 ^ m := Nat.two_pow_pos m
      have e : 2 ^ (m + 1) = 2 ^ m * 2 := Nat.pow_succ 2 m
      have h1 : 2 ^ (m + 1) * c + 2 ^ (m + 1) ≤ 2 ^ (m + 1) * 2 ^ k := by
        rw [← Nat.mul_succ]; exact Nat.mul_le_mul_left _ hck
      omega
    · exact rootF_lt f p m x M hx h (by omega)
end Go.Proofs.YtbbjoahloghpkaaDoor
