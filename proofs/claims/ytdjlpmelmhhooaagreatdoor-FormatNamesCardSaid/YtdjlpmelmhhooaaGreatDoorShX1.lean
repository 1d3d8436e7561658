/- Sums: plain words, roots, keys. -/
import Derived.Test.YtdjlpmelmhhooaaGreatDoorKit
import Derived.Shelf.Bits.Mul64
import Derived.Test.YtdjlpmelmhhooaaGreatDoorProg
import Derived.Test.YtdjlpmelmhhooaaGreatDoorLibA
import Derived.Scope
import Derived.OwnWalkIn
import Derived.TacticsInMore
import Derived.LoopNIn
import Derived.LoopIn
import Derived.Shelf.Abstract
import Derived.Shelf.RegionOpen
namespace Go.Proofs.YtdjlpmelmhhooaaGreatDoor
section
open Go

/-- Is x, cubed, at most p times 2 to the 96th? As the program reckons it. -/
def cubeV (x p : Nat) : Bool :=
  let h := x * x / 18446744073709551616 * x + x * x % 18446744073709551616 * x / 18446744073709551616
  let l := x * x % 18446744073709551616 * x % 18446744073709551616
  decide (h < p * 4294967296) || (decide (h = p * 4294967296) && decide (l = 0))
def squareV (x p : Nat) : Bool :=
  let h := x * x / 18446744073709551616
  let l := x * x % 18446744073709551616
  decide (h < p) || (decide (h = p) && decide (l = 0))
/-- The bits below m of a root, the highest first, behind x. -/
def rootF (f : Nat → Nat → Bool) (p : Nat) : Nat → Nat → Nat
  | 0, x => x
  | m + 1, x => rootF f p m (if f (x + 2 ^ m) p then x + 2 ^ m else x)
def rootN (f : Nat → Nat → Bool) (p : Nat) : Nat := rootF f p 38 0 % 4294967296
/-- By trial. -/
def prime (n : Nat) : Bool := decide (2 ≤ n) && (List.range n).all fun e => decide (e < 2) || decide (n < e * e) || decide (n % e ≠ 0)
theorem prime_yes {n d : Nat} (h2 : 2 ≤ n) (hd : n < d * d) (h : ∀ e, 2 ≤ e → e < d → n % e ≠ 0) : prime n = true := by
  unfold prime
  rw [Bool.and_eq_true, decide_eq_true_iff, List.all_eq_true]
  refine ⟨h2, fun e he => ?_⟩
  by_cases h1 : e < 2
  · simp [h1]
  · by_cases h3 : e < d
    · have := h e (by omega) h3
      simp [this]
    · have : d * d ≤ e * e := Nat.mul_self_le_mul_self (by omega)
      have h5 : n < e * e := by omega
      simp [h5]
theorem prime_no {n d : Nat} (h2 : 2 ≤ d) (hd : d * d ≤ n) (h : n % d = 0) : prime n = false := by
  unfold prime
  rw [Bool.and_eq_false_iff]
  right
  rw [List.all_eq_false]
  have hdn : d < n := by
    have : d * 2 ≤ d * d := Nat.mul_le_mul_left d h2
    omega
  refine ⟨d, List.mem_range.2 hdn, ?_⟩
  simp only [Bool.or_eq_true, decide_eq_true_eq, not_or]
  exact ⟨⟨by omega, by omega⟩, by omega⟩
/-- The primes below a number. -/
def primesTo (n : Nat) : List Nat := (List.range n).filter prime
theorem primesTo_succ (n : Nat) : primesTo (n + 1) = primesTo n ++ (if prime n then [n] else []) := by
  unfold primesTo
  rw [List.range_succ, List.filter_append]
  congr 1
  simp only [List.filter_cons, List.filter_nil]
theorem primes_2 : primesTo 2 = [] := by decide +kernel
theorem primes_len : (primesTo 314).length = 65 := by decide +kernel
/-- The rounds' constants, as the document prints them. -/
def keyL : List Nat := [0x428a2f98, 0x71374491, 0xb5c0fbcf, 0xe9b5dba5, 0x3956c25b, 0x59f111f1, 0x923f82a4, 0xab1c5ed5,
  0xd807aa98, 0x12835b01, 0x243185be, 0x550c7dc3, 0x72be5d74, 0x80deb1fe, 0x9bdc06a7, 0xc19bf174,
  0xe49b69c1, 0xefbe4786, 0x0fc19dc6, 0x240ca1cc, 0x2de92c6f, 0x4a7484aa, 0x5cb0a9dc, 0x76f988da,
  0x983e5152, 0xa831c66d, 0xb00327c8, 0xbf597fc7, 0xc6e00bf3, 0xd5a79147, 0x06ca6351, 0x14292967,
  0x27b70a85, 0x2e1b2138, 0x4d2c6dfc, 0x53380d13, 0x650a7354, 0x766a0abb, 0x81c2c92e, 0x92722c85,
  0xa2bfe8a1, 0xa81a664b, 0xc24b8b70, 0xc76c51a3, 0xd192e819, 0xd6990624, 0xf40e3585, 0x106aa070,
  0x19a4c116, 0x1e376c08, 0x2748774c, 0x34b0bcb5, 0x391c0cb3, 0x4ed8aa4a, 0x5b9cca4f, 0x682e6ff3,
  0x748f82ee, 0x78a5636f, 0x84c87814, 0x8cc70208, 0x90befffa, 0xa4506ceb, 0xbef9a3f7, 0xc67178f2]
def startL : List Nat := [0x6a09e667, 0xbb67ae85, 0x3c6ef372, 0xa54ff53a, 0x510e527f, 0x9b05688c, 0x1f83d9ab, 0x5be0cd19]
set_option maxRecDepth 100000 in
theorem keys_are : ((primesTo 314).take 64).map (rootN cubeV) = keyL := by decide +kernel
set_option maxRecDepth 100000 in
theorem start_is : ((primesTo 314).take 8).map (rootN squareV) = startL := by decide +kernel
theorem rootF_lt (f : Nat → Nat → Bool) (p : Nat) : ∀ m x M, x % 2 ^ m = 0 → x < 2 ^ M → m ≤ M → rootF f p m x < 2 ^ M
  | 0, x, M, _, h, _ => h
  | m + 1, x, M, h0, h, hm => by
    rw [rootF]
    have hx : x % 2 ^ m = 0 := by
      have e : 2 ^ (m + 1) = 2 ^ m * 2 := Nat.pow_succ 2 m
      rw [e] at h0
      exact Nat.mod_eq_zero_of_dvd (Nat.dvd_trans ⟨2, rfl⟩ (Nat.dvd_of_mod_eq_zero h0))
    split
    · refine rootF_lt f p m _ M (by rw [Nat.add_mod_right]; exact hx) ?_ (by omega)
      obtain ⟨c, hc⟩ := Nat.dvd_of_mod_eq_zero h0
      obtain ⟨k, rfl⟩ : ∃ k, M = m + 1 + k := ⟨M - (m + 1), by omega⟩
      rw [Nat.pow_add] at h ⊢
      rw [hc] at h ⊢
      have hck : c < 2 ^ k := Nat.lt_of_mul_lt_mul_left h
      have hp : 0 < 2 ^ m := Nat.two_pow_pos m
      have e : 2 ^ (m + 1) = 2 ^ m * 2 := Nat.pow_succ 2 m
      have h1 : 2 ^ (m + 1) * c + 2 ^ (m + 1) ≤ 2 ^ (m + 1) * 2 ^ k := by
        rw [← Nat.mul_succ]; exact Nat.mul_le_mul_left _ hck
      omega
    · exact rootF_lt f p m x M hx h (by omega)
end
section
open Go Go.RowKit Go.Lib Go.Proofs Go.Shelf
def shm_lays264_ren : Go.Shelf.Ren := ⟨fun | 264 => 141 | n => n, fun | 53 => 140 | 46 => 92 | n => n, fun | n => n⟩
theorem shm_lays264 : Go.Proofs.Lays.n264 Tryz.prog shm_lays264_ren := {
  mixed := by kernel_rfl
  f264 := Tryz.func141.trans (congrArg some (by kernel_rfl))
  t46 := Tryz.underlying92
  a46 := Tryz.isAgg92
  z46 := Tryz.sizeOf92
  v46 := Tryz.zeroValue92
  t53 := Tryz.underlying140
  a53 := Tryz.isAgg140
  z53 := Tryz.sizeOf140
  v53 := Tryz.zeroValue140 }
theorem shm_bits_Mul64 (x y : Nat) (hx : x < 18446744073709551616) (hy : y < 18446744073709551616) (w : World) :
    Calls Tryz.prog 141 #[.int .u64 x, .int .u64 y] w fun e w' => e = .returned (.tuple #[.int .u64 ((x * y / 18446744073709551616 : Nat) : Int), .int .u64 ((x * y % 18446744073709551616 : Nat) : Int)]) ∧ w' = w := Any.bits_Mul64 shm_lays264 x y hx hy w
end
section
open Go Go.RowKit
set_option linter.unusedSimpArgs false

theorem mul64_eq (x y : Nat) (hx : x < 18446744073709551616) (hy : y < 18446744073709551616) (w : World) : Calls Tryz.prog 141 #[.int .u64 x, .int .u64 y] w fun e w' =>
    e = .returned (.tuple #[.int .u64 ((x * y / 18446744073709551616 : Nat) : Int), .int .u64 ((x * y % 18446744073709551616 : Nat) : Int)]) ∧ w = w' :=
  (shm_bits_Mul64 x y hx hy w).mono fun _ _ ⟨h1, h2⟩ => ⟨h1, h2.symm⟩
set_option maxRecDepth 10000000 in
set_option maxHeartbeats 2000000 in
theorem cube_any (x p : Nat) (hx : x < 274877906944) (hp : p < 65536) (w : World) : Calls Tryz.prog 197 #[.int .u64 x, .int .u64 p] w fun e w' => e = .returned (.bool (cubeV x p)) ∧ w = w' := by
  have hsq : x * x < 75557863725914323419136 := by
    have := Nat.mul_lt_mul'' hx hx
    simpa using this
  obtain ⟨h, hh⟩ : ∃ h, h = x * x / 18446744073709551616 := ⟨_, rfl⟩
  obtain ⟨l, hl⟩ : ∃ l, l = x * x % 18446744073709551616 := ⟨_, rfl⟩
  have hh1 : h < 4096 := by omega
  have hl1 : l < 18446744073709551616 := by omega
  have hlx : l * x < 5070602400912917605986812821504 := by
    have := Nat.mul_lt_mul'' hl1 hx
    simpa using this
  obtain ⟨h2, hh2⟩ : ∃ h2, h2 = l * x / 18446744073709551616 := ⟨_, rfl⟩
  obtain ⟨l2, hl2⟩ : ∃ l2, l2 = l * x % 18446744073709551616 := ⟨_, rfl⟩
  have hh21 : h2 < 274877906944 := by omega
  have M1 := fun w => mul64_eq x x (by omega) (by omega) w
  have M2 := fun w => mul64_eq l x hl1 (by omega) w
  rw [← hh, ← hl] at M1
  rw [← hh2, ← hl2] at M2
  have hhx : h * x < 1125899906842624 := by
    have := Nat.mul_lt_mul'' hh1 hx
    simpa using this
  obtain ⟨hx', hhx'⟩ : ∃ hx', hx' = h * x := ⟨_, rfl⟩
  have hmul : (h : Int) * (x : Int) = (hx' : Int) := by rw [hhx']; simp
  rw [← hhx'] at hhx
  have hxi : (hx' : Int) < 1125899906842624 := by omega
  have hv : cubeV x p = (decide (hx' + h2 < p * 4294967296) || (decide (hx' + h2 = p * 4294967296) && decide (l2 = 0))) := by
    unfold cubeV; simp only [← hh, ← hl, ← hh2, ← hl2, ← hhx']
  rw [hv]
  have hpi : (p : Int) < 65536 := by omega
  have h2i : (h2 : Int) < 274877906944 := by omega
  replace M1 := hid M1
  replace M2 := hid M2
  clear hh hl hh2 hl2 hhx' hsq hlx hv
  by_cases c1 : hx' + h2 < p * 4294967296
  · have d1 : decide ((hx' : Int) + (h2 : Int) < (p : Int) * 4294967296) = true := by rw [decide_eq_true_iff]; omega
    rw [decide_eq_true c1, Bool.true_or]
    clear c1
    go_enter Tryz.func197, Tryz.ntmps197
    go_wp2_with (first
      | (go_at_call 141; with_reducible refine (M1.out _).mono ?_; rintro e w' ⟨rfl, rfl⟩)
      | (go_at_call 141; with_reducible refine (M2.out _).mono ?_; rintro e w' ⟨rfl, rfl⟩))
    go_ret
    exact ⟨rfl, rfl⟩
  · have d1 : decide ((hx' : Int) + (h2 : Int) < (p : Int) * 4294967296) = false := by rw [decide_eq_false_iff_not]; omega
    rw [decide_eq_false c1, Bool.false_or]
    clear c1
    by_cases c2 : hx' + h2 = p * 4294967296
    · have d2 : (((hx' : Int) + (h2 : Int)) == (p : Int) * 4294967296) = true := by rw [beq_iff_eq]; omega
      rw [decide_eq_true c2, Bool.true_and]
      clear c2
      by_cases c3 : l2 = 0
      · have d3 : ((l2 : Int) == 0) = true := by rw [beq_iff_eq]; omega
        rw [decide_eq_true c3]
        clear c3
        go_enter Tryz.func197, Tryz.ntmps197
        go_wp2_with (first
          | (go_at_call 141; with_reducible refine (M1.out _).mono ?_; rintro e w' ⟨rfl, rfl⟩)
          | (go_at_call 141; with_reducible refine (M2.out _).mono ?_; rintro e w' ⟨rfl, rfl⟩))
        go_ret
        exact ⟨rfl, rfl⟩
      · have d3 : ((l2 : Int) == 0) = false := by rw [beq_eq_false_iff_ne]; omega
        rw [decide_eq_false c3]
        clear c3
        go_enter Tryz.func197, Tryz.ntmps197
        go_wp2_with (first
          | (go_at_call 141; with_reducible refine (M1.out _).mono ?_; rintro e w' ⟨rfl, rfl⟩)
          | (go_at_call 141; with_reducible refine (M2.out _).mono ?_; rintro e w' ⟨rfl, rfl⟩))
        go_ret
        exact ⟨rfl, rfl⟩
    · have d2 : (((hx' : Int) + (h2 : Int)) == (p : Int) * 4294967296) = false := by rw [beq_eq_false_iff_ne]; omega
      rw [decide_eq_false c2, Bool.false_and]
      clear c2
      go_enter Tryz.func197, Tryz.ntmps197
      go_wp2_with (first
        | (go_at_call 141; with_reducible refine (M1.out _).mono ?_; rintro e w' ⟨rfl, rfl⟩)
        | (go_at_call 141; with_reducible refine (M2.out _).mono ?_; rintro e w' ⟨rfl, rfl⟩))
      go_ret
      exact ⟨rfl, rfl⟩

set_option maxRecDepth 10000000 in
set_option maxHeartbeats 2000000 in
theorem square_any (x p : Nat) (hx : x < 274877906944) (hp : p < 65536) (w : World) : Calls Tryz.prog 196 #[.int .u64 x, .int .u64 p] w fun e w' => e = .returned (.bool (squareV x p)) ∧ w = w' := by
  have hsq : x * x < 75557863725914323419136 := by
    have := Nat.mul_lt_mul'' hx hx
    simpa using this
  obtain ⟨h, hh⟩ : ∃ h, h = x * x / 18446744073709551616 := ⟨_, rfl⟩
  obtain ⟨l, hl⟩ : ∃ l, l = x * x % 18446744073709551616 := ⟨_, rfl⟩
  have M1 := fun w => mul64_eq x x (by omega) (by omega) w
  rw [← hh, ← hl] at M1
  have hv : squareV x p = (decide (h < p) || (decide (h = p) && decide (l = 0))) := by
    unfold squareV; simp only [← hh, ← hl]
  rw [hv]
  replace M1 := hid M1
  clear hh hl hsq hv
  by_cases c1 : h < p
  · have d1 : decide (h < p) = true := decide_eq_true c1
    rw [d1, Bool.true_or]
    clear c1
    go_enter Tryz.func196, Tryz.ntmps196
    go_wp2_with (go_at_call 141; refine (M1.out _).mono ?_; rintro e w' ⟨rfl, rfl⟩)
    go_ret
    exact ⟨rfl, rfl⟩
  · have d1 : decide (h < p) = false := decide_eq_false c1
    rw [d1, Bool.false_or]
    clear c1
    by_cases c2 : h = p
    · have d2 : ((h : Int) == (p : Int)) = true := by rw [beq_iff_eq]; omega
      have d2' : (h == p) = true := by rw [beq_iff_eq]; omega
      rw [decide_eq_true c2, Bool.true_and]
      clear c2
      by_cases c3 : l = 0
      · have d3 : ((l : Int) == 0) = true := by rw [beq_iff_eq]; omega
        rw [decide_eq_true c3]
        clear c3
        go_enter Tryz.func196, Tryz.ntmps196
        go_wp2_with (go_at_call 141; refine (M1.out _).mono ?_; rintro e w' ⟨rfl, rfl⟩)
        go_ret
        exact ⟨rfl, rfl⟩
      · have d3 : ((l : Int) == 0) = false := by rw [beq_eq_false_iff_ne]; omega
        rw [decide_eq_false c3]
        clear c3
        go_enter Tryz.func196, Tryz.ntmps196
        go_wp2_with (go_at_call 141; refine (M1.out _).mono ?_; rintro e w' ⟨rfl, rfl⟩)
        go_ret
        exact ⟨rfl, rfl⟩
    · have d2 : ((h : Int) == (p : Int)) = false := by rw [beq_eq_false_iff_ne]; omega
      have d2' : (h == p) = false := by rw [beq_eq_false_iff_ne]; omega
      rw [decide_eq_false c2, Bool.false_and]
      clear c2
      go_enter Tryz.func196, Tryz.ntmps196
      go_wp2_with (go_at_call 141; refine (M1.out _).mono ?_; rintro e w' ⟨rfl, rfl⟩)
      go_ret
      exact ⟨rfl, rfl⟩
end
section
open Go Go.RowKit
set_option linter.unusedSimpArgs false

theorem or_bit (x m : Nat) (h : x % 2 ^ (m + 1) = 0) (hx : x < 274877906944) (hm : m ≤ 37) : bits .or .u64 (x : Int) ((2 ^ m : Nat) : Int) = ((x + 2 ^ m : Nat) : Int) := by
  have h1 : (2 : Nat) ^ m ≤ 2 ^ 37 := Nat.pow_le_pow_right (by omega) hm
  have h2 := u64_or_nat x (2 ^ m) (by omega) (by omega)
  rw [h2]
  obtain ⟨c, hc⟩ := Nat.dvd_of_mod_eq_zero h
  have h3 : 2 ^ m < 2 ^ (m + 1) := Nat.pow_lt_pow_right (by omega) (by omega)
  have := Nat.two_pow_add_eq_or_of_lt (i := m + 1) (b := 2 ^ m) h3 c
  rw [hc, ← this]
theorem pow_form0 (m : Nat) (hm : m ≤ 37) : (2 : Int) ^ m % 18446744073709551616 = ((2 ^ m : Nat) : Int) := by
  have h1 : (2 : Nat) ^ m ≤ 2 ^ 37 := Nat.pow_le_pow_right (by omega) hm
  have e : ((2 : Int) ^ m) = ((2 ^ m : Nat) : Int) := by simp
  rw [e]
  generalize 2 ^ m = q at *
  omega

theorem pow_form (m : Nat) (hm : m ≤ 37) : IntKind.u64.wrap ((2 : Int) ^ m) = ((2 ^ m : Nat) : Int) := by
  rw [IntKind.wrap_u64]; exact pow_form0 m hm
theorem root_facts (m x : Nat) (h0 : x % 2 ^ (m + 1) = 0) (hx : x < 274877906944) (hm : m ≤ 37) : x + 2 ^ m < 274877906944 ∧ (x + 2 ^ m) % 2 ^ m = 0 ∧ x % 2 ^ m = 0 ∧ 2 ^ m ≤ 137438953472 := by
  have h2m : 2 ^ m ≤ 2 ^ 37 := Nat.pow_le_pow_right (by decide) hm
  have e37 : (2 : Nat) ^ 37 = 137438953472 := by decide
  have h0a : (x + 2 ^ m) % 2 ^ m = 0 := by
    rw [Nat.add_mod_right]
    exact Nat.mod_eq_zero_of_dvd (Nat.dvd_trans ⟨2, Nat.pow_succ 2 m⟩ (Nat.dvd_of_mod_eq_zero h0))
  have h0b : x % 2 ^ m = 0 := by rwa [Nat.add_mod_right] at h0a
  refine ⟨?_, h0a, h0b, by rw [← e37]; exact h2m⟩
  obtain ⟨c, hc⟩ := Nat.dvd_of_mod_eq_zero h0
  obtain ⟨j, hj⟩ : ∃ j, 38 = m + 1 + j := ⟨37 - m, by omega⟩
  have e38 : (274877906944 : Nat) = 2 ^ (m + 1) * 2 ^ j := by rw [← Nat.pow_add, ← hj]
  rw [e38] at hx ⊢
  rw [hc] at hx ⊢
  have hcj : c < 2 ^ j := Nat.lt_of_mul_lt_mul_left hx
  have h1 : 2 ^ (m + 1) * c + 2 ^ (m + 1) ≤ 2 ^ (m + 1) * 2 ^ j := by rw [← Nat.mul_succ]; exact Nat.mul_le_mul_left _ hcj
  have hp0 : 0 < 2 ^ m := Nat.two_pow_pos m
  have e : 2 ^ (m + 1) = 2 ^ m * 2 := Nat.pow_succ 2 m
  generalize 2 ^ (m + 1) * c = A at *
  generalize 2 ^ (m + 1) * 2 ^ j = B at *
  generalize 2 ^ m = q at *
  omega

theorem root_step (f : Nat → Nat → Bool) (p m x R : Nat) (hr : rootF f p (m + 1) x = R) (h0 : x % 2 ^ (m + 1) = 0) (hx : x < 274877906944) (hm : m ≤ 37) :
    ∃ q y : Nat, y < 274877906944 ∧ q ≤ 137438953472 ∧ bits .or .u64 (x : Int) (q : Int) = (y : Int) ∧ IntKind.u64.wrap ((2 : Int) ^ m) = (q : Int) ∧ y % 2 ^ m = 0 ∧ x % 2 ^ m = 0 ∧ rootF f p m (if f y p then y else x) = R := by
  obtain ⟨hlt, h0a, h0b, h2m⟩ := root_facts m x h0 hx hm
  exact ⟨2 ^ m, x + 2 ^ m, hlt, h2m, or_bit x m h0 hx hm, pow_form m hm, h0a, h0b, hr⟩

set_option maxRecDepth 10000000 in
set_option maxHeartbeats 2000000 in
theorem root_cube (p : Nat) (hp : p < 65536) (w : World) : Calls Tryz.prog 195 #[.int .u64 p, .func (.func 197) #[] #[]] w fun e w' => e = .returned (.int .u32 (rootN cubeV p : Nat)) ∧ w = w' := by
  obtain ⟨R, hR⟩ : ∃ R, R = rootF cubeV p 38 0 := ⟨_, rfl⟩
  have hN : rootN cubeV p = R % 4294967296 := by rw [hR]; rfl
  rw [hN]
  replace hR := hid hR
  clear hN
  go_enter Tryz.func195, Tryz.ntmps195
  go_wp2
  go_loop [5, 6] (fun v b => ∃ (m x : Nat), b = .int .i64 ((m : Int) - 1) ∧ m ≤ 38 ∧ v = .int .u64 x ∧ Hid (rootF cubeV p m x = R) ∧ Hid (x % 2 ^ m = 0) ∧ x < 274877906944) (fun _ b => (intOf b + 1).toNat)
  case atStart => exact ⟨38, 0, rfl, by omega, rfl, hid hR.out.symm, hid (by simp), by omega⟩
  case round =>
    obtain ⟨m, x, rfl, hm, rfl, hr, h0, hx⟩ := hrel
    by_cases hmz : m = 0
    · subst hmz
      have hres : R = x := by rw [← hr.out]; rfl
      have hxm : ((x : Int) % 4294967296) = ((x % 4294967296 : Nat) : Int) := by simp
      replace hres := hid hres
      go_wp2
      go_ret
      exact ⟨ret_int (by rw [hres.out]; simp), rfl⟩
    · obtain ⟨m, rfl⟩ : ∃ k, m = k + 1 := ⟨m - 1, by omega⟩
      have hmi : ((m + 1 : Nat) : Int) - 1 = (m : Int) := by omega
      have hm37 : m ≤ 37 := by omega
      obtain ⟨q, y, hlt, h2m, hor, hpf, h0a, h0b, hr2⟩ := root_step cubeV p m x R hr.out h0.out hx hm37
      have LF := fun w => cube_any y p hlt hp w
      have hm38 : (m : Int) ≤ 37 := by omega
      rw [hmi]
      replace hr2 := hid hr2
      replace h0a := hid h0a
      replace h0b := hid h0b
      clear hr h0 hmz hmi
      cases hf : cubeV y p with
      | true =>
        rw [hf] at LF hr2
        replace LF := hid LF
        rw [if_pos rfl] at hr2
        clear hf
        go_wp2_with (go_at_call 197; with_reducible refine (LF.out _).mono ?_; rintro e w' ⟨rfl, rfl⟩)
        go_round
        case rel => exact ⟨m, y, rfl, by omega, rfl, hr2, h0a, hlt⟩
        case measure => simp [intOf] <;> omega
      | false =>
        rw [hf] at LF hr2
        replace LF := hid LF
        rw [if_neg (by decide)] at hr2
        clear hf
        go_wp2_with (go_at_call 197; with_reducible refine (LF.out _).mono ?_; rintro e w' ⟨rfl, rfl⟩)
        go_round
        case rel => exact ⟨m, x, rfl, by omega, rfl, hr2, h0b, hx⟩
        case measure => simp [intOf] <;> omega

set_option maxRecDepth 10000000 in
set_option maxHeartbeats 2000000 in
theorem root_square (p : Nat) (hp : p < 65536) (w : World) : Calls Tryz.prog 195 #[.int .u64 p, .func (.func 196) #[] #[]] w fun e w' => e = .returned (.int .u32 (rootN squareV p : Nat)) ∧ w = w' := by
  obtain ⟨R, hR⟩ : ∃ R, R = rootF squareV p 38 0 := ⟨_, rfl⟩
  have hN : rootN squareV p = R % 4294967296 := by rw [hR]; rfl
  rw [hN]
  replace hR := hid hR
  clear hN
  go_enter Tryz.func195, Tryz.ntmps195
  go_wp2
  go_loop [5, 6] (fun v b => ∃ (m x : Nat), b = .int .i64 ((m : Int) - 1) ∧ m ≤ 38 ∧ v = .int .u64 x ∧ Hid (rootF squareV p m x = R) ∧ Hid (x % 2 ^ m = 0) ∧ x < 274877906944) (fun _ b => (intOf b + 1).toNat)
  case atStart => exact ⟨38, 0, rfl, by omega, rfl, hid hR.out.symm, hid (by simp), by omega⟩
  case round =>
    obtain ⟨m, x, rfl, hm, rfl, hr, h0, hx⟩ := hrel
    by_cases hmz : m = 0
    · subst hmz
      have hres : R = x := by rw [← hr.out]; rfl
      have hxm : ((x : Int) % 4294967296) = ((x % 4294967296 : Nat) : Int) := by simp
      replace hres := hid hres
      go_wp2
      go_ret
      exact ⟨ret_int (by rw [hres.out]; simp), rfl⟩
    · obtain ⟨m, rfl⟩ : ∃ k, m = k + 1 := ⟨m - 1, by omega⟩
      have hmi : ((m + 1 : Nat) : Int) - 1 = (m : Int) := by omega
      have hm37 : m ≤ 37 := by omega
      obtain ⟨q, y, hlt, h2m, hor, hpf, h0a, h0b, hr2⟩ := root_step squareV p m x R hr.out h0.out hx hm37
      have LF := fun w => square_any y p hlt hp w
      have hm38 : (m : Int) ≤ 37 := by omega
      rw [hmi]
      replace hr2 := hid hr2
      replace h0a := hid h0a
      replace h0b := hid h0b
      clear hr h0 hmz hmi
      cases hf : squareV y p with
      | true =>
        rw [hf] at LF hr2
        replace LF := hid LF
        rw [if_pos rfl] at hr2
        clear hf
        go_wp2_with (go_at_call 196; with_reducible refine (LF.out _).mono ?_; rintro e w' ⟨rfl, rfl⟩)
        go_round
        case rel => exact ⟨m, y, rfl, by omega, rfl, hr2, h0a, hlt⟩
        case measure => simp [intOf] <;> omega
      | false =>
        rw [hf] at LF hr2
        replace LF := hid LF
        rw [if_neg (by decide)] at hr2
        clear hf
        go_wp2_with (go_at_call 196; with_reducible refine (LF.out _).mono ?_; rintro e w' ⟨rfl, rfl⟩)
        go_round
        case rel => exact ⟨m, x, rfl, by omega, rfl, hr2, h0b, hx⟩
        case measure => simp [intOf] <;> omega
end
section
open Go Go.RowKit
set_option linter.unusedSimpArgs false
attribute [local go_sem] Oper.semAt_some

theorem wpIn_scope0 {P : Program} {c : Code} {Q : Exit → Act → World → Prop} {a : Act} {w : World} (h : c.wpIn Fence.wide 0 P (Exit.noGoto Q) a w) : (Code.scope c).wpIn Fence.wide 0 P Q a w :=
  (wpIn_wide (n := 0)).2 (wp_scope_straight ((wpIn_wide (n := 0)).1 h))
def encN (p : Nat) : Array Value := #[.int .u64 (p : Nat)]
theorem primes_make (w : World) : Calls Tryz.prog 194 #[] w fun e w' => e = .returned (.func (.func 205) #[] #[]) ∧ w = w' := by
  go_enter Tryz.func194, Tryz.ntmps194
  go_wp2
  go_ret
  exact ⟨rfl, rfl⟩
set_option maxRecDepth 1000000 in
set_option maxHeartbeats 4000000 in
theorem primes_on (w : World) : IterTo Tryz.prog 205 #[] encN (fun _ => False) (fun _ => False) (primesTo 314) w := by
  intro l J Jx W hb hno hJ hJx hY h0
  refine callsIn_of_wp Tryz.func205 rfl trivial ?_
  simp only [Tryz.ntmps205, List.size_toArray, List.length_cons, List.length_nil, Nat.reduceAdd, Nat.reduceSub, Array.replicate_succ, Array.replicate_zero, List.push_toArray, List.append_toArray, List.nil_append, List.cons_append]
  gi_wp2
  refine wpIn_scope0 ?_
  refine wpIn_seq ?_
  refine wpIn_label ?_
  gi_wp2
  gi_loopw [2, 3] (fun nv _ wr => ∃ n : Nat, nv = .int .u64 n ∧ 2 ≤ n ∧ n ≤ 314 ∧ Hid (J (primesTo n) wr) ∧ W.heap.size ≤ wr.heap.size) (fun nv _ _ => 314 - (intOf nv).toNat)
  case atStart => exact ⟨2, rfl, by omega, by omega, hid (by rw [primes_2]; exact h0), Nat.le_refl _⟩
  case round =>
    obtain ⟨n, rfl, hn2, hn314, hj, hsz⟩ := hrel
    by_cases hn : n = 314
    · subst hn; exact (hno _ hj.out).elim
    · have hlt : n ≤ 313 := by omega
      have hlti : (n : Int) ≤ 313 := by omega
      have hn2i : (2 : Int) ≤ (n : Int) := by omega
      gi_wp2
      gi_loop [3] (fun dv => ∃ d : Nat, dv = .int .u64 d ∧ 2 ≤ d ∧ d ≤ n ∧ Hid (∀ e, 2 ≤ e → e < d → n % e ≠ 0)) (fun dv => 400 - (intOf dv).toNat)
      case atStart => exact ⟨2, rfl, by omega, hn2, hid (fun e h1 h2 => by omega)⟩
      case round =>
        obtain ⟨d, rfl, hd2, hdn, hall⟩ := hrel
        obtain ⟨dd, hdd0⟩ : ∃ dd, dd = d * d := ⟨_, rfl⟩
        have hdd : (d : Int) * (d : Int) = (dd : Int) := by rw [hdd0]; simp
        have hdb : dd ≤ 313 * 313 := by rw [hdd0]; exact Nat.mul_le_mul (by omega) (by omega)
        have hddi : (dd : Int) ≤ 97969 := by omega
        have hd0i : (0 : Int) < (d : Int) := by omega
        have hdi : (d : Int) ≤ 313 := by omega
        by_cases hle : dd ≤ n
        · have b1 : decide ((dd : Int) ≤ (n : Int)) = true := by rw [decide_eq_true_iff]; omega
          have b1' : decide (dd ≤ n) = true := decide_eq_true hle
          obtain ⟨r, hr0⟩ : ∃ r, r = n % d := ⟨_, rfl⟩
          have hr : (n : Int) % (d : Int) = (r : Int) := by rw [hr0]; simp
          have hdn : d < n := by
            have : d * 2 ≤ d * d := Nat.mul_le_mul_left d hd2
            omega
          by_cases hz : r = 0
          · have b2 : ((r : Int) == 0) = true := by rw [beq_iff_eq]; omega
            have hnp : primesTo (n + 1) = primesTo n := by
              rw [primesTo_succ, prime_no hd2 (by rw [← hdd0]; exact hle) (by rw [← hr0]; exact hz), if_neg (by decide), List.append_nil]
            replace hnp := hid hnp
            clear hdd0 hr0 hz hle
            gi_wp2
            go_roundw
            case rel => exact ⟨n + 1, by go_num, by omega, by omega, by rw [hnp.out]; exact hj, hsz⟩
            case measure => simp [intOf] <;> omega
          · have b2 : ((r : Int) == 0) = false := by rw [beq_eq_false_iff_ne]; omega
            have hall2 : ∀ e, 2 ≤ e → e < d + 1 → n % e ≠ 0 := fun e h1 h2 => by
              by_cases e1 : e = d
              · rw [e1, ← hr0]; exact hz
              · exact hall.out e h1 (by omega)
            replace hall2 := hid hall2
            clear hdd0 hr0 hz hle
            gi_wp2
            go_round
            case rel => exact ⟨d + 1, by go_num, by omega, by omega, hall2⟩
            case measure => simp [intOf] <;> omega
        · have b1 : decide ((dd : Int) ≤ (n : Int)) = false := by rw [decide_eq_false_iff_not]; omega
          have b1' : decide (dd ≤ n) = false := decide_eq_false hle
          have hpr : primesTo (n + 1) = primesTo n ++ [n] := by
            rw [primesTo_succ, prime_yes hn2 (by rw [← hdd0]; omega) hall.out, if_pos rfl]
          have hxs : ∃ post, primesTo 314 = primesTo n ++ n :: post := by
            obtain ⟨k, hk⟩ : ∃ k, 314 = n + 1 + k := ⟨313 - n, by omega⟩
            have key : ∀ k, ∃ post, primesTo (n + 1 + k) = primesTo (n + 1) ++ post := by
              intro k
              induction k with
              | zero => exact ⟨[], by simp⟩
              | succ k ih => obtain ⟨p, hp⟩ := ih; exact ⟨_, by rw [← Nat.add_assoc, primesTo_succ, hp, List.append_assoc]⟩
            obtain ⟨post, hp⟩ := key k
            exact ⟨post, by rw [hk, hp, hpr, List.append_assoc]; rfl⟩
          obtain ⟨post, hxs⟩ := hxs
          obtain ⟨fn, tmps, assign, body, hy, hR⟩ := hY (primesTo n) n post wr hxs hsz hj.out
          simp only [encN] at hy
          replace hpr := hid hpr
          replace hxs := hid hxs
          clear hdd0 hle hall
          gi_wp2
          refine ⟨rfl, hR.mono ?_⟩
          rintro e W2 (⟨rfl, hj2, hk2⟩ | ⟨rfl, hj2, hk2⟩)
          · have hsz2 : W.heap.size ≤ W2.heap.size := Nat.le_trans hsz hk2.size
            replace hj2 := hid hj2
            clear hj hy hR hk2
            gi_wp2
            go_roundw
            case rel => exact ⟨n + 1, by go_num, by omega, by omega, by rw [hpr.out]; exact hj2, hsz2⟩
            case measure => simp [intOf] <;> omega
          · gi_wp2
            try rw [Exit.noGoto_ret]
            refine bodyPost_ret (results_none rfl _ _ _) rfl ?_
            exact ⟨⟨_, rfl⟩, primesTo n, n, post, hxs.out, hj2⟩
end
end Go.Proofs.YtdjlpmelmhhooaaGreatDoor
