/- Sums: blocks, tables. -/
import Derived.Test.YtdjlpmelmhhooaaGreatDoorKit
import Derived.Shelf.Bits.Mul64
import Derived.Test.YtdjlpmelmhhooaaGreatDoorProg
import Derived.Test.YtdjlpmelmhhooaaGreatDoorLibA
import Derived.Scope
import Derived.OwnWalkIn
import Derived.TacticsInMore
import Derived.LoopNIn
import Derived.LoopIn
import Derived.Shelf.Abstract
import Derived.Shelf.RegionOpen
import Derived.Laws.ShiftsVarLaws
import Derived.Test.YtdjlpmelmhhooaaGreatDoorOctX
namespace Go.Proofs.YtdjlpmelmhhooaaGreatDoor
section
section
open Go

/-- Is x, cubed, at most p times 2 to the 96th? As the program reckons it. -/
def cubeV (x p : Nat) : Bool :=
  let h := x * x / 18446744073709551616 * x + x * x % 18446744073709551616 * x / 18446744073709551616
  let l := x * x % 18446744073709551616 * x % 18446744073709551616
  decide (h < p * 4294967296) || (decide (h = p * 4294967296) && decide (l = 0))
def squareV (x p : Nat) : Bool :=
  let h := x * x / 18446744073709551616
  let l := x * x % 18446744073709551616
  decide (h < p) || (decide (h = p) && decide (l = 0))
/-- The bits below m of a root, the highest first, behind x. -/
def rootF (f : Nat → Nat → Bool) (p : Nat) : Nat → Nat → Nat
  | 0, x => x
  | m + 1, x => rootF f p m (if f (x + 2 ^ m) p then x + 2 ^ m else x)
def rootN (f : Nat → Nat → Bool) (p : Nat) : Nat := rootF f p 38 0 % 4294967296
/-- By trial. -/
def prime (n : Nat) : Bool := decide (2 ≤ n) && (List.range n).all fun e => decide (e < 2) || decide (n < e * e) || decide (n % e ≠ 0)
theorem prime_yes {n d : Nat} (h2 : 2 ≤ n) (hd : n < d * d) (h : ∀ e, 2 ≤ e → e < d → n % e ≠ 0) : prime n = true := by
  unfold prime
  rw [Bool.and_eq_true, decide_eq_true_iff, List.all_eq_true]
  refine ⟨h2, fun e he => ?_⟩
  by_cases h1 : e < 2
  · simp [h1]
  · by_cases h3 : e < d
    · have := h e (by omega) h3
      simp [this]
    · have : d * d ≤ e * e := Nat.mul_self_le_mul_self (by omega)
      have h5 : n < e * e := by omega
      simp [h5]
theorem prime_no {n d : Nat} (h2 : 2 ≤ d) (hd : d * d ≤ n) (h : n % d = 0) : prime n = false := by
  unfold prime
  rw [Bool.and_eq_false_iff]
  right
  rw [List.all_eq_false]
  have hdn : d < n := by
    have : d * 2 ≤ d * d := Nat.mul_le_mul_left d h2
    omega
  refine ⟨d, List.mem_range.2 hdn, ?_⟩
  simp only [Bool.or_eq_true, decide_eq_true_eq, not_or]
  exact ⟨⟨by omega, by omega⟩, by omega⟩
/-- The primes below a number. -/
def primesTo (n : Nat) : List Nat := (List.range n).filter prime
theorem primesTo_succ (n : Nat) : primesTo (n + 1) = primesTo n ++ (if prime n then [n] else []) := by
  unfold primesTo
  rw [List.range_succ, List.filter_append]
  congr 1
  simp only [List.filter_cons, List.filter_nil]
theorem primes_2 : primesTo 2 = [] := by decide +kernel
theorem primes_len : (primesTo 314).length = 65 := by decide +kernel
/-- The rounds' constants, as the document prints them. -/
def keyL : List Nat := [0x428a2f98, 0x71374491, 0xb5c0fbcf, 0xe9b5dba5, 0x3956c25b, 0x59f111f1, 0x923f82a4, 0xab1c5ed5,
  0xd807aa98, 0x12835b01, 0x243185be, 0x550c7dc3, 0x72be5d74, 0x80deb1fe, 0x9bdc06a7, 0xc19bf174,
  0xe49b69c1, 0xefbe4786, 0x0fc19dc6, 0x240ca1cc, 0x2de92c6f, 0x4a7484aa, 0x5cb0a9dc, 0x76f988da,
  0x983e5152, 0xa831c66d, 0xb00327c8, 0xbf597fc7, 0xc6e00bf3, 0xd5a79147, 0x06ca6351, 0x14292967,
  0x27b70a85, 0x2e1b2138, 0x4d2c6dfc, 0x53380d13, 0x650a7354, 0x766a0abb, 0x81c2c92e, 0x92722c85,
  0xa2bfe8a1, 0xa81a664b, 0xc24b8b70, 0xc76c51a3, 0xd192e819, 0xd6990624, 0xf40e3585, 0x106aa070,
  0x19a4c116, 0x1e376c08, 0x2748774c, 0x34b0bcb5, 0x391c0cb3, 0x4ed8aa4a, 0x5b9cca4f, 0x682e6ff3,
  0x748f82ee, 0x78a5636f, 0x84c87814, 0x8cc70208, 0x90befffa, 0xa4506ceb, 0xbef9a3f7, 0xc67178f2]
def startL : List Nat := [0x6a09e667, 0xbb67ae85, 0x3c6ef372, 0xa54ff53a, 0x510e527f, 0x9b05688c, 0x1f83d9ab, 0x5be0cd19]
set_option maxRecDepth 100000 in
theorem keys_are : ((primesTo 314).take 64).map (rootN cubeV) = keyL := by decide +kernel
set_option maxRecDepth 100000 in
theorem start_is : ((primesTo 314).take 8).map (rootN squareV) = startL := by decide +kernel
theorem rootF_lt (f : Nat → Nat → Bool) (p : Nat) : ∀ m x M, x % 2 ^ m = 0 → x < 2 ^ M → m ≤ M → rootF f p m x < 2 ^ M
  | 0, x, M, _, h, _ => h
  | m + 1, x, M, h0, h, hm => by
    rw [rootF]
    have hx : x % 2 ^ m = 0 := by
      have e : 2 ^ (m + 1) = 2 ^ m * 2 := Nat.pow_succ 2 m
      rw [e] at h0
      exact Nat.mod_eq_zero_of_dvd (Nat.dvd_trans ⟨2, rfl⟩ (Nat.dvd_of_mod_eq_zero h0))
    split
    · refine rootF_lt f p m _ M (by rw [Nat.add_mod_right]; exact hx) ?_ (by omega)
      obtain ⟨c, hc⟩ := Nat.dvd_of_mod_eq_zero h0
      obtain ⟨k, rfl⟩ : ∃ k, M = m + 1 + k := ⟨M - (m + 1), by omega⟩
      rw [Nat.pow_add] at h ⊢
      rw [hc] at h ⊢
      have hck : c < 2 ^ k := Nat.lt_of_mul_lt_mul_left h
      have hp : 0 < 2 ^ m := Nat.two_pow_pos m
      have e : 2 ^ (m + 1) = 2 ^ m * 2 := Nat.pow_succ 2 m
      have h1 : 2 ^ (m + 1) * c + 2 ^ (m + 1) ≤ 2 ^ (m + 1) * 2 ^ k := by
        rw [← Nat.mul_succ]; exact Nat.mul_le_mul_left _ hck
      omega
    · exact rootF_lt f p m x M hx h (by omega)
end
section
open Go Go.RowKit Go.Lib Go.Proofs Go.Shelf
def shm_lays264_ren : Go.Shelf.Ren := ⟨fun | 264 => 141 | n => n, fun | 53 => 140 | 46 => 92 | n => n, fun | n => n⟩
theorem shm_lays264 : Go.Proofs.Lays.n264 Tryz.prog shm_lays264_ren := {
  mixed := by kernel_rfl
  f264 := Tryz.func141.trans (congrArg some (by kernel_rfl))
  t46 := Tryz.underlying92
  a46 := Tryz.isAgg92
  z46 := Tryz.sizeOf92
  v46 := Tryz.zeroValue92
  t53 := Tryz.underlying140
  a53 := Tryz.isAgg140
  z53 := Tryz.sizeOf140
  v53 := Tryz.zeroValue140 }
theorem shm_bits_Mul64 (x y : Nat) (hx : x < 18446744073709551616) (hy : y < 18446744073709551616) (w : World) :
    Calls Tryz.prog 141 #[.int .u64 x, .int .u64 y] w fun e w' => e = .returned (.tuple #[.int .u64 ((x * y / 18446744073709551616 : Nat) : Int), .int .u64 ((x * y % 18446744073709551616 : Nat) : Int)]) ∧ w' = w := Any.bits_Mul64 shm_lays264 x y hx hy w
end
section
open Go Go.RowKit
set_option linter.unusedSimpArgs false

theorem mul64_eq (x y : Nat) (hx : x < 18446744073709551616) (hy : y < 18446744073709551616) (w : World) : Calls Tryz.prog 141 #[.int .u64 x, .int .u64 y] w fun e w' =>
    e = .returned (.tuple #[.int .u64 ((x * y / 18446744073709551616 : Nat) : Int), .int .u64 ((x * y % 18446744073709551616 : Nat) : Int)]) ∧ w = w' :=
  (shm_bits_Mul64 x y hx hy w).mono fun _ _ ⟨h1, h2⟩ => ⟨h1, h2.symm⟩
set_option maxRecDepth 10000000 in
set_option maxHeartbeats 2000000 in
theorem cube_any (x p : Nat) (hx : x < 274877906944) (hp : p < 65536) (w : World) : Calls Tryz.prog 197 #[.int .u64 x, .int .u64 p] w fun e w' => e = .returned (.bool (cubeV x p)) ∧ w = w' := by
  have hsq : x * x < 75557863725914323419136 := by
    have := Nat.mul_lt_mul'' hx hx
    simpa using this
  obtain ⟨h, hh⟩ : ∃ h, h = x * x / 18446744073709551616 := ⟨_, rfl⟩
  obtain ⟨l, hl⟩ : ∃ l, l = x * x % 18446744073709551616 := ⟨_, rfl⟩
  have hh1 : h < 4096 := by omega
  have hl1 : l < 18446744073709551616 := by omega
  have hlx : l * x < 5070602400912917605986812821504 := by
    have := Nat.mul_lt_mul'' hl1 hx
    simpa using this
  obtain ⟨h2, hh2⟩ : ∃ h2, h2 = l * x / 18446744073709551616 := ⟨_, rfl⟩
  obtain ⟨l2, hl2⟩ : ∃ l2, l2 = l * x % 18446744073709551616 := ⟨_, rfl⟩
  have hh21 : h2 < 274877906944 := by omega
  have M1 := fun w => mul64_eq x x (by omega) (by omega) w
  have M2 := fun w => mul64_eq l x hl1 (by omega) w
  rw [← hh, ← hl] at M1
  rw [← hh2, ← hl2] at M2
  have hhx : h * x < 1125899906842624 := by
    have := Nat.mul_lt_mul'' hh1 hx
    simpa using this
  obtain ⟨hx', hhx'⟩ : ∃ hx', hx' = h * x := ⟨_, rfl⟩
  have hmul : (h : Int) * (x : Int) = (hx' : Int) := by rw [hhx']; simp
  rw [← hhx'] at hhx
  have hxi : (hx' : Int) < 1125899906842624 := by omega
  have hv : cubeV x p = (decide (hx' + h2 < p * 4294967296) || (decide (hx' + h2 = p * 4294967296) && decide (l2 = 0))) := by
    unfold cubeV; simp only [← hh, ← hl, ← hh2, ← hl2, ← hhx']
  rw [hv]
  have hpi : (p : Int) < 65536 := by omega
  have h2i : (h2 : Int) < 274877906944 := by omega
  replace M1 := hid M1
  replace M2 := hid M2
  clear hh hl hh2 hl2 hhx' hsq hlx hv
  by_cases c1 : hx' + h2 < p * 4294967296
  · have d1 : decide ((hx' : Int) + (h2 : Int) < (p : Int) * 4294967296) = true := by rw [decide_eq_true_iff]; omega
    rw [decide_eq_true c1, Bool.true_or]
    clear c1
    go_enter Tryz.func197, Tryz.ntmps197
    go_wp2_with (first
      | (go_at_call 141; with_reducible refine (M1.out _).mono ?_; rintro e w' ⟨rfl, rfl⟩)
      | (go_at_call 141; with_reducible refine (M2.out _).mono ?_; rintro e w' ⟨rfl, rfl⟩))
    go_ret
    exact ⟨rfl, rfl⟩
  · have d1 : decide ((hx' : Int) + (h2 : Int) < (p : Int) * 4294967296) = false := by rw [decide_eq_false_iff_not]; omega
    rw [decide_eq_false c1, Bool.false_or]
    clear c1
    by_cases c2 : hx' + h2 = p * 4294967296
    · have d2 : (((hx' : Int) + (h2 : Int)) == (p : Int) * 4294967296) = true := by rw [beq_iff_eq]; omega
      rw [decide_eq_true c2, Bool.true_and]
      clear c2
      by_cases c3 : l2 = 0
      · have d3 : ((l2 : Int) == 0) = true := by rw [beq_iff_eq]; omega
        rw [decide_eq_true c3]
        clear c3
        go_enter Tryz.func197, Tryz.ntmps197
        go_wp2_with (first
          | (go_at_call 141; with_reducible refine (M1.out _).mono ?_; rintro e w' ⟨rfl, rfl⟩)
          | (go_at_call 141; with_reducible refine (M2.out _).mono ?_; rintro e w' ⟨rfl, rfl⟩))
        go_ret
        exact ⟨rfl, rfl⟩
      · have d3 : ((l2 : Int) == 0) = false := by rw [beq_eq_false_iff_ne]; omega
        rw [decide_eq_false c3]
        clear c3
        go_enter Tryz.func197, Tryz.ntmps197
        go_wp2_with (first
          | (go_at_call 141; with_reducible refine (M1.out _).mono ?_; rintro e w' ⟨rfl, rfl⟩)
          | (go_at_call 141; with_reducible refine (M2.out _).mono ?_; rintro e w' ⟨rfl, rfl⟩))
        go_ret
        exact ⟨rfl, rfl⟩
    · have d2 : (((hx' : Int) + (h2 : Int)) == (p : Int) * 4294967296) = false := by rw [beq_eq_false_iff_ne]; omega
      rw [decide_eq_false c2, Bool.false_and]
      clear c2
      go_enter Tryz.func197, Tryz.ntmps197
      go_wp2_with (first
        | (go_at_call 141; with_reducible refine (M1.out _).mono ?_; rintro e w' ⟨rfl, rfl⟩)
        | (go_at_call 141; with_reducible refine (M2.out _).mono ?_; rintro e w' ⟨rfl, rfl⟩))
      go_ret
      exact ⟨rfl, rfl⟩

set_option maxRecDepth 10000000 in
set_option maxHeartbeats 2000000 in
theorem square_any (x p : Nat) (hx : x < 274877906944) (hp : p < 65536) (w : World) : Calls Tryz.prog 196 #[.int .u64 x, .int .u64 p] w fun e w' => e = .returned (.bool (squareV x p)) ∧ w = w' := by
  have hsq : x * x < 75557863725914323419136 := by
    have := Nat.mul_lt_mul'' hx hx
    simpa using this
  obtain ⟨h, hh⟩ : ∃ h, h = x * x / 18446744073709551616 := ⟨_, rfl⟩
  obtain ⟨l, hl⟩ : ∃ l, l = x * x % 18446744073709551616 := ⟨_, rfl⟩
  have M1 := fun w => mul64_eq x x (by omega) (by omega) w
  rw [← hh, ← hl] at M1
  have hv : squareV x p = (decide (h < p) || (decide (h = p) && decide (l = 0))) := by
    unfold squareV; simp only [← hh, ← hl]
  rw [hv]
  replace M1 := hid M1
  clear hh hl hsq hv
  by_cases c1 : h < p
  · have d1 : decide (h < p) = true := decide_eq_true c1
    rw [d1, Bool.true_or]
    clear c1
    go_enter Tryz.func196, Tryz.ntmps196
    go_wp2_with (go_at_call 141; refine (M1.out _).mono ?_; rintro e w' ⟨rfl, rfl⟩)
    go_ret
    exact ⟨rfl, rfl⟩
  · have d1 : decide (h < p) = false := decide_eq_false c1
    rw [d1, Bool.false_or]
    clear c1
    by_cases c2 : h = p
    · have d2 : ((h : Int) == (p : Int)) = true := by rw [beq_iff_eq]; omega
      have d2' : (h == p) = true := by rw [beq_iff_eq]; omega
      rw [decide_eq_true c2, Bool.true_and]
      clear c2
      by_cases c3 : l = 0
      · have d3 : ((l : Int) == 0) = true := by rw [beq_iff_eq]; omega
        rw [decide_eq_true c3]
        clear c3
        go_enter Tryz.func196, Tryz.ntmps196
        go_wp2_with (go_at_call 141; refine (M1.out _).mono ?_; rintro e w' ⟨rfl, rfl⟩)
        go_ret
        exact ⟨rfl, rfl⟩
      · have d3 : ((l : Int) == 0) = false := by rw [beq_eq_false_iff_ne]; omega
        rw [decide_eq_false c3]
        clear c3
        go_enter Tryz.func196, Tryz.ntmps196
        go_wp2_with (go_at_call 141; refine (M1.out _).mono ?_; rintro e w' ⟨rfl, rfl⟩)
        go_ret
        exact ⟨rfl, rfl⟩
    · have d2 : ((h : Int) == (p : Int)) = false := by rw [beq_eq_false_iff_ne]; omega
      have d2' : (h == p) = false := by rw [beq_eq_false_iff_ne]; omega
      rw [decide_eq_false c2, Bool.false_and]
      clear c2
      go_enter Tryz.func196, Tryz.ntmps196
      go_wp2_with (go_at_call 141; refine (M1.out _).mono ?_; rintro e w' ⟨rfl, rfl⟩)
      go_ret
      exact ⟨rfl, rfl⟩
end
section
open Go Go.RowKit
set_option linter.unusedSimpArgs false

theorem or_bit (x m : Nat) (h : x % 2 ^ (m + 1) = 0) (hx : x < 274877906944) (hm : m ≤ 37) : bits .or .u64 (x : Int) ((2 ^ m : Nat) : Int) = ((x + 2 ^ m : Nat) : Int) := by
  have h1 : (2 : Nat) ^ m ≤ 2 ^ 37 := Nat.pow_le_pow_right (by omega) hm
  have h2 := u64_or_nat x (2 ^ m) (by omega) (by omega)
  rw [h2]
  obtain ⟨c, hc⟩ := Nat.dvd_of_mod_eq_zero h
  have h3 : 2 ^ m < 2 ^ (m + 1) := Nat.pow_lt_pow_right (by omega) (by omega)
  have := Nat.two_pow_add_eq_or_of_lt (i := m + 1) (b := 2 ^ m) h3 c
  rw [hc, ← this]
theorem pow_form0 (m : Nat) (hm : m ≤ 37) : (2 : Int) ^ m % 18446744073709551616 = ((2 ^ m : Nat) : Int) := by
  have h1 : (2 : Nat) ^ m ≤ 2 ^ 37 := Nat.pow_le_pow_right (by omega) hm
  have e : ((2 : Int) ^ m) = ((2 ^ m : Nat) : Int) := by simp
  rw [e]
  generalize 2 ^ m = q at *
  omega

theorem pow_form (m : Nat) (hm : m ≤ 37) : IntKind.u64.wrap ((2 : Int) ^ m) = ((2 ^ m : Nat) : Int) := by
  rw [IntKind.wrap_u64]; exact pow_form0 m hm
theorem root_facts (m x : Nat) (h0 : x % 2 ^ (m + 1) = 0) (hx : x < 274877906944) (hm : m ≤ 37) : x + 2 ^ m < 274877906944 ∧ (x + 2 ^ m) % 2 ^ m = 0 ∧ x % 2 ^ m = 0 ∧ 2 ^ m ≤ 137438953472 := by
  have h2m : 2 ^ m ≤ 2 ^ 37 := Nat.pow_le_pow_right (by decide) hm
  have e37 : (2 : Nat) ^ 37 = 137438953472 := by decide
  have h0a : (x + 2 ^ m) % 2 ^ m = 0 := by
    rw [Nat.add_mod_right]
    exact Nat.mod_eq_zero_of_dvd (Nat.dvd_trans ⟨2, Nat.pow_succ 2 m⟩ (Nat.dvd_of_mod_eq_zero h0))
  have h0b : x % 2 ^ m = 0 := by rwa [Nat.add_mod_right] at h0a
  refine ⟨?_, h0a, h0b, by rw [← e37]; exact h2m⟩
  obtain ⟨c, hc⟩ := Nat.dvd_of_mod_eq_zero h0
  obtain ⟨j, hj⟩ : ∃ j, 38 = m + 1 + j := ⟨37 - m, by omega⟩
  have e38 : (274877906944 : Nat) = 2 ^ (m + 1) * 2 ^ j := by rw [← Nat.pow_add, ← hj]
  rw [e38] at hx ⊢
  rw [hc] at hx ⊢
  have hcj : c < 2 ^ j := Nat.lt_of_mul_lt_mul_left hx
  have h1 : 2 ^ (m + 1) * c + 2 ^ (m + 1) ≤ 2 ^ (m + 1) * 2 ^ j := by rw [← Nat.mul_succ]; exact Nat.mul_le_mul_left _ hcj
  have hp0 : 0 < 2 ^ m := Nat.two_pow_pos m
  have e : 2 ^ (m + 1) = 2 ^ m * 2 := Nat.pow_succ 2 m
  generalize 2 ^ (m + 1) * c = A at *
  generalize 2 ^ (m + 1) * 2 ^ j = B at *
  generalize 2 ^ m = q at *
  omega

theorem root_step (f : Nat → Nat → Bool) (p m x R : Nat) (hr : rootF f p (m + 1) x = R) (h0 : x % 2 ^ (m + 1) = 0) (hx : x < 274877906944) (hm : m ≤ 37) :
    ∃ q y : Nat, y < 274877906944 ∧ q ≤ 137438953472 ∧ bits .or .u64 (x : Int) (q : Int) = (y : Int) ∧ IntKind.u64.wrap ((2 : Int) ^ m) = (q : Int) ∧ y % 2 ^ m = 0 ∧ x % 2 ^ m = 0 ∧ rootF f p m (if f y p then y else x) = R := by
  obtain ⟨hlt, h0a, h0b, h2m⟩ := root_facts m x h0 hx hm
  exact ⟨2 ^ m, x + 2 ^ m, hlt, h2m, or_bit x m h0 hx hm, pow_form m hm, h0a, h0b, hr⟩

set_option maxRecDepth 10000000 in
set_option maxHeartbeats 2000000 in
theorem root_cube (p : Nat) (hp : p < 65536) (w : World) : Calls Tryz.prog 195 #[.int .u64 p, .func (.func 197) #[] #[]] w fun e w' => e = .returned (.int .u32 (rootN cubeV p : Nat)) ∧ w = w' := by
  obtain ⟨R, hR⟩ : ∃ R, R = rootF cubeV p 38 0 := ⟨_, rfl⟩
  have hN : rootN cubeV p = R % 4294967296 := by rw [hR]; rfl
  rw [hN]
  replace hR := hid hR
  clear hN
  go_enter Tryz.func195, Tryz.ntmps195
  go_wp2
  go_loop [5, 6] (fun v b => ∃ (m x : Nat), b = .int .i64 ((m : Int) - 1) ∧ m ≤ 38 ∧ v = .int .u64 x ∧ Hid (rootF cubeV p m x = R) ∧ Hid (x % 2 ^ m = 0) ∧ x < 274877906944) (fun _ b => (intOf b + 1).toNat)
  case atStart => exact ⟨38, 0, rfl, by omega, rfl, hid hR.out.symm, hid (by simp), by omega⟩
  case round =>
    obtain ⟨m, x, rfl, hm, rfl, hr, h0, hx⟩ := hrel
    by_cases hmz : m = 0
    · subst hmz
      have hres : R = x := by rw [← hr.out]; rfl
      have hxm : ((x : Int) % 4294967296) = ((x % 4294967296 : Nat) : Int) := by simp
      replace hres := hid hres
      go_wp2
      go_ret
      exact ⟨ret_int (by rw [hres.out]; simp), rfl⟩
    · obtain ⟨m, rfl⟩ : ∃ k, m = k + 1 := ⟨m - 1, by omega⟩
      have hmi : ((m + 1 : Nat) : Int) - 1 = (m : Int) := by omega
      have hm37 : m ≤ 37 := by omega
      obtain ⟨q, y, hlt, h2m, hor, hpf, h0a, h0b, hr2⟩ := root_step cubeV p m x R hr.out h0.out hx hm37
      have LF := fun w => cube_any y p hlt hp w
      have hm38 : (m : Int) ≤ 37 := by omega
      rw [hmi]
      replace hr2 := hid hr2
      replace h0a := hid h0a
      replace h0b := hid h0b
      clear hr h0 hmz hmi
      cases hf : cubeV y p with
      | true =>
        rw [hf] at LF hr2
        replace LF := hid LF
        rw [if_pos rfl] at hr2
        clear hf
        go_wp2_with (go_at_call 197; with_reducible refine (LF.out _).mono ?_; rintro e w' ⟨rfl, rfl⟩)
        go_round
        case rel => exact ⟨m, y, rfl, by omega, rfl, hr2, h0a, hlt⟩
        case measure => simp [intOf] <;> omega
      | false =>
        rw [hf] at LF hr2
        replace LF := hid LF
        rw [if_neg (by decide)] at hr2
        clear hf
        go_wp2_with (go_at_call 197; with_reducible refine (LF.out _).mono ?_; rintro e w' ⟨rfl, rfl⟩)
        go_round
        case rel => exact ⟨m, x, rfl, by omega, rfl, hr2, h0b, hx⟩
        case measure => simp [intOf] <;> omega

set_option maxRecDepth 10000000 in
set_option maxHeartbeats 2000000 in
theorem root_square (p : Nat) (hp : p < 65536) (w : World) : Calls Tryz.prog 195 #[.int .u64 p, .func (.func 196) #[] #[]] w fun e w' => e = .returned (.int .u32 (rootN squareV p : Nat)) ∧ w = w' := by
  obtain ⟨R, hR⟩ : ∃ R, R = rootF squareV p 38 0 := ⟨_, rfl⟩
  have hN : rootN squareV p = R % 4294967296 := by rw [hR]; rfl
  rw [hN]
  replace hR := hid hR
  clear hN
  go_enter Tryz.func195, Tryz.ntmps195
  go_wp2
  go_loop [5, 6] (fun v b => ∃ (m x : Nat), b = .int .i64 ((m : Int) - 1) ∧ m ≤ 38 ∧ v = .int .u64 x ∧ Hid (rootF squareV p m x = R) ∧ Hid (x % 2 ^ m = 0) ∧ x < 274877906944) (fun _ b => (intOf b + 1).toNat)
  case atStart => exact ⟨38, 0, rfl, by omega, rfl, hid hR.out.symm, hid (by simp), by omega⟩
  case round =>
    obtain ⟨m, x, rfl, hm, rfl, hr, h0, hx⟩ := hrel
    by_cases hmz : m = 0
    · subst hmz
      have hres : R = x := by rw [← hr.out]; rfl
      have hxm : ((x : Int) % 4294967296) = ((x % 4294967296 : Nat) : Int) := by simp
      replace hres := hid hres
      go_wp2
      go_ret
      exact ⟨ret_int (by rw [hres.out]; simp), rfl⟩
    · obtain ⟨m, rfl⟩ : ∃ k, m = k + 1 := ⟨m - 1, by omega⟩
      have hmi : ((m + 1 : Nat) : Int) - 1 = (m : Int) := by omega
      have hm37 : m ≤ 37 := by omega
      obtain ⟨q, y, hlt, h2m, hor, hpf, h0a, h0b, hr2⟩ := root_step squareV p m x R hr.out h0.out hx hm37
      have LF := fun w => square_any y p hlt hp w
      have hm38 : (m : Int) ≤ 37 := by omega
      rw [hmi]
      replace hr2 := hid hr2
      replace h0a := hid h0a
      replace h0b := hid h0b
      clear hr h0 hmz hmi
      cases hf : squareV y p with
      | true =>
        rw [hf] at LF hr2
        replace LF := hid LF
        rw [if_pos rfl] at hr2
        clear hf
        go_wp2_with (go_at_call 196; with_reducible refine (LF.out _).mono ?_; rintro e w' ⟨rfl, rfl⟩)
        go_round
        case rel => exact ⟨m, y, rfl, by omega, rfl, hr2, h0a, hlt⟩
        case measure => simp [intOf] <;> omega
      | false =>
        rw [hf] at LF hr2
        replace LF := hid LF
        rw [if_neg (by decide)] at hr2
        clear hf
        go_wp2_with (go_at_call 196; with_reducible refine (LF.out _).mono ?_; rintro e w' ⟨rfl, rfl⟩)
        go_round
        case rel => exact ⟨m, x, rfl, by omega, rfl, hr2, h0b, hx⟩
        case measure => simp [intOf] <;> omega
end
section
open Go Go.RowKit
set_option linter.unusedSimpArgs false
attribute [local go_sem] Oper.semAt_some

theorem wpIn_scope0 {P : Program} {c : Code} {Q : Exit → Act → World → Prop} {a : Act} {w : World} (h : c.wpIn Fence.wide 0 P (Exit.noGoto Q) a w) : (Code.scope c).wpIn Fence.wide 0 P Q a w :=
  (wpIn_wide (n := 0)).2 (wp_scope_straight ((wpIn_wide (n := 0)).1 h))
def encN (p : Nat) : Array Value := #[.int .u64 (p : Nat)]
theorem primes_make (w : World) : Calls Tryz.prog 194 #[] w fun e w' => e = .returned (.func (.func 205) #[] #[]) ∧ w = w' := by
  go_enter Tryz.func194, Tryz.ntmps194
  go_wp2
  go_ret
  exact ⟨rfl, rfl⟩
set_option maxRecDepth 1000000 in
set_option maxHeartbeats 4000000 in
theorem primes_on (w : World) : IterTo Tryz.prog 205 #[] encN (fun _ => False) (fun _ => False) (primesTo 314) w := by
  intro l J Jx W hb hno hJ hJx hY h0
  refine callsIn_of_wp Tryz.func205 rfl trivial ?_
  simp only [Tryz.ntmps205, List.size_toArray, List.length_cons, List.length_nil, Nat.reduceAdd, Nat.reduceSub, Array.replicate_succ, Array.replicate_zero, List.push_toArray, List.append_toArray, List.nil_append, List.cons_append]
  gi_wp2
  refine wpIn_scope0 ?_
  refine wpIn_seq ?_
  refine wpIn_label ?_
  gi_wp2
  gi_loopw [2, 3] (fun nv _ wr => ∃ n : Nat, nv = .int .u64 n ∧ 2 ≤ n ∧ n ≤ 314 ∧ Hid (J (primesTo n) wr) ∧ W.heap.size ≤ wr.heap.size) (fun nv _ _ => 314 - (intOf nv).toNat)
  case atStart => exact ⟨2, rfl, by omega, by omega, hid (by rw [primes_2]; exact h0), Nat.le_refl _⟩
  case round =>
    obtain ⟨n, rfl, hn2, hn314, hj, hsz⟩ := hrel
    by_cases hn : n = 314
    · subst hn; exact (hno _ hj.out).elim
    · have hlt : n ≤ 313 := by omega
      have hlti : (n : Int) ≤ 313 := by omega
      have hn2i : (2 : Int) ≤ (n : Int) := by omega
      gi_wp2
      gi_loop [3] (fun dv => ∃ d : Nat, dv = .int .u64 d ∧ 2 ≤ d ∧ d ≤ n ∧ Hid (∀ e, 2 ≤ e → e < d → n % e ≠ 0)) (fun dv => 400 - (intOf dv).toNat)
      case atStart => exact ⟨2, rfl, by omega, hn2, hid (fun e h1 h2 => by omega)⟩
      case round =>
        obtain ⟨d, rfl, hd2, hdn, hall⟩ := hrel
        obtain ⟨dd, hdd0⟩ : ∃ dd, dd = d * d := ⟨_, rfl⟩
        have hdd : (d : Int) * (d : Int) = (dd : Int) := by rw [hdd0]; simp
        have hdb : dd ≤ 313 * 313 := by rw [hdd0]; exact Nat.mul_le_mul (by omega) (by omega)
        have hddi : (dd : Int) ≤ 97969 := by omega
        have hd0i : (0 : Int) < (d : Int) := by omega
        have hdi : (d : Int) ≤ 313 := by omega
        by_cases hle : dd ≤ n
        · have b1 : decide ((dd : Int) ≤ (n : Int)) = true := by rw [decide_eq_true_iff]; omega
          have b1' : decide (dd ≤ n) = true := decide_eq_true hle
          obtain ⟨r, hr0⟩ : ∃ r, r = n % d := ⟨_, rfl⟩
          have hr : (n : Int) % (d : Int) = (r : Int) := by rw [hr0]; simp
          have hdn : d < n := by
            have : d * 2 ≤ d * d := Nat.mul_le_mul_left d hd2
            omega
          by_cases hz : r = 0
          · have b2 : ((r : Int) == 0) = true := by rw [beq_iff_eq]; omega
            have hnp : primesTo (n + 1) = primesTo n := by
              rw [primesTo_succ, prime_no hd2 (by rw [← hdd0]; exact hle) (by rw [← hr0]; exact hz), if_neg (by decide), List.append_nil]
            replace hnp := hid hnp
            clear hdd0 hr0 hz hle
            gi_wp2
            go_roundw
            case rel => exact ⟨n + 1, by go_num, by omega, by omega, by rw [hnp.out]; exact hj, hsz⟩
            case measure => simp [intOf] <;> omega
          · have b2 : ((r : Int) == 0) = false := by rw [beq_eq_false_iff_ne]; omega
            have hall2 : ∀ e, 2 ≤ e → e < d + 1 → n % e ≠ 0 := fun e h1 h2 => by
              by_cases e1 : e = d
              · rw [e1, ← hr0]; exact hz
              · exact hall.out e h1 (by omega)
            replace hall2 := hid hall2
            clear hdd0 hr0 hz hle
            gi_wp2
            go_round
            case rel => exact ⟨d + 1, by go_num, by omega, by omega, hall2⟩
            case measure => simp [intOf] <;> omega
        · have b1 : decide ((dd : Int) ≤ (n : Int)) = false := by rw [decide_eq_false_iff_not]; omega
          have b1' : decide (dd ≤ n) = false := decide_eq_false hle
          have hpr : primesTo (n + 1) = primesTo n ++ [n] := by
            rw [primesTo_succ, prime_yes hn2 (by rw [← hdd0]; omega) hall.out, if_pos rfl]
          have hxs : ∃ post, primesTo 314 = primesTo n ++ n :: post := by
            obtain ⟨k, hk⟩ : ∃ k, 314 = n + 1 + k := ⟨313 - n, by omega⟩
            have key : ∀ k, ∃ post, primesTo (n + 1 + k) = primesTo (n + 1) ++ post := by
              intro k
              induction k with
              | zero => exact ⟨[], by simp⟩
              | succ k ih => obtain ⟨p, hp⟩ := ih; exact ⟨_, by rw [← Nat.add_assoc, primesTo_succ, hp, List.append_assoc]⟩
            obtain ⟨post, hp⟩ := key k
            exact ⟨post, by rw [hk, hp, hpr, List.append_assoc]; rfl⟩
          obtain ⟨post, hxs⟩ := hxs
          obtain ⟨fn, tmps, assign, body, hy, hR⟩ := hY (primesTo n) n post wr hxs hsz hj.out
          simp only [encN] at hy
          replace hpr := hid hpr
          replace hxs := hid hxs
          clear hdd0 hle hall
          gi_wp2
          refine ⟨rfl, hR.mono ?_⟩
          rintro e W2 (⟨rfl, hj2, hk2⟩ | ⟨rfl, hj2, hk2⟩)
          · have hsz2 : W.heap.size ≤ W2.heap.size := Nat.le_trans hsz hk2.size
            replace hj2 := hid hj2
            clear hj hy hR hk2
            gi_wp2
            go_roundw
            case rel => exact ⟨n + 1, by go_num, by omega, by omega, by rw [hpr.out]; exact hj2, hsz2⟩
            case measure => simp [intOf] <;> omega
          · gi_wp2
            try rw [Exit.noGoto_ret]
            refine bodyPost_ret (results_none rfl _ _ _) rfl ?_
            exact ⟨⟨_, rfl⟩, primesTo n, n, post, hxs.out, hj2⟩
end
end
section
section
open Go Go.RowKit
set_option linter.unusedSimpArgs false
attribute [local go_sem] Oper.semAt_some

theorem Kept.setRow {S : Nat → Prop} {A B : World} (h : Kept S A B) (g : Nat) (hg : S g) (C : Array Value) : Kept S A (B.setRow g C) :=
  h.trans ⟨rfl, rfl, rfl, by simp, fun k _ hs => setRow_other B g k C (fun e => hs (e ▸ hg))⟩
theorem prime_bound {x : Nat} (h : x ∈ primesTo 314) : x < 65536 := by
  unfold primesTo at h
  have := List.mem_range.1 (List.mem_filter.1 h).1
  omega
theorem key_at {pre post : List Nat} {x : Nat} (h : primesTo 314 = pre ++ x :: post) (hl : pre.length < 64) : rootN cubeV x = keyL.getD pre.length 0 := by
  rw [← keys_are, h, List.getD_eq_getElem?_getD, List.getElem?_map, List.getElem?_take, if_pos hl, List.getElem?_append_right (Nat.le_refl _), Nat.sub_self, List.getElem?_cons_zero, Option.map_some, Option.getD_some]
theorem start_at {pre post : List Nat} {x : Nat} (h : primesTo 314 = pre ++ x :: post) (hl : pre.length < 8) : rootN squareV x = startL.getD pre.length 0 := by
  rw [← start_is, h, List.getD_eq_getElem?_getD, List.getElem?_map, List.getElem?_take, if_pos hl, List.getElem?_append_right (Nat.le_refl _), Nat.sub_self, List.getElem?_cons_zero, Option.map_some, Option.getD_some]
/-- The first k of a row of words, noughts behind them. -/
def wordsF (L : List Nat) (k j : Nat) : Value := .int .u32 (((if j < k then L.getD j 0 else 0) : Nat) : Int)
theorem wordsF_set (L : List Nat) (n k : Nat) (h : k < n) : (rowA n (wordsF L k)).setIfInBounds k (.int .u32 ((L.getD k 0 : Nat) : Int)) = rowA n (wordsF L (k + 1)) := by
  rw [rowA_set]
  refine rowA_ext fun j hj => ?_
  unfold wordsF
  by_cases e : j = k
  · subst e; rw [if_pos rfl, if_pos (by omega)]
  · rw [if_neg e]
    by_cases e2 : j < k
    · rw [if_pos e2, if_pos (by omega)]
    · rw [if_neg e2, if_neg (by omega)]
theorem wordsF_one (L : List Nat) (n k : Nat) : (rowA n (wordsF L k)).all (·.oneCell') = true := by
  rw [Array.all_eq_true]; intro i h; simp only [rowA, Array.getElem_ofFn, wordsF]; rfl
/-- Words as a value. -/
def wordsV (n : Nat) (L : List Nat) : Value := .agg (rowA n (wordsF L n))
theorem zero64 (w : World) : (zeroValue 195).run Tryz.prog w = .ok (.agg (rowA 64 (wordsF keyL 0))) w := by kernel_rfl
theorem info64 : (Tryz.prog.info? 195).map (·.size) = some 64 := by kernel_rfl

set_option maxRecDepth 100000 in
set_option maxHeartbeats 4000000 in
theorem keys_any (w : World) : Calls Tryz.prog 182 #[] w fun e w' => e = .returned (wordsV 64 keyL) ∧ Below w.heap.size w w' := by
  refine (callsIn_wide (n := 0)).1 ?_
  have hz := zero64
  refine callsIn_of_wp_marks Tryz.func182 rfl trivial ?_
  simp only [Tryz.ntmps182, List.size_toArray, List.length_cons, List.length_nil, Nat.reduceAdd, Nat.reduceSub, Array.replicate_succ, Array.replicate_zero, List.push_toArray, List.append_toArray, List.nil_append, List.cons_append]
  gi_wp2_with (refine ⟨trivial, rfl, ?_⟩; gi_at_call 194; refine (callsIn_wide.2 (primes_make _)).mono ?_; rintro e w' ⟨rfl, rfl⟩)
  clear hz
  generalize hW0 : World.alloc _ (Obj.cells #[.int .i64 0] 3) = W0
  have hsz0 : w.heap.size + 3 ≤ W0.heap.size ∧ W0.heap.size ≤ w.heap.size + 3 := by rw [← hW0]; simp
  have m0 : RowAt W0 w.heap.size 195 (rowA 64 (wordsF keyL 0)) := by rw [← hW0]; exact ((RowAt.new w _ _).alloc _).alloc _
  have m1 : RowAt W0 (w.heap.size + 1) 195 (rowA 64 (wordsF keyL 0)) := by rw [← hW0]; have := RowAt.new (w.alloc (.cells (rowA 64 (wordsF keyL 0)) 195)) (rowA 64 (wordsF keyL 0)) 195; rw [World.size_alloc] at this; exact this.alloc _
  have m2 : RowAt W0 (w.heap.size + 2) 3 #[.int .i64 0] := by rw [← hW0]; have := RowAt.new ((w.alloc (.cells (rowA 64 (wordsF keyL 0)) 195)).alloc (.cells (rowA 64 (wordsF keyL 0)) 195)) #[.int .i64 0] 3; rwa [World.size_alloc, World.size_alloc] at this
  have hb0 : Below w.heap.size w W0 := by rw [← hW0]; exact below_al (below_al (below_al (Below.refl _ _) _) _) _
  clear hW0
  refine wp_iter_to_put (gf := 205) (lb := #[]) rfl (enters_of Tryz.func205 (by kernel_rfl) rfl) (primes_on W0)
    (fun _ h => h.elim) (fun _ h => h.elim) (fun _ => rfl) (fun x => [(3, .int .u64 (x : Nat))])
    (fun pre X => (RowAt X w.heap.size 195 (rowA 64 (wordsF keyL 0)) ∧ RowAt X (w.heap.size + 1) 195 (rowA 64 (wordsF keyL pre.length)) ∧ RowAt X (w.heap.size + 2) 3 #[.int .i64 (pre.length : Nat)] ∧ Below w.heap.size w X) ∧ pre.length ≤ 64)
    (fun c pre X => (RowAt X w.heap.size 195 (rowA 64 (wordsF keyL 0)) ∧ RowAt X (w.heap.size + 1) 195 (rowA 64 (wordsF keyL 64)) ∧ Below w.heap.size w X) ∧ c = .exit 0) ?hno ?hI ?hIx ⟨⟨m0, m1, m2, hb0⟩, by simp⟩ ?assign ?body ?stop
  case hno =>
    rintro X ⟨_, h⟩
    rw [primes_len] at h; omega
  case hI =>
    rintro pre X Y ⟨⟨h1, h2, h3, h4⟩, h5⟩ hk
    have hT : ∀ k, (False ∨ twoOf W0.heap.size k) → w.heap.size + 3 ≤ k := by rintro k (h | h | h); exact h.elim; all_goals omega
    exact ⟨⟨hk.row h1 (fun x => by have := hT _ x; omega), hk.row h2 (fun x => by have := hT _ x; omega), hk.row h3 (fun x => by have := hT _ x; omega), below_kept h4 hk (Nat.le_refl _) (fun k x => by have := hT _ x; omega)⟩, h5⟩
  case hIx =>
    rintro c pre X Y ⟨⟨h1, h2, h4⟩, h5⟩ hk
    have hT : ∀ k, (False ∨ twoOf W0.heap.size k) → w.heap.size + 3 ≤ k := by rintro k (h | h | h); exact h.elim; all_goals omega
    exact ⟨⟨hk.row h1 (fun x => by have := hT _ x; omega), hk.row h2 (fun x => by have := hT _ x; omega), below_kept h4 hk (Nat.le_refl _) (fun k x => by have := hT _ x; omega)⟩, h5⟩
  case assign =>
    intro l x W K hK
    gi_wp2
    simpa [encN, putAll] using hK
  case body =>
    rintro pre x post X hx hXs _ ⟨⟨h1, h2, h3, h4⟩, h5⟩
    have hxb : x < 65536 := prime_bound (by rw [hx]; simp)
    have q3 : X.cell? ⟨w.heap.size + 2, 0, none⟩ = some (.int .i64 (pre.length : Nat)) := h3.cell (j := 0) rfl
    simp only [putAll, encN, List.zip_toArray, List.foldl_toArray', List.foldl_toArray, List.zip_cons_cons, List.zip_nil_left, List.foldl_cons, List.foldl_nil, List.setIfInBounds_toArray, List.set_cons_zero, List.set_cons_succ]
    by_cases h64 : pre.length = 64
    · have hb : (((pre.length : Nat) : Int) == 64) = true := by rw [beq_iff_eq]; omega
      rw [h64] at h2
      replace hx := hid hx
      clear h64
      gi_wp2
      exact ⟨Kept.refl _ _, ⟨h1, h2, h4⟩, rfl⟩
    · have hb : (((pre.length : Nat) : Int) == 64) = false := by rw [beq_eq_false_iff_ne]; omega
      have hk : pre.length < 64 := by omega
      have hki : ((pre.length : Nat) : Int) < 64 := by omega
      have hroot := fun w => root_cube x hxb w
      rw [key_at hx hk] at hroot
      obtain ⟨v, hv⟩ : ∃ v, v = keyL.getD pre.length 0 := ⟨_, rfl⟩
      rw [← hv] at hroot
      have e2 : ∀ q : Sub X, q.x.cell? ⟨w.heap.size + 2, 0, none⟩ = some (.int .i64 (pre.length : Nat)) := fun q => q.cell h3 rfl
      replace hroot := hid hroot
      replace hx := hid hx
      replace hv := hid hv
      gi_wp2
      refine wpIn_region_last_round (by kernel_rfl) (by kernel_rfl) (by kernel_rfl) (by kernel_rfl) 4 _ rfl rfl ?_
      simp only [muted, mute]
      repeat (go_big_quiet_step (first | (go_at_call 195; with_reducible refine Sub.same _ (hroot.out _))))
      refine wpQuiet_nil ?_
      intro q
      have k1 := h1.below q.h h1.lt
      have k2 := h2.below q.h h2.lt
      have k3 := h3.below q.h h3.lt
      have k4 := below_cat q.h h4
      have hkp := Kept.of_below (S := fun k => ¬ (twoOf W0.heap.size k ∨ False)) q.h
      obtain ⟨Y, hY⟩ : ∃ Y, Y = q.x := ⟨_, rfl⟩
      rw [← hY] at k1 k2 k3 k4 hkp ⊢
      have hfr := k2.free pre.length
      have hcf : Y.cell? ⟨w.heap.size + 1, pre.length, none⟩ = some (.int .u32 0) := k2.cell (by rw [rowA_get _ _ _ hk]; simp [wordsF])
      unfold Oper.wpIn
      simp [go_sem, hfr, hcf]
      have n1 := k1.other ⟨w.heap.size + 1, pre.length, none⟩ (.int .u32 (v : Nat)) (by simp)
      have n2 := (k2.set pre.length (.int .u32 (v : Nat))).eqA (A' := rowA 64 (wordsF keyL (pre.length + 1))) (by rw [hv.out]; exact wordsF_set keyL 64 pre.length hk)
      have n3 := k3.other ⟨w.heap.size + 1, pre.length, none⟩ (.int .u32 (v : Nat)) (by simp)
      have n4 := k4.setCell (p := ⟨w.heap.size + 1, pre.length, none⟩) (by simp) (.int .u32 (v : Nat))
      have n5 := hkp.setCell ⟨w.heap.size + 1, pre.length, none⟩ (.inl (by simp [twoOf]; omega)) (.int .u32 (v : Nat))
      obtain ⟨Z, hZ⟩ : ∃ Z, Z = Y.setCell ⟨w.heap.size + 1, pre.length, none⟩ (.int .u32 (v : Nat)) := ⟨_, rfl⟩
      rw [← hZ] at n1 n2 n3 n4 n5 ⊢
      have e3 : Z.cell? ⟨w.heap.size + 2, 0, none⟩ = some (.int .i64 (pre.length : Nat)) := n3.cell (j := 0) rfl
      have f3 := n3.free 0
      clear hZ hfr hcf k1 k2 k3 k4 hkp e2
      gi_wp2
      refine ⟨n5.setCell _ (.inl (by simp [twoOf]; omega)) _, ⟨n1.other _ _ (by simp <;> omega), ?_, ?_, n4.setCell (by simp <;> omega) _⟩, by simp; omega⟩
      · simpa using n2.other ⟨w.heap.size + 2, 0, none⟩ (.int .i64 (pre.length + 1 : Nat)) (by simp)
      · simpa using (n3.set 0 (.int .i64 (pre.length + 1 : Nat)))
  case stop =>
    rintro c pre x post X hsz hx ⟨⟨h1, h2, h4⟩, rfl⟩ hd
    have g2 : X.heap[w.heap.size + 1]? = some (.cells (rowA 64 (wordsF keyL 64)) 195 (0, 0)) := h2
    have g1 : X.heap[w.heap.size]? = some (.cells (rowA 64 (wordsF keyL 0)) 195 (0, 0)) := h1
    replace g1 := hid g1
    replace g2 := hid g2
    gi_wp2_with (first | (refine wpListIn_load_row rfl 195 _ rfl (w.heap.size + 1) rfl 195 (rowA 64 (wordsF keyL 64)) (0, 0) _ g2.out Tryz.underlying195 rfl (by rw [info64, rowA_size]) ?_) | (refine wpListIn_store_row rfl 195 _ _ rfl w.heap.size (rowA 64 (wordsF keyL 64)) rfl rfl 195 (rowA 64 (wordsF keyL 0)) g1.out (by rw [info64, rowA_size]) (by rw [rowA_size, rowA_size]) (wordsF_one _ _ _) ?_))
    have r1 := h1.setRow (rowA 64 (wordsF keyL 64))
    have hb1 := below_setRow h4 (Nat.le_refl _) (rowA 64 (wordsF keyL 64))
    have hd1 := (setRow_other X w.heap.size W0.heap.size (rowA 64 (wordsF keyL 64)) (by omega)).trans hd
    obtain ⟨Y, hY⟩ : ∃ Y, Y = X.setRow w.heap.size (rowA 64 (wordsF keyL 64)) := ⟨_, rfl⟩
    rw [← hY] at r1 hb1 hd1 ⊢
    have r2 : RowAt (Y.putObj W0.heap.size (.deferred none)) w.heap.size 195 (rowA 64 (wordsF keyL 64)) := (World.putObj_heap_other (by omega)).trans r1
    refine leave_one hd1 ⟨_, results_cell_row rfl _ _ w.heap.size 195 (rowA 64 (wordsF keyL 64)) (0, 0) _ rfl r2 Tryz.underlying195 rfl (by rw [info64, rowA_size]), rfl, ?_⟩
    exact below_kept hb1 ((Kept.refl (fun k => k = W0.heap.size) _).putObj _ _ (.inl rfl)) (Nat.le_refl _) (fun k hk => by omega)
theorem zero8 (w : World) : (zeroValue 193).run Tryz.prog w = .ok (.agg (rowA 8 (wordsF startL 0))) w := by kernel_rfl
theorem info8 : (Tryz.prog.info? 193).map (·.size) = some 8 := by kernel_rfl

set_option maxRecDepth 100000 in
set_option maxHeartbeats 4000000 in
theorem start_any (w : World) : Calls Tryz.prog 181 #[] w fun e w' => e = .returned (wordsV 8 startL) ∧ Below w.heap.size w w' := by
  refine (callsIn_wide (n := 0)).1 ?_
  have hz := zero8
  refine callsIn_of_wp_marks Tryz.func181 rfl trivial ?_
  simp only [Tryz.ntmps181, List.size_toArray, List.length_cons, List.length_nil, Nat.reduceAdd, Nat.reduceSub, Array.replicate_succ, Array.replicate_zero, List.push_toArray, List.append_toArray, List.nil_append, List.cons_append]
  gi_wp2_with (refine ⟨trivial, rfl, ?_⟩; gi_at_call 194; refine (callsIn_wide.2 (primes_make _)).mono ?_; rintro e w' ⟨rfl, rfl⟩)
  clear hz
  generalize hW0 : World.alloc _ (Obj.cells #[.int .i64 0] 3) = W0
  have hsz0 : w.heap.size + 3 ≤ W0.heap.size ∧ W0.heap.size ≤ w.heap.size + 3 := by rw [← hW0]; simp
  have m0 : RowAt W0 w.heap.size 193 (rowA 8 (wordsF startL 0)) := by rw [← hW0]; exact ((RowAt.new w _ _).alloc _).alloc _
  have m1 : RowAt W0 (w.heap.size + 1) 193 (rowA 8 (wordsF startL 0)) := by rw [← hW0]; have := RowAt.new (w.alloc (.cells (rowA 8 (wordsF startL 0)) 193)) (rowA 8 (wordsF startL 0)) 193; rw [World.size_alloc] at this; exact this.alloc _
  have m2 : RowAt W0 (w.heap.size + 2) 3 #[.int .i64 0] := by rw [← hW0]; have := RowAt.new ((w.alloc (.cells (rowA 8 (wordsF startL 0)) 193)).alloc (.cells (rowA 8 (wordsF startL 0)) 193)) #[.int .i64 0] 3; rwa [World.size_alloc, World.size_alloc] at this
  have hb0 : Below w.heap.size w W0 := by rw [← hW0]; exact below_al (below_al (below_al (Below.refl _ _) _) _) _
  clear hW0
  refine wp_iter_to_put (gf := 205) (lb := #[]) rfl (enters_of Tryz.func205 (by kernel_rfl) rfl) (primes_on W0)
    (fun _ h => h.elim) (fun _ h => h.elim) (fun _ => rfl) (fun x => [(3, .int .u64 (x : Nat))])
    (fun pre X => (RowAt X w.heap.size 193 (rowA 8 (wordsF startL 0)) ∧ RowAt X (w.heap.size + 1) 193 (rowA 8 (wordsF startL pre.length)) ∧ RowAt X (w.heap.size + 2) 3 #[.int .i64 (pre.length : Nat)] ∧ Below w.heap.size w X) ∧ pre.length ≤ 8)
    (fun c pre X => (RowAt X w.heap.size 193 (rowA 8 (wordsF startL 8)) ∧ Below w.heap.size w X) ∧ c = .ret) ?hno ?hI ?hIx ⟨⟨m0, m1, m2, hb0⟩, by simp⟩ ?assign ?body ?stop
  case hno =>
    rintro X ⟨_, h⟩
    rw [primes_len] at h; omega
  case hI =>
    rintro pre X Y ⟨⟨h1, h2, h3, h4⟩, h5⟩ hk
    have hT : ∀ k, (False ∨ twoOf W0.heap.size k) → w.heap.size + 3 ≤ k := by rintro k (h | h | h); exact h.elim; all_goals omega
    exact ⟨⟨hk.row h1 (fun x => by have := hT _ x; omega), hk.row h2 (fun x => by have := hT _ x; omega), hk.row h3 (fun x => by have := hT _ x; omega), below_kept h4 hk (Nat.le_refl _) (fun k x => by have := hT _ x; omega)⟩, h5⟩
  case hIx =>
    rintro c pre X Y ⟨⟨h1, h4⟩, h5⟩ hk
    have hT : ∀ k, (False ∨ twoOf W0.heap.size k) → w.heap.size + 3 ≤ k := by rintro k (h | h | h); exact h.elim; all_goals omega
    exact ⟨⟨hk.row h1 (fun x => by have := hT _ x; omega), below_kept h4 hk (Nat.le_refl _) (fun k x => by have := hT _ x; omega)⟩, h5⟩
  case assign =>
    intro l x W K hK
    gi_wp2
    simpa [encN, putAll] using hK
  case body =>
    rintro pre x post X hx hXs _ ⟨⟨h1, h2, h3, h4⟩, h5⟩
    have hxb : x < 65536 := prime_bound (by rw [hx]; simp)
    have q3 : X.cell? ⟨w.heap.size + 2, 0, none⟩ = some (.int .i64 (pre.length : Nat)) := h3.cell (j := 0) rfl
    simp only [putAll, encN, List.zip_toArray, List.foldl_toArray', List.foldl_toArray, List.zip_cons_cons, List.zip_nil_left, List.foldl_cons, List.foldl_nil, List.setIfInBounds_toArray, List.set_cons_zero, List.set_cons_succ]
    by_cases h8 : pre.length = 8
    · have hb : (((pre.length : Nat) : Int) == 8) = true := by rw [beq_iff_eq]; omega
      rw [h8] at h2
      replace hx := hid hx
      clear h8
      have g2 : X.heap[w.heap.size + 1]? = some (.cells (rowA 8 (wordsF startL 8)) 193 (0, 0)) := h2
      have g1 : X.heap[w.heap.size]? = some (.cells (rowA 8 (wordsF startL 0)) 193 (0, 0)) := h1
      replace g1 := hid g1
      replace g2 := hid g2
      gi_wp2_with (first | (refine wpListIn_load_row rfl 193 _ rfl (w.heap.size + 1) rfl 193 (rowA 8 (wordsF startL 8)) (0, 0) _ g2.out Tryz.underlying193 rfl (by rw [info8, rowA_size]) ?_) | (refine wpListIn_store_row rfl 193 _ _ rfl w.heap.size (rowA 8 (wordsF startL 8)) rfl rfl 193 (rowA 8 (wordsF startL 0)) g1.out (by rw [info8, rowA_size]) (by rw [rowA_size, rowA_size]) (wordsF_one _ _ _) ?_))
      exact ⟨(Kept.refl _ _).setRow _ (by simp [twoOf]; omega) _, ⟨h1.setRow _, below_setRow h4 (Nat.le_refl _) _⟩, rfl⟩
    · have hb : (((pre.length : Nat) : Int) == 8) = false := by rw [beq_eq_false_iff_ne]; omega
      have hk : pre.length < 8 := by omega
      have hki : ((pre.length : Nat) : Int) < 8 := by omega
      have hroot := fun w => root_square x hxb w
      rw [start_at hx hk] at hroot
      obtain ⟨v, hv⟩ : ∃ v, v = startL.getD pre.length 0 := ⟨_, rfl⟩
      rw [← hv] at hroot
      have e2 : ∀ q : Sub X, q.x.cell? ⟨w.heap.size + 2, 0, none⟩ = some (.int .i64 (pre.length : Nat)) := fun q => q.cell h3 rfl
      replace hroot := hid hroot
      replace hx := hid hx
      replace hv := hid hv
      gi_wp2
      refine wpIn_region_last_round (by kernel_rfl) (by kernel_rfl) (by kernel_rfl) (by kernel_rfl) 4 _ rfl rfl ?_
      simp only [muted, mute]
      repeat (go_big_quiet_step (first | (go_at_call 195; with_reducible refine Sub.same _ (hroot.out _))))
      refine wpQuiet_nil ?_
      intro q
      have k1 := h1.below q.h h1.lt
      have k2 := h2.below q.h h2.lt
      have k3 := h3.below q.h h3.lt
      have k4 := below_cat q.h h4
      have hkp := Kept.of_below (S := fun k => ¬ (twoOf W0.heap.size k ∨ False)) q.h
      obtain ⟨Y, hY⟩ : ∃ Y, Y = q.x := ⟨_, rfl⟩
      rw [← hY] at k1 k2 k3 k4 hkp ⊢
      have hfr := k2.free pre.length
      have hcf : Y.cell? ⟨w.heap.size + 1, pre.length, none⟩ = some (.int .u32 0) := k2.cell (by rw [rowA_get _ _ _ hk]; simp [wordsF])
      unfold Oper.wpIn
      simp [go_sem, hfr, hcf]
      have n1 := k1.other ⟨w.heap.size + 1, pre.length, none⟩ (.int .u32 (v : Nat)) (by simp)
      have n2 := (k2.set pre.length (.int .u32 (v : Nat))).eqA (A' := rowA 8 (wordsF startL (pre.length + 1))) (by rw [hv.out]; exact wordsF_set startL 8 pre.length hk)
      have n3 := k3.other ⟨w.heap.size + 1, pre.length, none⟩ (.int .u32 (v : Nat)) (by simp)
      have n4 := k4.setCell (p := ⟨w.heap.size + 1, pre.length, none⟩) (by simp) (.int .u32 (v : Nat))
      have n5 := hkp.setCell ⟨w.heap.size + 1, pre.length, none⟩ (.inl (by simp [twoOf]; omega)) (.int .u32 (v : Nat))
      obtain ⟨Z, hZ⟩ : ∃ Z, Z = Y.setCell ⟨w.heap.size + 1, pre.length, none⟩ (.int .u32 (v : Nat)) := ⟨_, rfl⟩
      rw [← hZ] at n1 n2 n3 n4 n5 ⊢
      have e3 : Z.cell? ⟨w.heap.size + 2, 0, none⟩ = some (.int .i64 (pre.length : Nat)) := n3.cell (j := 0) rfl
      have f3 := n3.free 0
      clear hZ hfr hcf k1 k2 k3 k4 hkp e2
      gi_wp2
      refine ⟨n5.setCell _ (.inl (by simp [twoOf]; omega)) _, ⟨n1.other _ _ (by simp <;> omega), ?_, ?_, n4.setCell (by simp <;> omega) _⟩, by simp; omega⟩
      · simpa using n2.other ⟨w.heap.size + 2, 0, none⟩ (.int .i64 (pre.length + 1 : Nat)) (by simp)
      · simpa using (n3.set 0 (.int .i64 (pre.length + 1 : Nat)))
  case stop =>
    rintro c pre x post X hsz hx ⟨⟨h1, h4⟩, rfl⟩ hd
    gi_wp2
    have r2 : RowAt (X.putObj W0.heap.size (.deferred none)) w.heap.size 193 (rowA 8 (wordsF startL 8)) := (World.putObj_heap_other (by omega)).trans h1
    refine leave_one hd ⟨_, results_cell_row rfl _ _ w.heap.size 193 (rowA 8 (wordsF startL 8)) (0, 0) _ rfl r2 Tryz.underlying193 rfl (by rw [info8, rowA_size]), rfl, ?_⟩
    exact below_kept h4 ((Kept.refl (fun k => k = W0.heap.size) _).putObj _ _ (.inl rfl)) (Nat.le_refl _) (fun k hk => by omega)
end
section
open Go Go.RowKit
set_option linter.unusedSimpArgs false

/-- A word turned to the right, round. -/
def rot (x n : Nat) : Nat := x / 2 ^ n + x % 2 ^ n * 2 ^ (32 - n)

theorem and31 (x : Int) (h0 : 0 ≤ x) (h1 : x < 18446744073709551616) : bits .and .u64 x 31 = x % 32 :=
  bits_mask .u64 64 (by decide) (fun n h h' => by rw [IntKind.wrap_u64]; omega) 5 (by decide) x h0 h1
theorem rot_or (x n : Nat) (hn : n ≤ 32) (hx : x < 4294967296) : x / 2 ^ n ||| x % 2 ^ n * 2 ^ (32 - n) = rot x n := by
  have e : (4294967296 : Nat) = 2 ^ (32 - n) * 2 ^ n := by rw [← Nat.pow_add]; rw [show 32 - n + n = 32 by omega]
  have h1 : x / 2 ^ n < 2 ^ (32 - n) := by
    rw [Nat.div_lt_iff_lt_mul (Nat.two_pow_pos n), ← e]; exact hx
  have := Nat.two_pow_add_eq_or_of_lt (i := 32 - n) (b := x / 2 ^ n) h1 (x % 2 ^ n)
  unfold rot
  rw [Nat.or_comm, Nat.mul_comm, ← this, Nat.add_comm]
theorem rot_shift (x n : Nat) (hn : n ≤ 32) (hx : x < 4294967296) : x * 2 ^ (32 - n) % 4294967296 = x % 2 ^ n * 2 ^ (32 - n) := by
  have e : (4294967296 : Nat) = 2 ^ n * 2 ^ (32 - n) := by rw [← Nat.pow_add]; rw [show n + (32 - n) = 32 by omega]
  rw [e, Nat.mul_mod_mul_right]
theorem rot_lt (x n : Nat) (hn : n ≤ 32) (hx : x < 4294967296) : rot x n < 4294967296 := by
  have e : (4294967296 : Nat) = 2 ^ (32 - n) * 2 ^ n := by rw [← Nat.pow_add]; rw [show 32 - n + n = 32 by omega]
  have e2 : (4294967296 : Nat) = 2 ^ 32 := by decide
  rw [← rot_or x n hn hx, e2]
  refine Nat.or_lt_two_pow ?_ ?_
  · exact Nat.lt_of_le_of_lt (Nat.div_le_self _ _) (by omega)
  · have := Nat.mod_lt x (Nat.two_pow_pos n)
    rw [← e2, e, Nat.mul_comm (2 ^ (32 - n))]
    exact Nat.mul_lt_mul_of_pos_right this (Nat.two_pow_pos _)
theorem rot_bits (x n : Nat) (hn : n ≤ 32) (hx : x < 4294967296) : bits BinOp.or IntKind.u32 ((x : Int) / 2 ^ n) ((x : Int) * 2 ^ (32 - n) % 4294967296) = (rot x n : Int) := by
  have h := rot_lt x n hn hx
  have e1 : (x : Int) / 2 ^ n = ((x / 2 ^ n : Nat) : Int) := by simp
  have e2 : (x : Int) * 2 ^ (32 - n) % 4294967296 = ((x % 2 ^ n * 2 ^ (32 - n) : Nat) : Int) := by rw [← rot_shift x n hn hx]; simp
  rw [e1, e2, u32_or_nat _ _ (Nat.lt_of_le_of_lt (Nat.div_le_self _ _) hx) (by rw [← rot_shift x n hn hx]; exact Nat.mod_lt _ (by decide)), rot_or x n hn hx]
theorem rot_left (x m : Nat) (hx : x < 4294967296) (hm : 0 < m) (hm2 : m < 32) : bits BinOp.or IntKind.u32 ((x : Int) * 2 ^ m % 4294967296) ((x : Int) / 2 ^ (32 - m)) = (rot x (32 - m) : Int) := by
  obtain ⟨n, hn, rfl⟩ : ∃ n, n ≤ 32 ∧ m = 32 - n := ⟨32 - m, by omega, by omega⟩
  have e1 : (x : Int) / 2 ^ n = ((x / 2 ^ n : Nat) : Int) := by simp
  have e2 : (x : Int) * 2 ^ (32 - n) % 4294967296 = ((x % 2 ^ n * 2 ^ (32 - n) : Nat) : Int) := by rw [← rot_shift x n hn hx]; simp
  rw [show 32 - (32 - n) = n by omega, e1, e2, u32_or_nat _ _ (by rw [← rot_shift x n hn hx]; exact Nat.mod_lt _ (by decide)) (Nat.lt_of_le_of_lt (Nat.div_le_self _ _) hx), Nat.or_comm, rot_or x n hn hx]
theorem rotl_any (x n : Nat) (hx : x < 4294967296) (hn : 0 < n) (hn2 : n < 32) (w : World) : Calls Tryz.prog 206 #[.int .u32 x, .int .i64 (-(n : Int))] w fun e w' => e = .returned (.int .u32 (rot x n : Nat)) ∧ w = w' := by
  obtain ⟨m, rfl⟩ : ∃ m, n = 32 - m := ⟨32 - n, by omega⟩
  have hm : 0 < m ∧ m < 32 := by omega
  have h1 : bits BinOp.and IntKind.u64 (IntKind.u64.wrap (-((32 - m : Nat) : Int))) 31 = (m : Int) := by
    rw [show IntKind.u64.wrap (-((32 - m : Nat) : Int)) = 18446744073709551584 + (m : Int) by rw [IntKind.wrap_u64]; omega, and31 _ (by omega) (by omega)]; omega
  have h2 : (m : Int) ≤ 31 := by omega
  have h3 : (0 : Int) ≤ (m : Int) := by omega
  go_enter Tryz.func206, Tryz.ntmps206
  go_wp2
  go_ret
  exact ⟨ret_int (rot_left x m hx hm.1 hm.2), rfl⟩
theorem turn_any (x n : Nat) (hx : x < 4294967296) (hn : 0 < n) (hn2 : n < 32) (w : World) : Calls Tryz.prog 200 #[.int .u32 x, .int .i64 (n : Int)] w fun e w' => e = .returned (.int .u32 (rot x n : Nat)) ∧ w = w' := by
  have h1 : IntKind.i64.wrap (-(n : Int)) = -(n : Int) := by rw [IntKind.wrap_i64]; omega
  go_enter Tryz.func200, Tryz.ntmps200
  go_wp2_with (go_at_call 206; refine (rotl_any x n hx hn hn2 _).mono ?_; rintro e w' ⟨rfl, rfl⟩)
  go_ret
  exact ⟨rfl, rfl⟩
end
section
open Go

structure St where
  a : Nat
  b : Nat
  c : Nat
  d : Nat
  e : Nat
  f : Nat
  g : Nat
  h : Nat
def St.cells (s : St) : Array Value := #[.int .u32 (s.a : Nat), .int .u32 (s.b : Nat), .int .u32 (s.c : Nat), .int .u32 (s.d : Nat), .int .u32 (s.e : Nat), .int .u32 (s.f : Nat), .int .u32 (s.g : Nat), .int .u32 (s.h : Nat)]
structure St.Ok (s : St) : Prop where
  a : s.a < 4294967296
  b : s.b < 4294967296
  c : s.c < 4294967296
  d : s.d < 4294967296
  e : s.e < 4294967296
  f : s.f < 4294967296
  g : s.g < 4294967296
  h : s.h < 4294967296
def ad (x y : Nat) : Nat := (x + y) % 4294967296
theorem ad_lt (x y : Nat) : ad x y < 4294967296 := Nat.mod_lt _ (by decide)
def sm0 (x : Nat) : Nat := (rot x 7 ^^^ rot x 18) ^^^ x / 8
def sm1 (x : Nat) : Nat := (rot x 17 ^^^ rot x 19) ^^^ x / 1024
def sg1 (e : Nat) : Nat := (rot e 6 ^^^ rot e 11) ^^^ rot e 25
def sg0 (a : Nat) : Nat := (rot a 2 ^^^ rot a 13) ^^^ rot a 22
def chF (e f g : Nat) : Nat := (e &&& f) ^^^ ((4294967295 - e) &&& g)
def majF (a b c : Nat) : Nat := ((a &&& b) ^^^ (a &&& c)) ^^^ (b &&& c)
def xF (k w : Nat) (s : St) : Nat := (s.h + sg1 s.e + chF s.e s.f s.g + k + w) % 4294967296
def yF (s : St) : Nat := ad (sg0 s.a) (majF s.a s.b s.c)
def rnd (k w : Nat) (s : St) : St := ⟨ad (xF k w s) (yF s), s.a, s.b, s.c, ad s.d (xF k w s), s.e, s.f, s.g⟩
def rnds (K W : List Nat) (s : St) : Nat → St
  | 0 => s
  | i + 1 => rnd (K.getD i 0) (W.getD i 0) (rnds K W s i)
theorem rnds_ok (K W : List Nat) (s : St) (h : s.Ok) : ∀ i, (rnds K W s i).Ok
  | 0 => h
  | i + 1 => by
    have ih := rnds_ok K W s h i
    exact ⟨ad_lt _ _, ih.a, ih.b, ih.c, ad_lt _ _, ih.e, ih.f, ih.g⟩
def wordAt (b : List UInt8) (i : Nat) : Nat := getN ((b.drop (4 * i)).take 4)
theorem wordAt_lt (b : List UInt8) (i : Nat) : wordAt b i < 4294967296 := by
  have h := getN_lt ((b.drop (4 * i)).take 4)
  have h2 : ((b.drop (4 * i)).take 4).length ≤ 4 := by simp; omega
  have h3 := Nat.pow_le_pow_right (n := 256) (by decide) h2
  have h4 : (256 : Nat) ^ 4 = 4294967296 := by decide
  unfold wordAt
  rw [h4] at h3
  exact Nat.lt_of_lt_of_le h h3
def nextW (L : List Nat) (i : Nat) : Nat := (L.getD (i - 16) 0 + sm0 (L.getD (i - 15) 0) + L.getD (i - 7) 0 + sm1 (L.getD (i - 2) 0)) % 4294967296
theorem nextW_lt (L : List Nat) (i : Nat) : nextW L i < 4294967296 := Nat.mod_lt _ (by decide)
def sched (b : List UInt8) : Nat → List Nat
  | 0 => []
  | i + 1 => sched b i ++ [if i < 16 then wordAt b i else nextW (sched b i) i]
theorem sched_len (b : List UInt8) : ∀ i, (sched b i).length = i
  | 0 => rfl
  | i + 1 => by rw [sched, List.length_append, sched_len b i]; rfl
theorem sched_get (b : List UInt8) (n i : Nat) (h : i < n) : (sched b n).getD i 0 = if i < 16 then wordAt b i else nextW (sched b i) i := by
  induction n with
  | zero => omega
  | succ n ih =>
    rw [sched, List.getD_eq_getElem?_getD]
    by_cases e : i = n
    · subst e
      rw [List.getElem?_append_right (by rw [sched_len]; exact Nat.le_refl _), sched_len, Nat.sub_self, List.getElem?_cons_zero, Option.getD_some]
    · rw [List.getElem?_append_left (by rw [sched_len]; omega), ← List.getD_eq_getElem?_getD]
      exact ih (by omega)
theorem sched_next (b : List UInt8) (n i : Nat) (h : i < n) (h16 : 16 ≤ i) : (sched b n).getD i 0 = nextW (sched b n) i := by
  have key : ∀ j, j < i → (sched b n).getD j 0 = (sched b i).getD j 0 := fun j hj => by
    rw [sched_get b n j (by omega), sched_get b i j hj]
  rw [sched_get b n i h, if_neg (by omega)]
  unfold nextW
  rw [key (i - 16) (by omega), key (i - 15) (by omega), key (i - 7) (by omega), key (i - 2) (by omega)]
theorem sched_lt (b : List UInt8) (n i : Nat) : (sched b n).getD i 0 < 4294967296 := by
  by_cases h : i < n
  · rw [sched_get b n i h]
    split
    · exact wordAt_lt _ _
    · exact nextW_lt _ _
  · rw [List.getD_eq_getElem?_getD, List.getElem?_eq_none (by rw [sched_len]; omega)]; decide
theorem keyL_lt (i : Nat) : keyL.getD i 0 < 4294967296 := by
  by_cases h : i < 64
  · have : ∀ i, i < 64 → keyL.getD i 0 < 4294967296 := by decide +kernel
    exact this i h
  · have e : keyL.length = 64 := by decide +kernel
    rw [List.getD_eq_getElem?_getD, List.getElem?_eq_none (by rw [e]; omega)]; decide
theorem xor32 {x y : Nat} (hx : x < 4294967296) (hy : y < 4294967296) : x ^^^ y < 4294967296 := Nat.xor_lt_two_pow (n := 32) hx hy
theorem and32 {x y : Nat} (hx : x < 4294967296) : x &&& y < 4294967296 := Nat.lt_of_le_of_lt Nat.and_le_left hx
theorem sm0_bits (x : Nat) (hx : x < 4294967296) : bits .xor .u32 (bits .xor .u32 ((rot x 7 : Nat) : Int) ((rot x 18 : Nat) : Int)) ((x : Int) / 8) = ((sm0 x : Nat) : Int) := by
  have h1 := rot_lt x 7 (by decide) hx
  have h2 := rot_lt x 18 (by decide) hx
  have h3 : x / 8 < 4294967296 := Nat.lt_of_le_of_lt (Nat.div_le_self _ _) hx
  rw [show ((x : Int) / 8) = ((x / 8 : Nat) : Int) by simp, u32_xor_nat _ _ h1 h2, u32_xor_nat _ _ (xor32 h1 h2) h3]; rfl
theorem sm1_bits (x : Nat) (hx : x < 4294967296) : bits .xor .u32 (bits .xor .u32 ((rot x 17 : Nat) : Int) ((rot x 19 : Nat) : Int)) ((x : Int) / 1024) = ((sm1 x : Nat) : Int) := by
  have h1 := rot_lt x 17 (by decide) hx
  have h2 := rot_lt x 19 (by decide) hx
  have h3 : x / 1024 < 4294967296 := Nat.lt_of_le_of_lt (Nat.div_le_self _ _) hx
  rw [show ((x : Int) / 1024) = ((x / 1024 : Nat) : Int) by simp, u32_xor_nat _ _ h1 h2, u32_xor_nat _ _ (xor32 h1 h2) h3]; rfl
theorem sg1_bits (x : Nat) (hx : x < 4294967296) : bits .xor .u32 (bits .xor .u32 ((rot x 6 : Nat) : Int) ((rot x 11 : Nat) : Int)) ((rot x 25 : Nat) : Int) = ((sg1 x : Nat) : Int) := by
  have h1 := rot_lt x 6 (by decide) hx
  have h2 := rot_lt x 11 (by decide) hx
  have h3 := rot_lt x 25 (by decide) hx
  rw [u32_xor_nat _ _ h1 h2, u32_xor_nat _ _ (xor32 h1 h2) h3]; rfl
theorem sg0_bits (x : Nat) (hx : x < 4294967296) : bits .xor .u32 (bits .xor .u32 ((rot x 2 : Nat) : Int) ((rot x 13 : Nat) : Int)) ((rot x 22 : Nat) : Int) = ((sg0 x : Nat) : Int) := by
  have h1 := rot_lt x 2 (by decide) hx
  have h2 := rot_lt x 13 (by decide) hx
  have h3 := rot_lt x 22 (by decide) hx
  rw [u32_xor_nat _ _ h1 h2, u32_xor_nat _ _ (xor32 h1 h2) h3]; rfl
theorem chF_bits (e f g : Nat) (he : e < 4294967296) (hf : f < 4294967296) (_hg : g < 4294967296) : bits .xor .u32 (bits .and .u32 (e : Int) (f : Int)) (bits .and .u32 (4294967295 - (e : Int)) (g : Int)) = ((chF e f g : Nat) : Int) := by
  have h1 : 4294967295 - e < 4294967296 := by omega
  rw [show (4294967295 - (e : Int)) = ((4294967295 - e : Nat) : Int) by omega, u32_and_nat _ _ he hf, u32_and_nat _ _ h1 _hg, u32_xor_nat _ _ (and32 he) (and32 h1)]; rfl
theorem majF_bits (a b c : Nat) (ha : a < 4294967296) (hb : b < 4294967296) (hc : c < 4294967296) : bits .xor .u32 (bits .xor .u32 (bits .and .u32 (a : Int) (b : Int)) (bits .and .u32 (a : Int) (c : Int))) (bits .and .u32 (b : Int) (c : Int)) = ((majF a b c : Nat) : Int) := by
  rw [u32_and_nat _ _ ha hb, u32_and_nat _ _ ha hc, u32_and_nat _ _ hb hc, u32_xor_nat _ _ (and32 ha) (and32 ha), u32_xor_nat _ _ (xor32 (and32 ha) (and32 ha)) (and32 hb)]; rfl
theorem nextW_int (L : List Nat) (i a16 a15 a7 a2 s0 s1 : Nat) (h16 : a16 = L.getD (i - 16) 0) (h15 : s0 = sm0 (L.getD (i - 15) 0)) (h7 : a7 = L.getD (i - 7) 0) (h2 : s1 = sm1 (L.getD (i - 2) 0)) :
    ((a16 : Int) + (s0 : Int) + (a7 : Int) + (s1 : Int)) % 4294967296 = ((nextW L i : Nat) : Int) := by
  subst h16 h15 h7 h2; unfold nextW; simp
theorem xF_int (t : St) (k w : Nat) : ∃ p1 p2 p3 x : Nat, ((t.h : Int) + (sg1 t.e : Nat)) % 4294967296 = (p1 : Int) ∧ ((p1 : Int) + (chF t.e t.f t.g : Nat)) % 4294967296 = (p2 : Int) ∧ ((p2 : Int) + (k : Nat)) % 4294967296 = (p3 : Int) ∧ ((p3 : Int) + (w : Nat)) % 4294967296 = (x : Int) ∧ x = xF k w t := by
  refine ⟨(t.h + sg1 t.e) % 4294967296, ((t.h + sg1 t.e) % 4294967296 + chF t.e t.f t.g) % 4294967296, (((t.h + sg1 t.e) % 4294967296 + chF t.e t.f t.g) % 4294967296 + k) % 4294967296, _, by simp, by simp, by simp, ?_, rfl⟩
  unfold xF; simp
theorem not_bits (e : Nat) (he : e < 4294967296) : bits .xor .u32 (if IntKind.u32.signed = true then -1 else IntKind.u32.max) (e : Int) = 4294967295 - (e : Int) := by
  have h : (if IntKind.u32.signed = true then (-1 : Int) else IntKind.u32.max) = ((4294967295 : Nat) : Int) := by decide
  have h2 : (4294967295 : Nat) ^^^ e = 4294967295 - e := by
    have e1 : (4294967295 : Nat) = 2 ^ 32 - 1 := by decide
    have e2 : 4294967295 - e = 2 ^ 32 - (e + 1) := by have : (2 : Nat) ^ 32 = 4294967296 := by decide
                                                      omega
    rw [e2, e1]
    refine Nat.eq_of_testBit_eq fun i => ?_
    rw [Nat.testBit_xor, Nat.testBit_two_pow_sub_one, Nat.testBit_two_pow_sub_succ he]
    by_cases hi : i < 32
    · simp [hi]
    · have : e.testBit i = false := Nat.testBit_lt_two_pow (Nat.lt_of_lt_of_le he (Nat.pow_le_pow_right (n := 2) (by decide) (show 32 ≤ i by omega)))
      simp [hi, this]
  rw [h, u32_xor_nat _ _ (by decide) he, h2]; omega
def plus (s t : St) : St := ⟨ad s.a t.a, ad s.b t.b, ad s.c t.c, ad s.d t.d, ad s.e t.e, ad s.f t.f, ad s.g t.g, ad s.h t.h⟩
def comp (s : St) (b : List UInt8) : St := plus s (rnds keyL (sched b 64) s 64)
theorem comp_ok (s : St) (b : List UInt8) : (comp s b).Ok := ⟨ad_lt _ _, ad_lt _ _, ad_lt _ _, ad_lt _ _, ad_lt _ _, ad_lt _ _, ad_lt _ _, ad_lt _ _⟩
def St.nth (s : St) : Nat → Nat
  | 0 => s.a
  | 1 => s.b
  | 2 => s.c
  | 3 => s.d
  | 4 => s.e
  | 5 => s.f
  | 6 => s.g
  | 7 => s.h
  | _ => 0
/-- The first k words added, the others as they were. -/
def mixV (s t : St) (k j : Nat) : Value := .int .u32 (((if j < k then ad (s.nth j) (t.nth j) else s.nth j) : Nat) : Int)
theorem lt8 {j : Nat} (h : j < 8) : j = 0 ∨ j = 1 ∨ j = 2 ∨ j = 3 ∨ j = 4 ∨ j = 5 ∨ j = 6 ∨ j = 7 := by omega
theorem mix_zero (s t : St) : s.cells = rowA 8 (mixV s t 0) := rowA_of rfl fun j h => by
  rcases lt8 h with rfl | rfl | rfl | rfl | rfl | rfl | rfl | rfl <;> rfl
theorem mix_all (s t : St) : rowA 8 (mixV s t 8) = (plus s t).cells := by
  refine (rowA_of (n := 8) (A := (plus s t).cells) rfl fun j h => ?_).symm
  rcases lt8 h with rfl | rfl | rfl | rfl | rfl | rfl | rfl | rfl <;> rfl
theorem cells_nth (s : St) {j : Nat} (h : j < 8) : s.cells[j]? = some (.int .u32 (s.nth j : Nat)) := by
  rcases lt8 h with rfl | rfl | rfl | rfl | rfl | rfl | rfl | rfl <;> rfl
theorem mix_set (s t : St) (k : Nat) (_h : k < 8) : (rowA 8 (mixV s t k)).setIfInBounds k (.int .u32 ((ad (s.nth k) (t.nth k) : Nat) : Int)) = rowA 8 (mixV s t (k + 1)) := by
  rw [rowA_set]
  refine rowA_ext fun j hj => ?_
  unfold mixV
  by_cases e : j = k
  · subst e; rw [if_pos rfl, if_pos (by omega)]
  · rw [if_neg e]
    by_cases e2 : j < k
    · rw [if_pos e2, if_pos (by omega)]
    · rw [if_neg e2, if_neg (by omega)]
end
end
end Go.Proofs.YtdjlpmelmhhooaaGreatDoor
