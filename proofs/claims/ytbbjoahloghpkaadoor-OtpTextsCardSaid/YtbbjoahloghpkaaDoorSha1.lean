/- cube, square, root: the walks. -/
import Derived.Test.YtbbjoahloghpkaaDoorSha0
import Derived.Test.YtbbjoahloghpkaaDoorShM
namespace Go.Proofs.YtbbjoahloghpkaaDoor
open Go Go.RowKit
set_option linter.unusedSimpArgs false

theorem mul64_eq (x y : Nat) (hx : x < 18446744073709551616) (hy : y < 18446744073709551616) (w : World) : Calls Tryd.prog 74 #[.int .u64 x, .int .u64 y] w fun e w' =>
    e = .returned (.tuple #[.int .u64 ((x * y / 18446744073709551616 : Nat) : Int), .int .u64 ((x * y % 18446744073709551616 : Nat) : Int)]) ∧ w = w' :=
  (shm_bits_Mul64 x y hx hy w).mono fun _ _ ⟨h1, h2⟩ => ⟨h1, h2.symm⟩
set_option maxRecDepth 10000000 in
set_option maxHeartbeats 2000000 in
theorem cube_any (x p : Nat) (hx : x < 274877906944) (hp : p < 65536) (w : World) : Calls Tryd.prog 119 #[.int .u64 x, .int .u64 p] w fun e w' => e = .returned (.bool (cubeV x p)) ∧ w = w' := by
  have hsq : x * x < 75557863725914323419136 := by
    have := Nat.mul_lt_mul'' hx hx
    simpa using this
  obtain ⟨h, hh⟩ : ∃ h, h = x * x / 18446744073709551616 := ⟨_, rfl⟩
  obtain ⟨l, hl⟩ : ∃ l, l = x * x % 18446744073709551616 := ⟨_, rfl⟩
  have hh1 : h < 4096 := by omega
  have hl1 : l < 18446744073709551616 := by omega
  have hlx : l * x < 5070602400912917605986812821504 := by
    have := Nat.mul_lt_mul'' hl1 hx
    simpa using this
  obtain ⟨h2, hh2⟩ : ∃ h2, h2 = l * x / 18446744073709551616 := ⟨_, rfl⟩
  obtain ⟨l2, hl2⟩ : ∃ l2, l2 = l * x % 18446744073709551616 := ⟨_, rfl⟩
  have hh21 : h2 < 274877906944 := by omega
  have M1 := fun w => mul64_eq x x (by omega) (by omega) w
  have M2 := fun w => mul64_eq l x hl1 (by omega) w
  rw [← hh, ← hl] at M1
  rw [← hh2, ← hl2] at M2
  have hhx : h * x < 1125899906842624 := by
    have := Nat.mul_lt_mul'' hh1 hx
    simpa using this
  obtain ⟨hx', hhx'⟩ : ∃ hx', hx' = h * x := ⟨_, rfl⟩
  have hmul : (h : Int) * (x : Int) = (hx' : Int) := by rw [hhx']; simp
  rw [← hhx'] at hhx
  have hxi : (hx' : Int) < 1125899906842624 := by omega
  have hv : cubeV x p = (decide (hx' + h2 < p * 4294967296) || (decide (hx' + h2 = p * 4294967296) && decide (l2 = 0))) := by
    unfold cubeV; simp only [← hh, ← hl, ← hh2, ← hl2, ← hhx']
  rw [hv]
  have hpi : (p : Int) < 65536 := by omega
  have h2i : (h2 : Int) < 274877906944 := by omega
  replace M1 := hid M1
  replace M2 := hid M2
  clear hh hl hh2 hl2 hhx' hsq hlx hv
  by_cases c1 : hx' + h2 < p * 4294967296
  · have d1 : decide ((hx' : Int) + (h2 : Int) < (p : Int) * 4294967296) = true := by rw [decide_eq_true_iff]; omega
    rw [decide_eq_true c1, Bool.true_or]
    clear c1
    go_enter Tryd.func119, Tryd.ntmps119
    go_wp2_with (first
      | (go_at_call 74; with_reducible refine (M1.out _).mono ?_; rintro e w' ⟨rfl, rfl⟩)
      | (go_at_call 74; with_reducible refine (M2.out _).mono ?_; rintro e w' ⟨rfl, rfl⟩))
    go_ret
    exact ⟨rfl, rfl⟩
  · have d1 : decide ((hx' : Int) + (h2 : Int) < (p : Int) * 4294967296) = false := by rw [decide_eq_false_iff_not]; omega
    rw [decide_eq_false c1, Bool.false_or]
    clear c1
    by_cases c2 : hx' + h2 = p * 4294967296
    · have d2 : (((hx' : Int) + (h2 : Int)) == (p : Int) * 4294967296) = true := by rw [beq_iff_eq]; omega
      rw [decide_eq_true c2, Bool.true_and]
      clear c2
      by_cases c3 : l2 = 0
      · have d3 : ((l2 : Int) == 0) = true := by rw [beq_iff_eq]; omega
        rw [decide_eq_true c3]
        clear c3
        go_enter Tryd.func119, Tryd.ntmps119
        go_wp2_with (first
          | (go_at_call 74; with_reducible refine (M1.out _).mono ?_; rintro e w' ⟨rfl, rfl⟩)
          | (go_at_call 74; with_reducible refine (M2.out _).mono ?_; rintro e w' ⟨rfl, rfl⟩))
        go_ret
        exact ⟨rfl, rfl⟩
      · have d3 : ((l2 : Int) == 0) = false := by rw [beq_eq_false_iff_ne]; omega
        rw [decide_eq_false c3]
        clear c3
        go_enter Tryd.func119, Tryd.ntmps119
        go_wp2_with (first
          | (go_at_call 74; with_reducible refine (M1.out _).mono ?_; rintro e w' ⟨rfl, rfl⟩)
          | (go_at_call 74; with_reducible refine (M2.out _).mono ?_; rintro e w' ⟨rfl, rfl⟩))
        go_ret
        exact ⟨rfl, rfl⟩
    · have d2 : (((hx' : Int) + (h2 : Int)) == (p : Int) * 4294967296) = false := by rw [beq_eq_false_iff_ne]; omega
      rw [decide_eq_false c2, Bool.false_and]
      clear c2
      go_enter Tryd.func119, Tryd.ntmps119
      go_wp2_with (first
        | (go_at_call 74; with_reducible refine (M1.out _).mono ?_; rintro e w' ⟨rfl, rfl⟩)
        | (go_at_call 74; with_reducible refine (M2.out _).mono ?_; rintro e w' ⟨rfl, rfl⟩))
      go_ret
      exact ⟨rfl, rfl⟩

set_option maxRecDepth 10000000 in
set_option maxHeartbeats 2000000 in
theorem square_any (x p : Nat) (hx : x < 274877906944) (hp : p < 65536) (w : World) : Calls Tryd.prog 118 #[.int .u64 x, .int .u64 p] w fun e w' => e = .returned (.bool (squareV x p)) ∧ w = w' := by
  have hsq : x * x < 75557863725914323419136 := by
    have := Nat.mul_lt_mul'' hx hx
    simpa using this
  obtain ⟨h, hh⟩ : ∃ h, h = x * x / 18446744073709551616 := ⟨_, rfl⟩
  obtain ⟨l, hl⟩ : ∃ l, l = x * x % 18446744073709551616 := ⟨_, rfl⟩
  have M1 := fun w => mul64_eq x x (by omega) (by omega) w
  rw [← hh, ← hl] at M1
  have hv : squareV x p = (decide (h < p) || (decide (h = p) && decide (l = 0))) := by
    unfold squareV; simp only [← hh, ← hl]
  rw [hv]
  replace M1 := hid M1
  clear hh hl hsq hv
  by_cases c1 : h < p
  · have d1 : decide (h < p) = true := decide_eq_true c1
    rw [d1, Bool.true_or]
    clear c1
    go_enter Tryd.func118, Tryd.ntmps118
    go_wp2_with (go_at_call 74; refine (M1.out _).mono ?_; rintro e w' ⟨rfl, rfl⟩)
    go_ret
    exact ⟨rfl, rfl⟩
  · have d1 : decide (h < p) = false := decide_eq_false c1
    rw [d1, Bool.false_or]
    clear c1
    by_cases c2 : h = p
    · have d2 : ((h : Int) == (p : Int)) = true := by rw [beq_iff_eq]; omega
      have d2' : (h == p) = true := by rw [beq_iff_eq]; omega
      rw [decide_eq_true c2, Bool.true_and]
      clear c2
      by_cases c3 : l = 0
      · have d3 : ((l : Int) == 0) = true := by rw [beq_iff_eq]; omega
        rw [decide_eq_true c3]
        clear c3
        go_enter Tryd.func118, Tryd.ntmps118
        go_wp2_with (go_at_call 74; refine (M1.out _).mono ?_; rintro e w' ⟨rfl, rfl⟩)
        go_ret
        exact ⟨rfl, rfl⟩
      · have d3 : ((l : Int) == 0) = false := by rw [beq_eq_false_iff_ne]; omega
        rw [decide_eq_false c3]
        clear c3
        go_enter Tryd.func118, Tryd.ntmps118
        go_wp2_with (go_at_call 74; refine (M1.out _).mono ?_; rintro e w' ⟨rfl, rfl⟩)
        go_ret
        exact ⟨rfl, rfl⟩
    · have d2 : ((h : Int) == (p : Int)) = false := by rw [beq_eq_false_iff_ne]; omega
      have d2' : (h == p) = false := by rw [beq_eq_false_iff_ne]; omega
      rw [decide_eq_false c2, Bool.false_and]
      clear c2
      go_enter Tryd.func118, Tryd.ntmps118
      go_wp2_with (go_at_call 74; refine (M1.out _).mono ?_; rintro e w' ⟨rfl, rfl⟩)
      go_ret
      exact ⟨rfl, rfl⟩

end Go.Proofs.YtbbjoahloghpkaaDoor
