/- root: the walk. -/
import Derived.Test.YtbbjoahloghpkaaDoorSha1
namespace Go.Proofs.YtbbjoahloghpkaaDoor
open Go Go.RowKit
set_option linter.unusedSimpArgs false

theorem or_bit (x m : Nat) (h : x % 2 ^ (m + 1) = 0) (hx : x < 274877906944) (hm : m ≤ 37) : bits .or .u64 (x : Int) ((2 ^ m : Nat) : Int) = ((x + 2 ^ m : Nat) : Int) := by
  have h1 : (2 : Nat) ^ m ≤ 2 ^ 37 := Nat.pow_le_pow_right (by omega) hm
  have h2 := u64_or_nat x (2 ^ m) (by omega) (by omega)
  rw [h2]
  obtain ⟨c, hc⟩ := Nat.dvd_of_mod_eq_zero h
  have h3 : 2 ^ m < 2 ^ (m + 1) := Nat.pow_lt_pow_right (by omega) (by omega)
  have := Nat.two_pow_add_eq_or_of_lt (i := m + 1) (b := 2 ^ m) h3 c
  rw [hc, ← this]
theorem pow_form0 (m : Nat) (hm : m ≤ 37) : (2 : Int) ^ m % 18446744073709551616 = ((2 ^ m : Nat) : Int) := by
  have h1 : (2 : Nat) ^ m ≤ 2 ^ 37 := Nat.pow_le_pow_right (by omega) hm
  have e : ((2 : Int) ^ m) = ((2 ^ m : Nat) : Int) := by simp
  rw [e]
  generalize 2 ^ m = q at *
  omega

theorem pow_form (m : Nat) (hm : m ≤ 37) : IntKind.u64.wrap ((2 : Int) ^ m) = ((2 ^ m : Nat) : Int) := by
  rw [IntKind.wrap_u64]; exact pow_form0 m hm
theorem root_facts (m x : Nat) (h0 : x % 2 ^ (m + 1) = 0) (hx : x < 274877906944) (hm : m ≤ 37) : x + 2 ^ m < 274877906944 ∧ (x + 2 ^ m) % 2 ^ m = 0 ∧ x % 2 ^ m = 0 ∧ 2 ^ m ≤ 137438953472 := by
  have h2m : 2 ^ m ≤ 2 ^ 37 := Nat.pow_le_pow_right (by decide) hm
  have e37 : (2 : Nat) ^ 37 = 137438953472 := by decide
  have h0a : (x + 2 ^ m) % 2 ^ m = 0 := by
    rw [Nat.add_mod_right]
    exact Nat.mod_eq_zero_of_dvd (Nat.dvd_trans ⟨2, Nat.pow_succ 2 m⟩ (Nat.dvd_of_mod_eq_zero h0))
  have h0b : x % 2 ^ m = 0 := by rwa [Nat.add_mod_right] at h0a
  refine ⟨?_, h0a, h0b, by rw [← e37]; exact h2m⟩
  obtain ⟨c, hc⟩ := Nat.dvd_of_mod_eq_zero h0
  obtain ⟨j, hj⟩ : ∃ j, 38 = m + 1 + j := ⟨37 - m, by omega⟩
  have e38 : (274877906944 : Nat) = 2 ^ (m + 1) * 2 ^ j := by rw [← Nat.pow_add, ← hj]
  rw [e38] at hx ⊢
  rw [hc] at hx ⊢
  have hcj : c < 2 ^ j := Nat.lt_of_mul_lt_mul_left hx
  have h1 : 2 ^ (m + 1) * c + 2 ^ (m + 1) ≤ 2 ^ (m + 1) * 2 ^ j := by rw [← Nat.mul_succ]; exact Nat.mul_le_mul_left _ hcj
  have hp0 : 0 < 2 ^ m := Nat.two_pow_pos m
  have e : 2 ^ (m + 1) = 2 ^ m * 2 := Nat.pow_succ 2 m
  generalize 2 ^ (m + 1) * c = A at *
  generalize 2 ^ (m + 1) * 2 ^ j = B at *
  generalize 2 ^ m = q at *
  omega

theorem root_step (f : Nat → Nat → Bool) (p m x R : Nat) (hr : rootF f p (m + 1) x = R) (h0 : x % 2 ^ (m + 1) = 0) (hx : x < 274877906944) (hm : m ≤ 37) :
    ∃ q y : Nat, y < 274877906944 ∧ q ≤ 137438953472 ∧ bits .or .u64 (x : Int) (q : Int) = (y : Int) ∧ IntKind.u64.wrap ((2 : Int) ^ m) = (q : Int) ∧ y % 2 ^ m = 0 ∧ x % 2 ^ m = 0 ∧ rootF f p m (if f y p then y else x) = R := by
  obtain ⟨hlt, h0a, h0b, h2m⟩ := root_facts m x h0 hx hm
  exact ⟨2 ^ m, x + 2 ^ m, hlt, h2m, or_bit x m h0 hx hm, pow_form m hm, h0a, h0b, hr⟩

set_option maxRecDepth 10000000 in
set_option maxHeartbeats 2000000 in
theorem root_cube (p : Nat) (hp : p < 65536) (w : World) : Calls Tryd.prog 117 #[.int .u64 p, .func (.func 119) #[] #[]] w fun e w' => e = .returned (.int .u32 (rootN cubeV p : Nat)) ∧ w = w' := by
  obtain ⟨R, hR⟩ : ∃ R, R = rootF cubeV p 38 0 := ⟨_, rfl⟩
  have hN : rootN cubeV p = R % 4294967296 := by rw [hR]; rfl
  rw [hN]
  replace hR := hid hR
  clear hN
  go_enter Tryd.func117, Tryd.ntmps117
  go_wp2
  go_loop [5, 6] (fun v b => ∃ (m x : Nat), b = .int .i64 ((m : Int) - 1) ∧ m ≤ 38 ∧ v = .int .u64 x ∧ Hid (rootF cubeV p m x = R) ∧ Hid (x % 2 ^ m = 0) ∧ x < 274877906944) (fun _ b => (intOf b + 1).toNat)
  case atStart => exact ⟨38, 0, rfl, by omega, rfl, hid hR.out.symm, hid (by simp), by omega⟩
  case round =>
    obtain ⟨m, x, rfl, hm, rfl, hr, h0, hx⟩ := hrel
    by_cases hmz : m = 0
    · subst hmz
      have hres : R = x := by rw [← hr.out]; rfl
      have hxm : ((x : Int) % 4294967296) = ((x % 4294967296 : Nat) : Int) := by simp
      replace hres := hid hres
      go_wp2
      go_ret
      exact ⟨ret_int (by rw [hres.out]; simp), rfl⟩
    · obtain ⟨m, rfl⟩ : ∃ k, m = k + 1 := ⟨m - 1, by omega⟩
      have hmi : ((m + 1 : Nat) : Int) - 1 = (m : Int) := by omega
      have hm37 : m ≤ 37 := by omega
      obtain ⟨q, y, hlt, h2m, hor, hpf, h0a, h0b, hr2⟩ := root_step cubeV p m x R hr.out h0.out hx hm37
      have LF := fun w => cube_any y p hlt hp w
      have hm38 : (m : Int) ≤ 37 := by omega
      rw [hmi]
      replace hr2 := hid hr2
      replace h0a := hid h0a
      replace h0b := hid h0b
      clear hr h0 hmz hmi
      cases hf : cubeV y p with
      | true =>
        rw [hf] at LF hr2
        replace LF := hid LF
        rw [if_pos rfl] at hr2
        clear hf
        go_wp2_with (go_at_call 119; with_reducible refine (LF.out _).mono ?_; rintro e w' ⟨rfl, rfl⟩)
        go_round
        case rel => exact ⟨m, y, rfl, by omega, rfl, hr2, h0a, hlt⟩
        case measure => simp [intOf] <;> omega
      | false =>
        rw [hf] at LF hr2
        replace LF := hid LF
        rw [if_neg (by decide)] at hr2
        clear hf
        go_wp2_with (go_at_call 119; with_reducible refine (LF.out _).mono ?_; rintro e w' ⟨rfl, rfl⟩)
        go_round
        case rel => exact ⟨m, x, rfl, by omega, rfl, hr2, h0b, hx⟩
        case measure => simp [intOf] <;> omega

set_option maxRecDepth 10000000 in
set_option maxHeartbeats 2000000 in
theorem root_square (p : Nat) (hp : p < 65536) (w : World) : Calls Tryd.prog 117 #[.int .u64 p, .func (.func 118) #[] #[]] w fun e w' => e = .returned (.int .u32 (rootN squareV p : Nat)) ∧ w = w' := by
  obtain ⟨R, hR⟩ : ∃ R, R = rootF squareV p 38 0 := ⟨_, rfl⟩
  have hN : rootN squareV p = R % 4294967296 := by rw [hR]; rfl
  rw [hN]
  replace hR := hid hR
  clear hN
  go_enter Tryd.func117, Tryd.ntmps117
  go_wp2
  go_loop [5, 6] (fun v b => ∃ (m x : Nat), b = .int .i64 ((m : Int) - 1) ∧ m ≤ 38 ∧ v = .int .u64 x ∧ Hid (rootF squareV p m x = R) ∧ Hid (x % 2 ^ m = 0) ∧ x < 274877906944) (fun _ b => (intOf b + 1).toNat)
  case atStart => exact ⟨38, 0, rfl, by omega, rfl, hid hR.out.symm, hid (by simp), by omega⟩
  case round =>
    obtain ⟨m, x, rfl, hm, rfl, hr, h0, hx⟩ := hrel
    by_cases hmz : m = 0
    · subst hmz
      have hres : R = x := by rw [← hr.out]; rfl
      have hxm : ((x : Int) % 4294967296) = ((x % 4294967296 : Nat) : Int) := by simp
      replace hres := hid hres
      go_wp2
      go_ret
      exact ⟨ret_int (by rw [hres.out]; simp), rfl⟩
    · obtain ⟨m, rfl⟩ : ∃ k, m = k + 1 := ⟨m - 1, by omega⟩
      have hmi : ((m + 1 : Nat) : Int) - 1 = (m : Int) := by omega
      have hm37 : m ≤ 37 := by omega
      obtain ⟨q, y, hlt, h2m, hor, hpf, h0a, h0b, hr2⟩ := root_step squareV p m x R hr.out h0.out hx hm37
      have LF := fun w => square_any y p hlt hp w
      have hm38 : (m : Int) ≤ 37 := by omega
      rw [hmi]
      replace hr2 := hid hr2
      replace h0a := hid h0a
      replace h0b := hid h0b
      clear hr h0 hmz hmi
      cases hf : squareV y p with
      | true =>
        rw [hf] at LF hr2
        replace LF := hid LF
        rw [if_pos rfl] at hr2
        clear hf
        go_wp2_with (go_at_call 118; with_reducible refine (LF.out _).mono ?_; rintro e w' ⟨rfl, rfl⟩)
        go_round
        case rel => exact ⟨m, y, rfl, by omega, rfl, hr2, h0a, hlt⟩
        case measure => simp [intOf] <;> omega
      | false =>
        rw [hf] at LF hr2
        replace LF := hid LF
        rw [if_neg (by decide)] at hr2
        clear hf
        go_wp2_with (go_at_call 118; with_reducible refine (LF.out _).mono ?_; rintro e w' ⟨rfl, rfl⟩)
        go_round
        case rel => exact ⟨m, x, rfl, by omega, rfl, hr2, h0b, hx⟩
        case measure => simp [intOf] <;> omega
end Go.Proofs.YtbbjoahloghpkaaDoor
