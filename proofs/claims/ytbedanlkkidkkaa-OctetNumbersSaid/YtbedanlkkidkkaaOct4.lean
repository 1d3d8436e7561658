/- The law OctetNumbers. -/
import Derived.Test.YtbedanlkkidkkaaOct3
namespace Go.Proofs.Ytbedanlkkidkkaa
open Go Go.RowKit
set_option linter.unusedSimpArgs false

theorem get_empty (s : ByteArray) (w : World) (h : s.size = 0) :
    Calls Try.prog 18 #[.string s] w fun e w' => e = .returned (.tuple #[.int .u64 0, .int .i64 3]) ∧ w = w' := by
  obtain rfl : s = ByteArray.empty := ByteArray.ext (Array.eq_empty_of_size_eq_zero h)
  go_enter Try.func18, Try.ntmps18
  go_wp2
  go_ret2
  exact ⟨rfl, rfl⟩
theorem get_long (s : ByteArray) (w : World) (h : 8 < s.size) :
    Calls Try.prog 18 #[.string s] w fun e w' => e = .returned (.tuple #[.int .u64 0, .int .i64 5]) ∧ w = w' := by
  have he := toList_empty (s := s) (by omega)
  have hd8 : decide ((8 : Int) < (s.size : Int)) = true := by simp; omega
  go_enter Try.func18, Try.ntmps18
  go_wp2
  go_ret2
  exact ⟨rfl, rfl⟩

theorem wrap_div (a b : Nat) (h : a < 18446744073709551616) : IntKind.u64.wrap ((a : Int) / (b : Int)) = (a : Int) / (b : Int) := by
  rw [IntKind.wrap_u64, ← Int.natCast_ediv]
  have h2 : a / b < 18446744073709551616 := Nat.lt_of_le_of_lt (Nat.div_le_self a b) h
  generalize a / b = q at *
  omega

set_option maxHeartbeats 4000000 in
theorem octetNumbers_mid (n m : Nat) (z : Int) (s : ByteArray) (sv pv : Nat) (av mv : Int) (hn : n < 18446744073709551616) (hs : s.size ≤ 8) (h1 : 1 ≤ s.size)
    (hsv : IntKind.u64.wrap ((n : Int) + (m : Int)) = sv) (hpv : IntKind.u64.wrap ((n : Int) * (m : Int)) = pv) (hpl : pv < 18446744073709551616) (hL : (n ≤ sv ∧ av = sv) ∨ (sv < n ∧ av = 18446744073709551615))
    (hP : (n ≤ 0 ∧ mv = pv) ∨ (1 ≤ n ∧ ((pv : Int) / n != m) = false ∧ mv = pv) ∨ (1 ≤ n ∧ ((pv : Int) / n != m) = true ∧ mv = 18446744073709551615))
    (HA : Hid (∀ w, Calls Try.prog 21 #[.int .u64 n, .int .u64 m] w fun e w' => e = .returned (.int .u64 av) ∧ w = w'))
    (HM : Hid (∀ w, Calls Try.prog 22 #[.int .u64 n, .int .u64 m] w fun e w' => e = .returned (.int .u64 mv) ∧ w = w')) (w : World) :
    Calls Try.prog 6 #[.int .u64 n, .int .u64 m, .int .i64 z, .string s] w fun e w' => e = .returned (.bool true) ∧ Below w.heap.size w w' := by
  have he := toList_empty h1
  have hd1 : decide ((100 : Int) < (s.size : Int)) = false := by simp; omega
  have hd8 : decide ((8 : Int) < (s.size : Int)) = false := by simp; omega
  have hps := hid (beS_getN hs)
  have hgl := getN_lt8 s hs
  rcases hL with ⟨hl, rfl⟩ | ⟨hl, rfl⟩
  all_goals
    rcases hP with ⟨hn1, rfl⟩ | ⟨hn1, hq, rfl⟩ | ⟨hn1, hq, rfl⟩
    try any_goals (exfalso; omega)
    all_goals
      first | have hn0 : ((n : Int) != 0) = true := (by rw [bne_iff_ne]; omega) | have hn0 : ((n : Int) != 0) = false := (by rw [bne_eq_false_iff_eq]; omega)
      have hw : IntKind.u64.wrap ((pv : Int) / (n : Int)) = (pv : Int) / (n : Int) := wrap_div pv n hpl
      go_enter Try.func6, Try.ntmps6
      go_wp2_with (first | (go_at_call 7; refine (awake_any _).mono ?_; rintro e w1 ⟨rfl, hB1⟩) | (go_at_call 18; refine (get_any s _ h1 hs).mono ?_; rintro e w2 ⟨rfl, rfl⟩) | (go_at_call 19; refine (rget_any s _ hs).mono ?_; rintro e w2 ⟨rfl, rfl⟩) | (go_at_call 11; (with_reducible refine (put_any (getN s.data.toList) s.size _).mono ?_); rw [hps.out]; rintro e w2 ⟨rfl, hB2⟩) | (go_at_call 11; (with_reducible refine (put_any n z _).mono ?_); rintro e w3 ⟨rfl, hB3⟩) | (go_at_call 20; refine (rput_any n z _ hn).mono ?_; rintro e w4 ⟨rfl, hB4⟩) | (go_at_call 21; refine (HA.out _).mono ?_; rintro e w5 ⟨rfl, rfl⟩) | (go_at_call 22; refine (HM.out _).mono ?_; rintro e w5 ⟨rfl, rfl⟩))
      go_ret
      exact ⟨rfl, by repeat (first | assumption | apply below_cat)⟩

set_option maxHeartbeats 4000000 in
theorem octetNumbers_long (n m : Nat) (z : Int) (s : ByteArray) (sv pv : Nat) (av mv : Int) (hn : n < 18446744073709551616) (h8 : 8 < s.size) (h1 : s.size ≤ 100)
    (hsv : IntKind.u64.wrap ((n : Int) + (m : Int)) = sv) (hpv : IntKind.u64.wrap ((n : Int) * (m : Int)) = pv) (hpl : pv < 18446744073709551616) (hL : (n ≤ sv ∧ av = sv) ∨ (sv < n ∧ av = 18446744073709551615))
    (hP : (n ≤ 0 ∧ mv = pv) ∨ (1 ≤ n ∧ ((pv : Int) / n != m) = false ∧ mv = pv) ∨ (1 ≤ n ∧ ((pv : Int) / n != m) = true ∧ mv = 18446744073709551615))
    (HA : Hid (∀ w, Calls Try.prog 21 #[.int .u64 n, .int .u64 m] w fun e w' => e = .returned (.int .u64 av) ∧ w = w'))
    (HM : Hid (∀ w, Calls Try.prog 22 #[.int .u64 n, .int .u64 m] w fun e w' => e = .returned (.int .u64 mv) ∧ w = w')) (w : World) :
    Calls Try.prog 6 #[.int .u64 n, .int .u64 m, .int .i64 z, .string s] w fun e w' => e = .returned (.bool true) ∧ Below w.heap.size w w' := by
  have he := toList_empty (s := s) (by omega)
  have hd1 : decide ((100 : Int) < (s.size : Int)) = false := by simp; omega
  have hd8 : decide ((8 : Int) < (s.size : Int)) = true := by simp; omega
  rcases hL with ⟨hl, rfl⟩ | ⟨hl, rfl⟩
  all_goals
    rcases hP with ⟨hn1, rfl⟩ | ⟨hn1, hq, rfl⟩ | ⟨hn1, hq, rfl⟩
    try any_goals (exfalso; omega)
    all_goals
      first | have hn0 : ((n : Int) != 0) = true := (by rw [bne_iff_ne]; omega) | have hn0 : ((n : Int) != 0) = false := (by rw [bne_eq_false_iff_eq]; omega)
      have hw : IntKind.u64.wrap ((pv : Int) / (n : Int)) = (pv : Int) / (n : Int) := wrap_div pv n hpl
      go_enter Try.func6, Try.ntmps6
      go_wp2_with (first | (go_at_call 7; refine (awake_any _).mono ?_; rintro e w1 ⟨rfl, hB1⟩) | (go_at_call 18; refine (get_long s _ h8).mono ?_; rintro e w2 ⟨rfl, rfl⟩) | (go_at_call 11; (with_reducible refine (put_any n z _).mono ?_); rintro e w3 ⟨rfl, hB3⟩) | (go_at_call 20; refine (rput_any n z _ hn).mono ?_; rintro e w4 ⟨rfl, hB4⟩) | (go_at_call 21; refine (HA.out _).mono ?_; rintro e w5 ⟨rfl, rfl⟩) | (go_at_call 22; refine (HM.out _).mono ?_; rintro e w5 ⟨rfl, rfl⟩))
      go_ret
      exact ⟨rfl, by repeat (first | assumption | apply below_cat)⟩

set_option maxHeartbeats 4000000 in
theorem octetNumbers_none (n m : Nat) (z : Int) (s : ByteArray) (sv pv : Nat) (av mv : Int) (hn : n < 18446744073709551616) (h8 : s.size = 0)
    (hsv : IntKind.u64.wrap ((n : Int) + (m : Int)) = sv) (hpv : IntKind.u64.wrap ((n : Int) * (m : Int)) = pv) (hpl : pv < 18446744073709551616) (hL : (n ≤ sv ∧ av = sv) ∨ (sv < n ∧ av = 18446744073709551615))
    (hP : (n ≤ 0 ∧ mv = pv) ∨ (1 ≤ n ∧ ((pv : Int) / n != m) = false ∧ mv = pv) ∨ (1 ≤ n ∧ ((pv : Int) / n != m) = true ∧ mv = 18446744073709551615))
    (HA : Hid (∀ w, Calls Try.prog 21 #[.int .u64 n, .int .u64 m] w fun e w' => e = .returned (.int .u64 av) ∧ w = w'))
    (HM : Hid (∀ w, Calls Try.prog 22 #[.int .u64 n, .int .u64 m] w fun e w' => e = .returned (.int .u64 mv) ∧ w = w')) (w : World) :
    Calls Try.prog 6 #[.int .u64 n, .int .u64 m, .int .i64 z, .string s] w fun e w' => e = .returned (.bool true) ∧ Below w.heap.size w w' := by
  obtain rfl : s = ByteArray.empty := ByteArray.ext (Array.eq_empty_of_size_eq_zero h8)
  rcases hL with ⟨hl, rfl⟩ | ⟨hl, rfl⟩
  all_goals
    rcases hP with ⟨hn1, rfl⟩ | ⟨hn1, hq, rfl⟩ | ⟨hn1, hq, rfl⟩
    try any_goals (exfalso; omega)
    all_goals
      first | have hn0 : ((n : Int) != 0) = true := (by rw [bne_iff_ne]; omega) | have hn0 : ((n : Int) != 0) = false := (by rw [bne_eq_false_iff_eq]; omega)
      have hw : IntKind.u64.wrap ((pv : Int) / (n : Int)) = (pv : Int) / (n : Int) := wrap_div pv n hpl
      go_enter Try.func6, Try.ntmps6
      go_wp2_with (first | (go_at_call 7; refine (awake_any _).mono ?_; rintro e w1 ⟨rfl, hB1⟩) | (go_at_call 18; refine (get_empty _ _ h8).mono ?_; rintro e w2 ⟨rfl, rfl⟩) | (go_at_call 11; (with_reducible refine (put_any n z _).mono ?_); rintro e w3 ⟨rfl, hB3⟩) | (go_at_call 20; refine (rput_any n z _ hn).mono ?_; rintro e w4 ⟨rfl, hB4⟩) | (go_at_call 21; refine (HA.out _).mono ?_; rintro e w5 ⟨rfl, rfl⟩) | (go_at_call 22; refine (HM.out _).mono ?_; rintro e w5 ⟨rfl, rfl⟩))
      go_ret
      exact ⟨rfl, by repeat (first | assumption | apply below_cat)⟩

theorem octetNumbers_big (n m z : Int) (s : ByteArray) (h : 100 < s.size) (_hs : s.size ≤ 140737488351232) (w : World) :
    Calls Try.prog 6 #[.int .u64 n, .int .u64 m, .int .i64 z, .string s] w fun e w' => e = .returned (.bool true) ∧ Below w.heap.size w w' := by
  have hd1 : decide ((100 : Int) < (s.size : Int)) = true := by simp; omega
  go_enter Try.func6, Try.ntmps6
  go_wp2_with (go_at_call 7; refine (awake_any _).mono ?_; rintro e w1 ⟨rfl, hB1⟩)
  go_ret
  exact ⟨rfl, hB1⟩

/-- What the sums come to. -/
theorem sums_of (n m : Nat) (hn : n < 18446744073709551616) (hm : m < 18446744073709551616) : ∃ sv : Nat, IntKind.u64.wrap ((n : Int) + (m : Int)) = ((sv : Nat) : Int) ∧
    ((n ≤ sv ∧ ((if 18446744073709551616 ≤ n + m then 18446744073709551615 else n + m : Nat) : Int) = sv) ∨ (sv < n ∧ ((if 18446744073709551616 ≤ n + m then 18446744073709551615 else n + m : Nat) : Int) = 18446744073709551615)) := by
  refine ⟨(n + m) % 18446744073709551616, by rw [IntKind.wrap_u64]; omega, ?_⟩
  by_cases h : 18446744073709551616 ≤ n + m
  · rw [if_pos h]; right; exact ⟨by omega, rfl⟩
  · rw [if_neg h]; left; exact ⟨by omega, by omega⟩
theorem prods_of (n m : Nat) : ∃ pv : Nat, pv < 18446744073709551616 ∧ IntKind.u64.wrap ((n : Int) * (m : Int)) = ((pv : Nat) : Int) ∧
    ((n ≤ 0 ∧ ((if 18446744073709551616 ≤ n * m then 18446744073709551615 else n * m : Nat) : Int) = pv) ∨ (1 ≤ n ∧ ((pv : Int) / n != m) = false ∧ ((if 18446744073709551616 ≤ n * m then 18446744073709551615 else n * m : Nat) : Int) = pv) ∨
      (1 ≤ n ∧ ((pv : Int) / n != m) = true ∧ ((if 18446744073709551616 ≤ n * m then 18446744073709551615 else n * m : Nat) : Int) = 18446744073709551615)) := by
  refine ⟨(n * m) % 18446744073709551616, Nat.mod_lt _ (by omega), by rw [IntKind.wrap_u64]; simp, ?_⟩
  by_cases h0 : n = 0
  · subst h0; simp
  · right
    by_cases h : 18446744073709551616 ≤ n * m
    · rw [if_pos h]
      have hlt : (n * m) % 18446744073709551616 / n < m := by
        rw [Nat.div_lt_iff_lt_mul (by omega), Nat.mul_comm m]
        have := Nat.mod_lt (n * m) (show 0 < 18446744073709551616 by omega)
        omega
      right
      exact ⟨by omega, by rw [bne_iff_ne, ← Int.natCast_ediv]; omega, rfl⟩
    · rw [if_neg h]
      have hm : (n * m) % 18446744073709551616 = n * m := Nat.mod_eq_of_lt (by omega)
      left
      exact ⟨by omega, by rw [bne_eq_false_iff_eq, hm, ← Int.natCast_ediv, Nat.mul_div_cancel_left _ (by omega)], by rw [hm]⟩

theorem octetNumbers_walk (n m z : Int) (s : ByteArray) (wn : (Lit.int .u64 n).wf = true) (wm : (Lit.int .u64 m).wf = true) (_wz : (Lit.int .i64 z).wf = true) (hs : s.size ≤ 140737488351232) (w : World) :
    Calls Try.prog 6 #[.int .u64 n, .int .u64 m, .int .i64 z, .string s] w fun e w' => e = .returned (.bool true) ∧ Below w.heap.size w w' := by
  obtain ⟨n, rfl, hn⟩ := u64_of_wf wn
  obtain ⟨m, rfl, hm⟩ := u64_of_wf wm
  by_cases h : 100 < s.size
  · exact octetNumbers_big n m z s h hs w
  · obtain ⟨sv, a1, a2⟩ := sums_of n m hn hm
    obtain ⟨pv, b0, b1, b2⟩ := prods_of n m
    have HA := hid (fun w => add_any n m w hn hm)
    have HM := hid (fun w => mul_any n m w hn hm)
    by_cases h0 : s.size = 0
    · exact octetNumbers_none n m z s sv pv _ _ hn h0 a1 b1 b0 a2 b2 HA HM w
    · by_cases h8 : 8 < s.size
      · exact octetNumbers_long n m z s sv pv _ _ hn h8 (by omega) a1 b1 b0 a2 b2 HA HM w
      · exact octetNumbers_mid n m z s sv pv _ _ hn (by omega) (by omega) a1 b1 b0 a2 b2 HA HM w

end Go.Proofs.Ytbedanlkkidkkaa
