/- The walks of Get, Add, Mul and of the document's Put, Get, CRC, Counted. -/
import Derived.Test.YtbedanlkkidkkaaCrc2
import Derived.Test.YtbedanlkkidkkaaOct1
namespace Go.Proofs.Ytbedanlkkidkkaa
open Go Go.RowKit

set_option maxHeartbeats 1000000 in
theorem get_any (s : ByteArray) (w : World) (h1 : 1 ≤ s.size) (h8 : s.size ≤ 8) :
    Calls Try.prog 18 #[.string s] w fun e w' => e = .returned (.tuple #[.int .u64 (getN s.data.toList : Nat), .int .i64 0]) ∧ w = w' := by
  have he := toList_empty h1
  have hd8 : decide ((8 : Int) < (s.size : Int)) = false := by simp; omega
  go_enter Try.func18, Try.ntmps18
  go_wp2
  go_loop [4, 15] (fun n i => ∃ k : Nat, k ≤ s.size ∧ i = .int .i64 k ∧ n = .int .u64 (getN (s.data.toList.take k) : Nat)) (fun _ i => s.size - (intOf i).toNat)
  case atStart => exact ⟨0, Nat.zero_le _, rfl, rfl⟩
  case round =>
    obtain ⟨k, hk, rfl, rfl⟩ := hrel
    by_cases hlt : k < s.size
    · have hq := getN_take_lt s k (by omega)
      have hst := hid (getN_step s k hlt)
      obtain ⟨q, hq0⟩ : ∃ q, q = getN (s.data.toList.take k) := ⟨_, rfl⟩
      rw [← hq0] at hq hst ⊢
      clear hq0
      have hb := byte_lt s[k]
      have hor := or_u64 q s[k].toNat hq s[k].toNat_lt
      go_wp2
      go_round
      case rel => exact ⟨k + 1, by omega, by go_num, by rw [hst.out]; go_num⟩
      case measure => simp [intOf]; omega
    · obtain rfl : k = s.size := by omega
      have hall := hid (show s.data.toList.take s.size = s.data.toList from List.take_of_length_le (by simp))
      go_wp2
      go_ret2
      exact ⟨ret_int2 (by rw [hall.out]) rfl, rfl⟩

set_option maxHeartbeats 1000000 in
theorem rget_any (s : ByteArray) (w : World) (h8 : s.size ≤ 8) :
    Calls Try.prog 19 #[.string s] w fun e w' => e = .returned (.int .u64 (getN s.data.toList : Nat)) ∧ w = w' := by
  go_enter Try.func19, Try.ntmps19
  go_wp2
  go_loop [3, 4] (fun n i => ∃ k : Nat, k ≤ s.size ∧ i = .int .i64 k ∧ n = .int .u64 (getN (s.data.toList.take k) : Nat)) (fun _ i => s.size - (intOf i).toNat)
  case atStart => exact ⟨0, Nat.zero_le _, rfl, rfl⟩
  case round =>
    obtain ⟨k, hk, rfl, rfl⟩ := hrel
    by_cases hlt : k < s.size
    · have hq := getN_take_lt s k (by omega)
      have hst := hid (getN_step s k hlt)
      obtain ⟨q, hq0⟩ : ∃ q, q = getN (s.data.toList.take k) := ⟨_, rfl⟩
      rw [← hq0] at hq hst ⊢
      clear hq0
      have hb := byte_lt s[k]
      go_wp2
      go_round
      case rel => exact ⟨k + 1, by omega, by go_num, by rw [hst.out]; go_num⟩
      case measure => simp [intOf]; omega
    · obtain rfl : k = s.size := by omega
      have hall := hid (show s.data.toList.take s.size = s.data.toList from List.take_of_length_le (by simp))
      go_wp2
      go_ret
      exact ⟨ret_int (by rw [hall.out]), rfl⟩

set_option maxHeartbeats 1000000 in
theorem rput_any (n : Nat) (z : Int) (w : World) (hn : n < 18446744073709551616) :
    Calls Try.prog 20 #[.int .u64 (n : Int), .int .i64 z] w fun e w' => e = .returned (.string (beS n (clip8 z))) ∧ Below w.heap.size w w' := by
  go_enter Try.func20, Try.ntmps20
  go_wp2
  go_loopw [0, 5, 6] (fun m s i wr => ∃ k : Nat, k ≤ clip8 z ∧ i = .int .i64 k ∧ m = .int .u64 (n / 256 ^ k : Nat) ∧ s = .string (beS n k) ∧ Hid (Below w.heap.size w wr)) (fun _ _ i _ => 8 - (intOf i).toNat)
  case atStart => exact ⟨0, Nat.zero_le _, rfl, by simp, rfl, hid (Below.refl _ _)⟩
  case round =>
    obtain ⟨k, hk, rfl, rfl, rfl, HB⟩ := hrel
    by_cases hlt : k < clip8 z
    · obtain ⟨hz, h8⟩ := clip8_lt hlt
      obtain ⟨q, hq0⟩ : ∃ q, q = n / 256 ^ k := ⟨_, rfl⟩
      rw [← hq0]
      have hqn : q < 18446744073709551616 := by rw [hq0]; exact Nat.lt_of_le_of_lt (Nat.div_le_self _ _) hn
      have HQ := hid hq0
      clear hq0
      have hcv := conv_one (P := Try.prog) 29 9 5 Try.underlying29 Try.underlying5 Try.underlying9 ((q : Int) % 256) wr
      have hz8 : (beS n k).size ≤ 8 := by rw [beS_size]; omega
      have hz1 : (⟨#[UInt8.ofNat ((q : Int) % 256).toNat]⟩ : ByteArray).size ≤ 1 := Nat.le_refl _
      go_wp2
      go_roundw
      case rel =>
        refine ⟨k + 1, by omega, by go_num, ?_, ?_, hid (HB.out.alloc HB.out.size _)⟩
        · have e : n / 256 ^ (k + 1) = q / 256 := by rw [HQ.out, Nat.pow_succ, Nat.div_div_eq_div_mul]
          rw [e]; go_num
        · have e := beS_succ n k
          rw [← HQ.out] at e
          rw [← e]
      case measure => simp [intOf]; omega
    · obtain rfl : k = clip8 z := by omega
      rcases clip8_ge (Nat.le_refl (clip8 z)) with h | h
      all_goals
        go_wp2
        all_goals
          go_ret
          exact ⟨rfl, HB.out⟩

set_option maxHeartbeats 2000000 in
theorem rcrc_any (s : ByteArray) (w : World) (hs : s.size ≤ 1000000000) :
    Calls Try.prog 8 #[.string s] w fun e w' => e = .returned (.int .u32 (4294967295 - rcrcS 4294967295 s.data.toList : Nat)) ∧ w = w' := by
  go_enter Try.func8, Try.ntmps8
  go_wp2
  go_loop [3, 4, 5] (fun n i _ => ∃ k : Nat, k ≤ s.size ∧ i = .int .i64 k ∧ n = .int .u32 (rcrcS 4294967295 (s.data.toList.take k) : Nat)) (fun _ i _ => s.size - (intOf i).toNat)
  case atStart => exact ⟨0, Nat.zero_le _, rfl, rfl⟩
  case round =>
    obtain ⟨k, hk, rfl, rfl⟩ := hrel
    by_cases hlt : k < s.size
    · have hd : decide ((k : Int) < (s.size : Int)) = true := by simp; omega
      have hq := rcrcS_lt (n := 4294967295) (by omega) (s.data.toList.take k)
      have hst := hid (rcrcS_snoc 4294967295 s k hlt)
      obtain ⟨q, hq0⟩ : ∃ q, q = rcrcS 4294967295 (s.data.toList.take k) := ⟨_, rfl⟩
      rw [← hq0] at hq hst ⊢
      clear hq0
      have hb := byte_lt s[k]
      have hx := u32_xor_nat q s[k].toNat hq (by omega)
      go_wp2
      go_loop [3, 5] (fun n i => ∃ m : Nat, m ≤ 8 ∧ i = .int .i64 m ∧ n = .int .u32 (iterN (q ^^^ s[k].toNat) m : Nat)) (fun _ i => 8 - (intOf i).toNat)
      case atStart => exact ⟨0, Nat.zero_le _, rfl, rfl⟩
      case round =>
        obtain ⟨m, hm, rfl, rfl⟩ := hrel
        by_cases hl8 : m < 8
        · have hp := iterN_lt (n := q ^^^ s[k].toNat) (Nat.xor_lt_two_pow (n := 32) (by omega) (by omega)) m
          have hit := hid (show iterN (q ^^^ s[k].toNat) (m + 1) = stepN (iterN (q ^^^ s[k].toNat) m) from rfl)
          obtain ⟨p, hp0⟩ : ∃ p, p = iterN (q ^^^ s[k].toNat) m := ⟨_, rfl⟩
          rw [← hp0] at hp hit ⊢
          clear hp0
          have h2 := xor_poly_u32 (p / 2) (by omega)
          have hmm : p % 2 = 0 ∨ p % 2 = 1 := by omega
          rcases hmm with hmm | hmm
          · have hb : ((p : Int) % 2 == 1) = false := by rw [beq_eq_false_iff_ne]; omega
            have hs := hid (show stepN p = p / 2 by unfold stepN; rw [if_neg (by omega)])
            clear hmm
            go_wp2
            go_round
            case rel => exact ⟨m + 1, by omega, by go_num, by rw [hit.out, hs.out]; go_num⟩
            case measure => simp [intOf]; omega
          · have hb : ((p : Int) % 2 == 1) = true := by rw [beq_iff_eq]; omega
            have hs := hid (show stepN p = (p / 2) ^^^ 3988292384 by unfold stepN; rw [if_pos hmm])
            clear hmm
            have H2 := hid h2; clear h2
            go_wp2
            go_round
            case rel => exact ⟨m + 1, by omega, by go_num, by rw [hit.out, hs.out, ← H2.out]; go_num⟩
            case measure => simp [intOf]; omega
        · obtain rfl : m = 8 := by omega
          go_wp2
          go_round
          case rel => exact ⟨k + 1, by omega, by go_num, by rw [hst.out]; rfl⟩
          case measure => simp [intOf]; omega
    · obtain rfl : k = s.size := by omega
      have hall := hid (show s.data.toList.take s.size = s.data.toList from List.take_of_length_le (by simp))
      have hq := rcrcS_lt (n := 4294967295) (by omega) s.data.toList
      rw [hall.out]
      go_wp2
      go_ret
      exact ⟨ret_int (by omega), rfl⟩

set_option maxHeartbeats 1000000 in
theorem rcounted_any (s : ByteArray) (w : World) (hs : s.size ≤ 2147483647) :
    Calls Try.prog 17 #[.string s] w fun e w' => e = .returned (.string (beS s.size 4 ++ s)) ∧ Below w.heap.size w w' := by
  have hu : IntKind.u64.wrap (s.size : Int) = (s.size : Int) := by rw [IntKind.wrap_u64]; omega
  go_enter Try.func17, Try.ntmps17
  go_wp2_with (go_at_call 20; refine (rput_any s.size 4 _ (by omega)).mono ?_; rintro e w' ⟨rfl, hB⟩; rw [show clip8 4 = 4 by decide]; have hz : (beS s.size 4).size ≤ 8 := by rw [beS_size]; omega)
  go_ret
  exact ⟨rfl, hB⟩

theorem and32_u64 (x : Int) (h0 : 0 ≤ x) (h1 : x < 18446744073709551616) : bits .and .u64 x 4294967295 = x % 4294967296 :=
  bits_mask .u64 64 (by decide) (fun n h h' => by rw [IntKind.wrap_u64]; omega) 32 (by decide) x h0 h1

set_option maxHeartbeats 1000000 in
theorem mul64_any (a b : Nat) (w : World) (ha : a < 18446744073709551616) (hb : b < 18446744073709551616) :
    Calls Try.prog 26 #[.int .u64 a, .int .u64 b] w fun e w' => e = .returned (.tuple #[.int .u64 (a * b / 18446744073709551616 : Nat), .int .u64 (a * b % 18446744073709551616 : Nat)]) ∧ w = w' := by
  have h := hid (mul64_arith a b (by omega) (by omega) (by omega) (by omega))
  have ma := hid (and32_u64 a (by omega) (by omega))
  have mb := hid (and32_u64 b (by omega) (by omega))
  go_enter Try.func26, Try.ntmps26
  go_wp2
  go_ret2
  refine ⟨ret_int2 ?_ ?_, rfl⟩
  · rw [ma.out, mb.out, and32_u64 _ (by rw [IntKind.wrap_u64]; omega) (by rw [IntKind.wrap_u64]; omega)]
    simp only [IntKind.wrap_u64]
    rw [h.out]
    simp only [Int.natCast_ediv, Int.natCast_mul]
    rfl
  · rw [IntKind.wrap_u64]
    simp only [Int.natCast_emod, Int.natCast_mul]
    rfl

theorem run_add64c (a b : Nat) (w : World) : (callFunc 25 #[.int .u64 (a : Int), .int .u64 (b : Int), .int .u64 0]).run Try.prog w =
      .ok (.value (.tuple #[.int .u64 ((a + b : Nat) % 18446744073709551616 : Int), .int .u64 ((a + b : Nat) / 18446744073709551616 : Int)])) w := by
  rw [run_callFunc_extern Try.func25 (by kernel_rfl) (by kernel_rfl) (by kernel_rfl) (e := add64Entry) (by kernel_rfl), run_add64 a b 0 (by omega) (by omega) (by omega) (by omega)]
  simp only [Result.andThen]
  congr 5 <;> omega

set_option maxHeartbeats 1000000 in
theorem add_any (a b : Nat) (w : World) (ha : a < 18446744073709551616) (hb : b < 18446744073709551616) :
    Calls Try.prog 21 #[.int .u64 a, .int .u64 b] w fun e w' => e = .returned (.int .u64 (if 18446744073709551616 ≤ a + b then 18446744073709551615 else a + b : Nat)) ∧ w = w' := by
  have hadd := run_add64c a b w
  obtain ⟨s, hs⟩ : ∃ s, s = a + b := ⟨_, rfl⟩
  rw [← hs] at hadd ⊢
  have hm := hid (show (s : Int) % 18446744073709551616 = s ∨ 18446744073709551616 ≤ s by omega)
  by_cases h : 18446744073709551616 ≤ s
  · have hd : (s : Int) / 18446744073709551616 = 1 := by omega
    rw [hd] at hadd
    rw [if_pos h]
    clear hd h hs
    go_enter Try.func21, Try.ntmps21
    go_wp2
    go_ret
    exact ⟨rfl, rfl⟩
  · have hd : (s : Int) / 18446744073709551616 = 0 := by omega
    have hd2 : (s : Int) % 18446744073709551616 = s := by omega
    rw [hd, hd2] at hadd
    rw [if_neg h]
    clear hd hd2 h hs
    go_enter Try.func21, Try.ntmps21
    go_wp2
    go_ret
    exact ⟨rfl, rfl⟩

set_option maxHeartbeats 1000000 in
theorem mul_any (a b : Nat) (w : World) (ha : a < 18446744073709551616) (hb : b < 18446744073709551616) :
    Calls Try.prog 22 #[.int .u64 a, .int .u64 b] w fun e w' => e = .returned (.int .u64 (if 18446744073709551616 ≤ a * b then 18446744073709551615 else a * b : Nat)) ∧ w = w' := by
  have H := fun w => mul64_any a b w ha hb
  obtain ⟨s, hs⟩ : ∃ s, s = a * b := ⟨_, rfl⟩
  rw [← hs] at H ⊢
  by_cases h : 18446744073709551616 ≤ s
  · obtain ⟨d, hd⟩ : ∃ d, d = s / 18446744073709551616 := ⟨_, rfl⟩
    rw [← hd] at H
    have hd0 : ((d : Int) == 0) = false := by rw [beq_eq_false_iff_ne]; omega
    rw [if_pos h]
    clear hd h hs
    have H2 := hid H; clear H
    go_enter Try.func22, Try.ntmps22
    go_wp2_with (go_at_call 26; refine (H2.out _).mono ?_; rintro e w' ⟨rfl, rfl⟩)
    go_ret
    exact ⟨rfl, rfl⟩
  · have hd : s / 18446744073709551616 = 0 := by omega
    have hd2 : s % 18446744073709551616 = s := by omega
    rw [hd, hd2] at H
    rw [if_neg h]
    clear hd hd2 h hs
    have H2 := hid H; clear H
    go_enter Try.func22, Try.ntmps22
    go_wp2_with (go_at_call 26; refine (H2.out _).mono ?_; rintro e w' ⟨rfl, rfl⟩)
    go_ret
    exact ⟨rfl, rfl⟩

end Go.Proofs.Ytbedanlkkidkkaa
