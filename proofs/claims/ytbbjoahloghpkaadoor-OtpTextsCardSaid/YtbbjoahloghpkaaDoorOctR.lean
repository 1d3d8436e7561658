/- The document's Get and Put alone. -/
import Derived.Test.YtbbjoahloghpkaaDoorOctP
namespace Go.Proofs.YtbbjoahloghpkaaDoor
open Go Go.RowKit
set_option linter.unusedSimpArgs false

set_option maxRecDepth 100000 in
set_option maxHeartbeats 4000000 in
theorem rget_any (s : ByteArray) (w : World) (h8 : s.size ≤ 8) :
    Calls Tryd.prog 63 #[.string s] w fun e w' => e = .returned (.int .u64 (getN s.data.toList : Nat)) ∧ w = w' := by
  go_enter Tryd.func63, Tryd.ntmps63
  go_wp2
  go_loop [3, 4] (fun n i => ∃ k : Nat, k ≤ s.size ∧ i = .int .i64 k ∧ n = .int .u64 (getN (s.data.toList.take k) : Nat)) (fun _ i => s.size - (intOf i).toNat)
  case atStart => exact ⟨0, Nat.zero_le _, rfl, rfl⟩
  case round =>
    obtain ⟨k, hk, rfl, rfl⟩ := hrel
    by_cases hlt : k < s.size
    · have hq := getN_take_lt s k (by omega)
      have hst := hid (getN_step s k hlt)
      obtain ⟨q, hq0⟩ : ∃ q, q = getN (s.data.toList.take k) := ⟨_, rfl⟩
      rw [← hq0] at hq hst ⊢
      clear hq0
      have hb := byte_lt s[k]
      go_wp2
      go_round
      case rel => exact ⟨k + 1, by omega, by go_num, by rw [hst.out]; go_num⟩
      case measure => simp [intOf]; omega
    · obtain rfl : k = s.size := by omega
      have hall := hid (show s.data.toList.take s.size = s.data.toList from List.take_of_length_le (by simp))
      go_wp2
      go_ret
      exact ⟨ret_int (by rw [hall.out]), rfl⟩

set_option maxRecDepth 100000 in
set_option maxHeartbeats 4000000 in
theorem rput_any (n : Nat) (z : Int) (w : World) (hn : n < 18446744073709551616) :
    Calls Tryd.prog 40 #[.int .u64 (n : Int), .int .i64 z] w fun e w' => e = .returned (.string (beS n (clip8 z))) ∧ Below w.heap.size w w' := by
  go_enter Tryd.func40, Tryd.ntmps40
  go_wp2
  go_loopw [0, 5, 6] (fun m s i wr => ∃ k : Nat, k ≤ clip8 z ∧ i = .int .i64 k ∧ m = .int .u64 (n / 256 ^ k : Nat) ∧ s = .string (beS n k) ∧ Hid (Below w.heap.size w wr)) (fun _ _ i _ => 8 - (intOf i).toNat)
  case atStart => exact ⟨0, Nat.zero_le _, rfl, by simp, rfl, hid (Below.refl _ _)⟩
  case round =>
    obtain ⟨k, hk, rfl, rfl, rfl, HB⟩ := hrel
    by_cases hlt : k < clip8 z
    · obtain ⟨hz, h8⟩ := clip8_lt hlt
      obtain ⟨q, hq0⟩ : ∃ q, q = n / 256 ^ k := ⟨_, rfl⟩
      rw [← hq0]
      have hqn : q < 18446744073709551616 := by rw [hq0]; exact Nat.lt_of_le_of_lt (Nat.div_le_self _ _) hn
      have HQ := hid hq0
      clear hq0
      have hcv := conv_one (P := Tryd.prog) 29 9 5 Tryd.underlying29 Tryd.underlying5 Tryd.underlying9 ((q : Int) % 256) wr
      have hz8 : (beS n k).size ≤ 8 := by rw [beS_size]; omega
      have hz1 : (⟨#[UInt8.ofNat ((q : Int) % 256).toNat]⟩ : ByteArray).size ≤ 1 := Nat.le_refl _
      go_wp2
      go_roundw
      case rel =>
        refine ⟨k + 1, by omega, by go_num, ?_, ?_, hid (HB.out.alloc HB.out.size _)⟩
        · have e : n / 256 ^ (k + 1) = q / 256 := by rw [HQ.out, Nat.pow_succ, Nat.div_div_eq_div_mul]
          rw [e]; go_num
        · have e := beS_succ n k
          rw [← HQ.out] at e
          rw [← e]
      case measure => simp [intOf]; omega
    · obtain rfl : k = clip8 z := by omega
      rcases clip8_ge (Nat.le_refl (clip8 z)) with h | h
      all_goals
        go_wp2
        all_goals
          go_ret
          exact ⟨rfl, HB.out⟩

end Go.Proofs.YtbbjoahloghpkaaDoor
