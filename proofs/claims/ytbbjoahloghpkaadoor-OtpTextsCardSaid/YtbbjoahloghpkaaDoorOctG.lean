/- Get alone. -/
import Derived.Test.YtbbjoahloghpkaaDoorCrc2
import Derived.Test.YtbbjoahloghpkaaDoorOctP
namespace Go.Proofs.YtbbjoahloghpkaaDoor
open Go Go.RowKit

set_option maxHeartbeats 1000000 in
theorem get_any (s : ByteArray) (w : World) (h1 : 1 ≤ s.size) (h8 : s.size ≤ 8) :
    Calls Tryd.prog 61 #[.string s] w fun e w' => e = .returned (.tuple #[.int .u64 (getN s.data.toList : Nat), .int .i64 0]) ∧ w = w' := by
  have he := toList_empty h1
  have hd8 : decide ((8 : Int) < (s.size : Int)) = false := by simp; omega
  go_enter Tryd.func61, Tryd.ntmps61
  go_wp2
  go_loop [4, 15] (fun n i => ∃ k : Nat, k ≤ s.size ∧ i = .int .i64 k ∧ n = .int .u64 (getN (s.data.toList.take k) : Nat)) (fun _ i => s.size - (intOf i).toNat)
  case atStart => exact ⟨0, Nat.zero_le _, rfl, rfl⟩
  case round =>
    obtain ⟨k, hk, rfl, rfl⟩ := hrel
    by_cases hlt : k < s.size
    · have hq := getN_take_lt s k (by omega)
      have hst := hid (getN_step s k hlt)
      obtain ⟨q, hq0⟩ : ∃ q, q = getN (s.data.toList.take k) := ⟨_, rfl⟩
      rw [← hq0] at hq hst ⊢
      clear hq0
      have hb := byte_lt s[k]
      have hor := or_u64 q s[k].toNat hq s[k].toNat_lt
      go_wp2
      go_round
      case rel => exact ⟨k + 1, by omega, by go_num, by rw [hst.out]; go_num⟩
      case measure => simp [intOf]; omega
    · obtain rfl : k = s.size := by omega
      have hall := hid (show s.data.toList.take s.size = s.data.toList from List.take_of_length_le (by simp))
      go_wp2
      go_ret2
      exact ⟨ret_int2 (by rw [hall.out]) rfl, rfl⟩

end Go.Proofs.YtbbjoahloghpkaaDoor
