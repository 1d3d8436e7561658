/- Add alone. -/
import Derived.Test.YtbbjoahloghpkaaDoorOctP
namespace Go.Proofs.YtbbjoahloghpkaaDoor
open Go Go.RowKit
set_option linter.unusedSimpArgs false

theorem run_add64c (a b : Nat) (w : World) : (callFunc 82 #[.int .u64 (a : Int), .int .u64 (b : Int), .int .u64 0]).run Tryd.prog w =
      .ok (.value (.tuple #[.int .u64 ((a + b : Nat) % 18446744073709551616 : Int), .int .u64 ((a + b : Nat) / 18446744073709551616 : Int)])) w := by
  rw [run_callFunc_extern Tryd.func82 (by kernel_rfl) (by kernel_rfl) (by kernel_rfl) (e := add64Entry) (by kernel_rfl), run_add64 a b 0 (by omega) (by omega) (by omega) (by omega)]
  simp only [Result.andThen]
  congr 5 <;> omega

set_option maxHeartbeats 2000000 in
theorem oadd_any (a b : Nat) (w : World) (ha : a < 18446744073709551616) (hb : b < 18446744073709551616) :
    Calls Tryd.prog 66 #[.int .u64 a, .int .u64 b] w fun e w' => e = .returned (.int .u64 (if 18446744073709551616 ≤ a + b then 18446744073709551615 else a + b : Nat)) ∧ w = w' := by
  have hadd := run_add64c a b w
  obtain ⟨s, hs⟩ : ∃ s, s = a + b := ⟨_, rfl⟩
  rw [← hs] at hadd ⊢
  have hm := hid (show (s : Int) % 18446744073709551616 = s ∨ 18446744073709551616 ≤ s by omega)
  by_cases h : 18446744073709551616 ≤ s
  · have hd : (s : Int) / 18446744073709551616 = 1 := by omega
    rw [hd] at hadd
    rw [if_pos h]
    clear hd h hs
    go_enter Tryd.func66, Tryd.ntmps66
    go_wp2
    go_ret
    exact ⟨rfl, rfl⟩
  · have hd : (s : Int) / 18446744073709551616 = 0 := by omega
    have hd2 : (s : Int) % 18446744073709551616 = s := by omega
    rw [hd, hd2] at hadd
    rw [if_neg h]
    clear hd hd2 h hs
    go_enter Tryd.func66, Tryd.ntmps66
    go_wp2
    go_ret
    exact ⟨rfl, rfl⟩

end Go.Proofs.YtbbjoahloghpkaaDoor
