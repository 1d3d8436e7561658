/- Chapter 01's awake, for those above. -/
import Derived.Test.YtbbjoahloghpkaaDoorOctP
import Derived.Test.YtbbjoahloghpkaaDoorCrc2
namespace Go.Proofs.YtbbjoahloghpkaaDoor
open Go Go.RowKit
set_option linter.unusedSimpArgs false

def ex12 (i : Nat) : ByteArray := if i = 0 then ⟨#[49, 50, 51, 52]⟩ else ⟨#[53, 54, 55, 56, 57]⟩
theorem crc_ex : 4294967295 - crcF ex12 2 = 3421780262 := by kernel_rfl
theorem put_ex : beS 258 (clip8 2) = ⟨#[1, 2]⟩ := by kernel_rfl

set_option maxHeartbeats 1000000 in
theorem awake_any (w : World) : Calls Tryd.prog 101 #[] w fun e w' => e = .returned (.bool true) ∧ Below w.heap.size w w' := by
  go_enter Tryd.func101, Tryd.ntmps101
  go_wp2_with (first | (go_at_call 115; refine (crc_any ex12 w.heap.size 0 2 2 _ ?_ ?_ ?_ ?_).mono ?_) | (go_at_call 62; refine (put_any 258 2 _).mono ?_; rw [put_ex]))
  · simp
  · omega
  · intro i hi; unfold ex12; split <;> decide
  · exact lit_cells w _ _ 2 ex12 (fun i hi => by match i, hi with | 0, _ => rfl | 1, _ => rfl)
  · rw [crc_ex]
    rintro e w1 ⟨rfl, hB⟩
    have hB1 := ((Below.refl _ w).alloc (Nat.le_refl _) (.cells #[.string ⟨#[49, 50, 51, 52]⟩, .string ⟨#[53, 54, 55, 56, 57]⟩] 9)).trans (hB.mono (by simp))
    have HB := hid hB1; clear hB hB1
    go_wp2_with (go_at_call 62; refine (put_any 258 2 _).mono ?_; rw [put_ex]; rintro e w2 ⟨rfl, hB⟩)
    go_ret
    exact ⟨rfl, HB.out.trans (hB.mono HB.out.size)⟩

end Go.Proofs.YtbbjoahloghpkaaDoor
