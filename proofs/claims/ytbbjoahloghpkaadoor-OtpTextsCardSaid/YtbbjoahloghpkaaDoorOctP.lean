/- Put alone. -/
import Derived.Test.YtbbjoahloghpkaaDoorProg
import Derived.Test.YtbbjoahloghpkaaDoorOct0
namespace Go.Proofs.YtbbjoahloghpkaaDoor
open Go Go.RowKit

theorem info_u8 : (Tryd.prog.info? 5).map (fun i => (i.zero, i.size, i.bytes)) = some (some (.int .u8 0), 1, 1) := by kernel_rfl

set_option maxHeartbeats 1000000 in
theorem put_any (n : Nat) (z : Int) (w : World) :
    Calls Tryd.prog 62 #[.int .u64 (n : Int), .int .i64 z] w fun e w' => e = .returned (.string (beS n (clip8 z))) ∧ Below w.heap.size w w' := by
  obtain ⟨m, hm1, hm2⟩ := clip8_parts z
  have hc8 := clip8_le z
  obtain ⟨c, hc⟩ : ∃ c, c = clip8 z := ⟨_, rfl⟩
  rw [← hc] at hm2 hc8 ⊢
  clear hc
  have hmk := fun w => run_make8 (P := Tryd.prog) 29 5 Tryd.underlying29 info_u8 c (by omega) w
  go_enter Tryd.func62, Tryd.ntmps62
  go_wp2
  clear hm1 hm2 hmk
  obtain ⟨w1, hw1⟩ : ∃ w1, w1 = w.alloc (.cells (rowA c fun _ => .int .u8 0) 5) := ⟨_, rfl⟩
  rw [← hw1]
  have hR : RowAt w1 w.heap.size 5 (rowA c (putF n c 0)) := by rw [hw1, ← putF_zero]; exact RowAt.new _ _ _
  have hB : Below w.heap.size w w1 := by rw [hw1]; exact (Below.refl _ w).alloc (Nat.le_refl _) _
  have HR := hid hR; have HB := hid hB; clear hR hB hw1
  go_loopw [14] (fun v wr => ∃ i : Nat, i ≤ c ∧ v = .int .i64 i ∧ Hid (RowAt wr w.heap.size 5 (rowA c (putF n c i))) ∧ Hid (Below w.heap.size w wr)) (fun v _ => c - (intOf v).toNat)
  case atStart => exact ⟨0, Nat.zero_le _, rfl, HR, HB⟩
  case round =>
    clear HR HB
    obtain ⟨i, hi, rfl, HR, HB⟩ := hrel
    by_cases hlt : i < c
    · have hc : wr.cell? ⟨w.heap.size, c - 1 - i, none⟩ = some (putF n c i (c - 1 - i)) := HR.out.cell (rowA_get _ _ _ (by omega))
      have hf : wr.frozen? ⟨w.heap.size, c - 1 - i, none⟩ = false := HR.out.free _
      go_wp2
      go_roundw
      case rel =>
        refine ⟨i + 1, by omega, by go_num, ?_, HB.out.setCell (Nat.le_refl _) _⟩
        rw [put_byte]
        exact (HR.out.set _ _).eqA (putF_set n c i hlt)
      case measure => simp [intOf]; omega
    · obtain rfl : i = c := by omega
      have hcv := conv_row (P := Tryd.prog) 29 9 5 Tryd.underlying29 Tryd.underlying5 Tryd.underlying9 i (HR.out.eqA (putF_all n i))
      go_wp2
      go_ret
      exact ⟨rfl, HB.out⟩

end Go.Proofs.YtbbjoahloghpkaaDoor
