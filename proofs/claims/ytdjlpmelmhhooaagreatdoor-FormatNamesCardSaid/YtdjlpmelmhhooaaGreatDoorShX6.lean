/- The document's sum. -/
import Derived.Test.YtdjlpmelmhhooaaGreatDoorShX5
import Derived.Test.YtdjlpmelmhhooaaGreatDoorShaD
import Derived.Test.YtdjlpmelmhhooaaGreatDoorShaF
import Derived.Test.YtdjlpmelmhhooaaGreatDoorShX4
namespace Go.Proofs.YtdjlpmelmhhooaaGreatDoor
section
open Go Go.RowKit
set_option linter.unusedSimpArgs false

theorem initS_cells : initS.cells = #[.int .u32 1779033703, .int .u32 3144134277, .int .u32 1013904242, .int .u32 2773480762, .int .u32 1359893119, .int .u32 2600822924, .int .u32 528734635, .int .u32 1541459225] := by kernel_rfl
end
section
open Go Go.RowKit
set_option linter.unusedSimpArgs false

theorem make32' (w : World) : (Instr.makeSlice 83 (.int .i64 32) (.int .i64 32)).run Tryz.prog w = .ok (.slice (some ⟨w.heap.size, 0, none⟩) 32 32) (w.alloc (.cells (rowA 32 fun _ => .int .u8 0) 5)) := by kernel_rfl
theorem make32 (t : St) (w : World) : (Instr.makeSlice 83 (.int .i64 32) (.int .i64 32)).run Tryz.prog w = .ok (.slice (some ⟨w.heap.size, 0, none⟩) 32 32) (w.alloc (.cells (rowA 32 (outB t 0)) 5)) :=
  (make32' w).trans (by rw [outB_zero, outV_zero])
theorem sumA_outB (s : ByteArray) : sumA s = rowA 32 (outB (lastS s) 32) := by rw [outB_all]; rfl
theorem outB_none (s t : St) : rowA 32 (outB s 0) = rowA 32 (outB t 0) := by rw [outB_zero, outB_zero, outV_zero, outV_zero]
end
end Go.Proofs.YtdjlpmelmhhooaaGreatDoor
