/- Ids: Zero. -/
import Derived.Test.YtdjlpmelmhhooaaDoorIds3
import Derived.Test.YtdjlpmelmhhooaaDoorIds5
namespace Go.Proofs.YtdjlpmelmhhooaaDoor
open Go Go.RowKit
set_option linter.unusedSimpArgs false
set_option linter.unusedVariables false

set_option maxRecDepth 100000 in
set_option maxHeartbeats 1000000 in
theorem zero_id (l : List UInt8) (hl : l.length = 16) (w : World) : Calls Tryd.prog 12 #[.agg (idA l)] w fun e w' => e = .returned (.bool (l == List.replicate 16 0)) ∧ Below w.heap.size w w' := by
  obtain ⟨A, hA⟩ : ∃ A, A = idA l := ⟨_, rfl⟩
  have hAs : A.size = 16 := by rw [hA, idA_size]
  have hAi := info16
  rw [← hAs] at hAi
  have r0 : RowAt (w.alloc (.cells A 23)) w.heap.size 23 A := RowAt.new w _ _
  have he : ∀ W : World, (Op.equalIn 10000 23 (.agg A) (.agg #[.int .u8 0, .int .u8 0, .int .u8 0, .int .u8 0, .int .u8 0, .int .u8 0, .int .u8 0, .int .u8 0, .int .u8 0, .int .u8 0, .int .u8 0, .int .u8 0, .int .u8 0, .int .u8 0, .int .u8 0, .int .u8 0])).run Tryd.prog W = .ok (l == List.replicate 16 0) W := fun W => by rw [hA]; exact eq_id l (List.replicate 16 0) hl rfl W
  rw [← hA]
  replace r0 := hid r0
  replace hAs := hid hAs
  replace hAi := hid hAi
  replace hA := hid hA
  go_enter Tryd.func12, Tryd.ntmps12
  go_wp2_with (first | (refine wpList_load_row rfl 23 _ rfl w.heap.size rfl 23 A (0, 0) _ r0.out Tryd.underlying23 rfl hAi.out ?_))
  go_ret
  exact ⟨rfl, below_al (Below.refl _ _) _⟩
end Go.Proofs.YtdjlpmelmhhooaaDoor
