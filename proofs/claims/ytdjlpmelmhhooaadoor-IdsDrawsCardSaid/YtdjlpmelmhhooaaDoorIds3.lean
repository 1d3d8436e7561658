/- Ids: Version, Draw. -/
import Derived.Test.YtdjlpmelmhhooaaDoorIdA
import Derived.Test.YtdjlpmelmhhooaaDoorIdP
namespace Go.Proofs.YtdjlpmelmhhooaaDoor
open Go Go.RowKit
set_option linter.unusedSimpArgs false
set_option linter.unusedVariables false

set_option maxRecDepth 100000 in
set_option maxHeartbeats 4000000 in
theorem version_any (l : List UInt8) (hl : l.length = 16) (w : World) : Calls Tryd.prog 11 #[.agg (idA l)] w fun e w' => e = .returned (.int .i64 (((l.getD 6 0).toNat / 16 : Nat) : Int)) ∧ Below w.heap.size w w' := by
  obtain ⟨u, hu⟩ : ∃ u, u = (l.getD 6 0).toNat := ⟨_, rfl⟩
  have hu8 : u < 256 := by rw [hu]; exact (l.getD 6 0).toNat_lt
  have r0 : RowAt (w.alloc (.cells (idA l) 23)) w.heap.size 23 (idA l) := RowAt.new w _ _
  have hc : (w.alloc (.cells (idA l) 23)).cell? ⟨w.heap.size, 6, none⟩ = some (.int .u8 (u : Int)) := by rw [hu]; exact r0.cell (rowA_get 16 (idV l) 6 (by decide))
  have hw6 : wrap64 ((u : Int) / 16) = (u : Int) / 16 := by
    have h1 : (0 : Int) ≤ (u : Int) / 16 := by omega
    have h2 : (u : Int) / 16 < 16 := by omega
    unfold wrap64
    omega
  rw [← hu]
  obtain ⟨A, hA⟩ : ∃ A, A = idA l := ⟨_, rfl⟩
  rw [← hA] at hc ⊢
  clear r0 hA hu
  go_enter Tryd.func11, Tryd.ntmps11
  go_wp2
  go_ret
  refine ⟨?_, ?_⟩
  · simp [hw6]
  · exact below_al (Below.refl _ _) _
end Go.Proofs.YtdjlpmelmhhooaaDoor
