/- Ids: Cmp. -/
import Derived.Test.YtdjlpmelmhhooaaDoorIds0
import Derived.Test.YtdjlpmelmhhooaaDoorCmpS
import Derived.Test.YtdjlpmelmhhooaaDoorLibA
namespace Go.Proofs.YtdjlpmelmhhooaaDoor
open Go Go.RowKit
set_option linter.unusedSimpArgs false
set_option linter.unusedVariables false

theorem sliceAll16 (B : Nat) (W : World) : (Instr.sliceAt 23 (.pointer (some ⟨B, 0, none⟩)) none none none).run Tryd.prog W = .ok (.slice (some ⟨B, 0, none⟩) 16 16) W := by
  have hal : Tryd.prog.arrayLen 23 = 16 := by simp [Program.arrayLen, Tryd.underlying23]
  simp [Instr.sliceAt, hal, Program.elem, Tryd.underlying23, go_sem, Result.andThen, Sem.run_bind, run_underlying Tryd.underlying23]

set_option maxRecDepth 100000 in
set_option maxHeartbeats 4000000 in
theorem cmpId_any (l m : List UInt8) (hl : l.length = 16) (hm : m.length = 16) (w : World) : Calls Tryd.prog 7 #[.agg (idA l), .agg (idA m)] w fun e w' => e = .returned (.int .i64 (Lib.compareBytes l m)) ∧ Below w.heap.size w w' := by
  have LC : ∀ W, Calls Tryd.prog 20 #[.string (idS l), .string (idS m)] W fun e w' => e = .returned (.int .i64 (Lib.compareBytes l m)) ∧ W = w' := fun W => (compare_any (idS l) (idS m) W).mono fun e w' ⟨h1, h2⟩ => ⟨by rw [h1]; simp [idS], h2.symm⟩
  have cv1 : ∀ W b t, RowAt W b t (idA l) → (convert 44 9 (.slice (some ⟨b, 0, none⟩) 16 16)).run Tryd.prog W = .ok (.string (idS l)) W := fun W b t r => conv_id hl r
  have cv2 : ∀ W b t, RowAt W b t (idA m) → (convert 44 9 (.slice (some ⟨b, 0, none⟩) 16 16)).run Tryd.prog W = .ok (.string (idS m)) W := fun W b t r => conv_id hm r
  obtain ⟨A, hA⟩ : ∃ A, A = idA l := ⟨_, rfl⟩
  obtain ⟨B, hB⟩ : ∃ A, A = idA m := ⟨_, rfl⟩
  obtain ⟨s, hs⟩ : ∃ s, s = idS l := ⟨_, rfl⟩
  obtain ⟨t, ht⟩ : ∃ s, s = idS m := ⟨_, rfl⟩
  obtain ⟨k, hk⟩ : ∃ s, s = Lib.compareBytes l m := ⟨_, rfl⟩
  rw [← hA, ← hs] at cv1
  rw [← hB, ← ht] at cv2
  rw [← hs, ← ht, ← hk] at LC
  rw [← hA, ← hB, ← hk]
  replace LC := hid LC
  replace cv1 := hid cv1
  replace cv2 := hid cv2
  have hsl := sliceAll16
  clear hA hB hs ht hk hl hm
  go_enter Tryd.func7, Tryd.ntmps7
  go_wp2
  generalize hW0 : World.alloc (World.alloc w _) _ = W0
  have r1 : RowAt W0 w.heap.size 23 A := by rw [← hW0]; exact (RowAt.new w _ _).alloc _
  have r2 : RowAt W0 (w.heap.size + 1) 23 B := by rw [← hW0]; exact RowAt.newS w _ _ _ _
  have b0 : Below w.heap.size w W0 := by rw [← hW0]; exact below_al (below_al (Below.refl _ _) _) _
  have h1 := fun q : Sub W0 => cv1.out q.x _ _ (r1.below q.h r1.lt)
  have h2 := fun q : Sub W0 => cv2.out q.x _ _ (r2.below q.h r2.lt)
  replace r1 := hid r1
  replace r2 := hid r2
  replace b0 := hid b0
  clear hW0
  refine wp_region_sub (by kernel_rfl) (by kernel_rfl) ?_
  repeat (go_big_quiet_step (first
    | (go_at_call 20; with_reducible refine Sub.same _ (LC.out _))))
  refine wpQuiet_nil ?_
  intro q
  go_wp2
  go_ret
  exact ⟨rfl, below_cat q.h b0.out⟩
end Go.Proofs.YtdjlpmelmhhooaaDoor
