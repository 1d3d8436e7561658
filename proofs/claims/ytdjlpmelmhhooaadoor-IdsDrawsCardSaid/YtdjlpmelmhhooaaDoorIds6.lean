/- Ids: Draw. -/
import Derived.Test.YtdjlpmelmhhooaaDoorIds4
namespace Go.Proofs.YtdjlpmelmhhooaaDoor
open Go Go.RowKit
set_option linter.unusedSimpArgs false
set_option linter.unusedVariables false

theorem results_row_tmpI {P : Program} {fn : Func} {p u : Tmp} {ty : TypeId} (h : fn.results = #[.cell p ty, .tmp u]) (tmps : Array Value) (w : World) (g : Nat) (t : TypeId) (cs : Array Value) (fr : Nat × Nat) (d : TypeDesc)
    (hp : tmps.getD p undef = .pointer (some ⟨g, 0, none⟩)) (hg : w.heap[g]? = some (.cells cs t fr))
    (hu : P.underlying ty = some d) (hd : (match d with | .struct _ | .array _ _ => true | _ => false) = true) (hi : (P.info? ty).map (·.size) = some cs.size) :
    (results fn tmps).run P w = .ok (.tuple #[.agg cs, tmps.getD u undef]) w := by
  rw [results_cell_tmp h, hp]
  simp [asAddr, Result.andThen, run_loadVar_row w g t ty cs fr d hg hu hd hi]

set_option maxRecDepth 100000 in
set_option maxHeartbeats 4000000 in
theorem draw_none (s : ByteArray) (hs : s.size ≠ 16) (w : World) : Calls Tryd.prog 8 #[.string s] w fun e w' => e = .returned (.tuple #[.agg (idA (List.replicate 16 0)), .int .i64 4]) ∧ Below w.heap.size w w' := by
  have hd : ((s.size : Int) != 16) = true := by rw [bne_iff_ne]; omega
  go_enter Tryd.func8, Tryd.ntmps8
  go_wp2
  have r0 : RowAt (w.alloc (.cells (idA (List.replicate 16 0)) 23)) w.heap.size 23 (idA (List.replicate 16 0)) := RowAt.new w _ _
  exact bodyPost_ret (results_row_tmpI rfl _ _ w.heap.size 23 (idA (List.replicate 16 0)) (0, 0) _ rfl r0 Tryd.underlying23 rfl (by rw [info16, idA_size])) rfl ⟨rfl, below_al (Below.refl _ _) _⟩
end Go.Proofs.YtdjlpmelmhhooaaDoor
