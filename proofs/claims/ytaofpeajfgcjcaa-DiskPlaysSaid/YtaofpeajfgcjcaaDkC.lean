/- Disk: Read. -/
import Derived.Test.YtaofpeajfgcjcaaDkB
import Derived.Deep.WholeRow
namespace Go.Proofs.Ytaofpeajfgcjcaa
open Go Go.RowKit
set_option linter.unusedSimpArgs false
set_option linter.unusedVariables false

theorem results_row_tmpD {P : Program} {fn : Func} {p u : Tmp} {ty : TypeId} (h : fn.results = #[.cell p ty, .tmp u]) (tmps : Array Value) (w : World) (g : Nat) (t : TypeId) (cs : Array Value) (fr : Nat × Nat) (d : TypeDesc)
    (hp : tmps.getD p undef = .pointer (some ⟨g, 0, none⟩)) (hg : w.heap[g]? = some (.cells cs t fr))
    (hu : P.underlying ty = some d) (hd : (match d with | .struct _ | .array _ _ => true | _ => false) = true) (hi : (P.info? ty).map (·.size) = some cs.size) :
    (results fn tmps).run P w = .ok (.tuple #[.agg cs, tmps.getD u undef]) w := by
  rw [results_cell_tmp h, hp]
  simp [asAddr, Result.andThen, run_loadVar_row w g t ty cs fr d hg hu hd hi]

/-- A block of zeros. -/
def zeroBlk : Array Value := Array.replicate 128 (.int .u8 0)
theorem zeroBlk_size : zeroBlk.size = 128 := by simp [zeroBlk]
theorem zeroBlk_one : zeroBlk.all (·.oneCell') = true := by
  rw [Array.all_eq_true_iff_forall_mem]
  intro v hv
  rw [show v = .int .u8 0 from (Array.mem_replicate.1 hv).2]
  rfl
theorem zero_block (w : World) : (zeroValue 32).run Try.prog w = .ok (.agg zeroBlk) w := by kernel_rfl
theorem built_block : Try.prog.built 32 [] = some zeroBlk := by kernel_rfl
theorem build_block (w : World) : (Instr.build 32 #[]).run Try.prog w = .ok (.agg zeroBlk) w := run_build w _ _ _ built_block
theorem info_block : (Try.prog.info? 32).map (·.size) = some 128 := by kernel_rfl
theorem store_block (w : World) (g : Nat) (old cells : Array Value) (hg : RowAt w g 32 old) (ho : old.size = 128) (hc : cells.size = 128) (h1 : cells.all (·.oneCell') = true) :
    (storeVar 32 ⟨g, 0, none⟩ (.agg cells)).run Try.prog w = .ok () (w.setRow g cells) :=
  run_storeVar_row w g 32 32 old cells hg (by rw [info_block, hc]) (by rw [ho, hc]) h1
theorem cells_block (w : World) (g : Nat) (old cells : Array Value) (hg : RowAt w g 32 old) (ho : old.size = 128) (hc : cells.size = 128) (h1 : cells.all (·.oneCell') = true) :
    (storeCells ⟨g, 0, none⟩ cells.toList).run Try.prog w = .ok () (w.setRow g cells) := by
  have := store_block w g old cells hg ho hc h1
  have hi := info_block
  cases hq : Try.prog.info? 32 with
  | none => rw [hq] at hi; cases hi
  | some i =>
    have hs : i.size = 128 := by simpa [hq] using hi
    simpa [storeVar, sizeOf, typeInfo, hq, Value.cells, hs, hc] using this
theorem load_block (w : World) (g : Nat) (cells : Array Value) (hg : RowAt w g 32 cells) (hc : cells.size = 128) : (loadVar 32 ⟨g, 0, none⟩).run Try.prog w = .ok (.agg cells) w :=
  run_loadVar_row w g 32 32 cells (0, 0) _ hg Try.underlying32 rfl (by rw [info_block, hc])

attribute [irreducible] zeroBlk
set_option maxRecDepth 100000 in
set_option maxHeartbeats 4000000 in
/-- Read of what may not be read. -/
theorem read_bad (p : Option Addr) (at' k : Int) (hk : k ≠ 0) (w : World) (hm : ∀ o, Calls Try.prog 24 #[.pointer p, .int .i64 at'] (w.alloc o) fun e w' => e = .returned (.int .i64 k) ∧ w.alloc o = w') :
    Calls Try.prog 15 #[.pointer p, .int .i64 at'] w fun e w' => e = .returned (.tuple #[.agg zeroBlk, .int .i64 k]) ∧ w' = w.alloc (.cells zeroBlk 32) := by
  have hb : (k != 0) = true := by rw [bne_iff_ne]; exact hk
  replace hm := hid hm
  have hz := zero_block
  have hbu := build_block
  have hzs := zeroBlk_size
  have hst := cells_block _ _ _ zeroBlk (RowAt.new w zeroBlk 32) zeroBlk_size zeroBlk_size zeroBlk_one
  rw [World.setRow_alloc_new] at hst
  go_enter Try.func15, Try.ntmps15
  go_wp2_with (go_at_call 24; refine (hm.out _).mono ?_; rintro e w1 ⟨rfl, rfl⟩)
  exact bodyPost_ret (results_row_tmpD rfl _ _ w.heap.size 32 zeroBlk (0, 0) _ rfl (RowAt.new _ _ _) Try.underlying32 rfl (by rw [info_block, zeroBlk_size])) rfl ⟨rfl, rfl⟩
end Go.Proofs.Ytaofpeajfgcjcaa
