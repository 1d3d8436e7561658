/- Disk: fill; two blocks that are the same. -/
import Derived.Test.YtaofpeajfgcjcaaDkP
import Derived.Stop.BytesEq
namespace Go.Proofs.Ytaofpeajfgcjcaa
open Go Go.RowKit Go.Maps
open Go.Extern.Stop (cell)
set_option linter.unusedSimpArgs false
set_option linter.unusedVariables false

unseal blkA in
theorem blkA_cells (a : Blk) : blkA a = (((List.range 128).map a).map cell).toArray := by
  symm
  refine rowA_of (by simp) fun j hj => ?_
  simp [cell, hj, u8c]
theorem blk_eql (a : Blk) (W : World) : (binOp .eql 32 (.agg (blkA a)) (.agg (blkA a))).run Try.prog W = .ok (.bool true) W := by
  have h := run_eql_bytes (P := Try.prog) W 32 5 128 Try.underlying32 Try.underlying5 (fun w => by kernel_rfl) ((List.range 128).map a) ((List.range 128).map a) (by simp) (by simp)
  rw [blkA_cells, h]; simp
theorem blk_neq (a : Blk) (W : World) : (binOp .neq 32 (.agg (blkA a)) (.agg (blkA a))).run Try.prog W = .ok (.bool false) W := by
  have h := blk_eql a W
  rw [run_eql_struct] at h
  rw [run_neq_struct]
  cases hq : (Op.equalIn 10000 32 (.agg (blkA a)) (.agg (blkA a))).run Try.prog W with
  | ok b w' => rw [hq] at h; simp [Result.andThen] at h ⊢; simp [h]
  | halt x w' => rw [hq] at h; simp [Result.andThen] at h
theorem blk_guard (op : BinOp) (x y : Operand) (a b : Blk) (W : World) : (eqGuard op 32 x y (.agg (blkA a)) (.agg (blkA b))).run Try.prog W = .ok () W := run_eqGuard_agg W op 32 x y _ _ (by kernel_rfl)
def fillB (c : UInt8) : Blk := fun j => c + UInt8.ofNat j
def partB (c : UInt8) (i : Nat) : Blk := fun j => if j < i then fillB c j else 0
theorem partB_zero (c : UInt8) : blkA (partB c 0) = zeroBlk := by rw [zero_blkA]; exact blkA_ext fun j hj => rfl
theorem partB_all (c : UInt8) : blkA (partB c 128) = blkA (fillB c) := blkA_ext fun j hj => by simp [partB, hj]
unseal blkA in
theorem partB_step (c : UInt8) (i : Nat) (hi : i < 128) : (blkA (partB c i)).setIfInBounds i (u8c (fillB c i)) = blkA (partB c (i + 1)) := by
  unfold blkA
  rw [rowA_set]
  refine rowA_ext fun j hj => ?_
  by_cases h : j = i
  · subst h; simp [partB]
  · rw [if_neg h]
    simp only [partB]
    by_cases h2 : j < i
    · rw [if_pos h2, if_pos (by omega)]
    · rw [if_neg h2, if_neg (by omega)]
set_option maxRecDepth 1000000 in
set_option maxHeartbeats 4000000 in
theorem fill_any (c : UInt8) (w : World) : Calls Try.prog 10 #[.int .u8 (c.toNat : Nat)] w fun e w' => e = .returned (.agg (blkA (fillB c))) ∧ Below w.heap.size w w' := by
  have hz := zero_block
  have hzs := zeroBlk_size
  obtain ⟨W0, hW0⟩ : ∃ W0, W0 = (w.alloc (.cells zeroBlk 32)).alloc (.cells zeroBlk 32) := ⟨_, rfl⟩
  have hr0 : RowAt W0 w.heap.size 32 zeroBlk := by rw [hW0]; exact (RowAt.new _ _ _).alloc _
  have hr1 : RowAt W0 (w.heap.size + 1) 32 zeroBlk := by
    have := RowAt.new (w.alloc (.cells zeroBlk 32)) zeroBlk 32
    rw [show (w.alloc (.cells zeroBlk 32)).heap.size = w.heap.size + 1 by simp] at this
    rw [hW0]; exact this
  have hb0 : Below w.heap.size w W0 := by rw [hW0]; exact below_al (below_al (Below.refl _ _) _) _
  replace hr0 := hid hr0
  replace hr1 := hid hr1
  replace hb0 := hid hb0
  go_enter Try.func10, Try.ntmps10
  go_wp2
  rw [← hW0]
  clear hW0
  refine wp_loop_f (σ := Nat) (fun i f => #[.int .u8 (c.toNat : Nat), f 1, .pointer (some ⟨w.heap.size, 0, none⟩), .pointer (some ⟨w.heap.size + 1, 0, none⟩), f 4, .int .i64 (i : Nat), f 6, f 7, f 8, f 9, f 10, f 11, f 12, f 13, f 14, f 15]) (fun i V => i ≤ 128 ∧ Hid (RowAt V w.heap.size 32 zeroBlk) ∧ Hid (RowAt V (w.heap.size + 1) 32 (blkA (partB c i))) ∧ Hid (Below w.heap.size w V)) (fun i => 128 - i) 0 [] rfl rfl ⟨Nat.zero_le _, hr0, by rw [partB_zero]; exact hr1, hb0⟩ ?_
  rintro i f V ⟨hi, h0, h1, hb⟩ K hKK
  dsimp only at hi h0 h1 hb hKK ⊢
  replace hKK := hid hKK
  clear hr0 hr1 hb0 hz hzs
  by_cases hlt : i < 128
  · have g1 : decide ((i : Int) < 128) = true := decide_eq_true (by omega)
    have i1 : (0 : Int) ≤ (i : Int) := by omega
    have i2 : (i : Int) < 128 := by omega
    have hadd : IntKind.i64.wrap ((i : Int) + 1) = ((i + 1 : Nat) : Int) := by rw [IntKind.wrap_i64]; omega
    have cc : V.cell? ⟨w.heap.size + 1, i, none⟩ = some (u8c (partB c i i)) := h1.out.cell (blkA_get _ _ hlt)
    have ff := h1.out.free i
    go_wp2
    have hu8 : (.int .u8 (((c.toNat : Int) + (i : Int)) % 256) : Value) = u8c (fillB c i) := by
      unfold u8c fillB
      congr 1
      rw [UInt8.toNat_add, UInt8.toNat_ofNat']
      omega
    rw [hu8]
    refine hKK.out (i + 1) _ _ rfl (by omega) ⟨hlt, hid (h0.out.other _ _ (by simp)), hid ?_, hid (hb.out.setCell (by simp) _)⟩
    rw [← partB_step c i hlt]
    exact h1.out.set i _
  · obtain rfl : i = 128 := by omega
    have h1' : RowAt V (w.heap.size + 1) 32 (blkA (fillB c)) := by rw [← partB_all]; exact h1.out
    have hst := cells_block V w.heap.size zeroBlk (blkA (fillB c)) h0.out zeroBlk_size (blkA_size _) (blkA_one _)
    have hend := h0.out.setRow (blkA (fillB c))
    have hbel := below_setRow hb.out (Nat.le_refl _) (blkA (fillB c))
    have hbs := blkA_size (fillB c)
    clear hKK h1
    replace h1' := hid h1'
    replace hend := hid hend
    replace hbel := hid hbel
    go_wp2_with (with_reducible refine at_op (some 15) (.load 32 (.tmp 3)) ?_
                 refine wpList_load_row (o := ⟨some 15, _, _, _, _, _⟩) rfl 32 (.tmp 3) rfl (w.heap.size + 1) rfl 32 (blkA (fillB c)) (0, 0) _ h1'.out Try.underlying32 rfl (infoBlkCs _) ?_)
    exact bodyPost_ret (results_cell_row rfl _ _ w.heap.size 32 (blkA (fillB c)) (0, 0) _ rfl hend.out Try.underlying32 rfl (infoBlkCs _)) rfl ⟨rfl, hbel.out⟩
end Go.Proofs.Ytaofpeajfgcjcaa
