/- The document's sum as bytes: the walk. -/
import Derived.Test.YtbbjoahloghpkaaDoorShaG
import Derived.Test.YtbbjoahloghpkaaDoorShaA
namespace Go.Proofs.YtbbjoahloghpkaaDoor
open Go Go.RowKit
set_option linter.unusedSimpArgs false

theorem make32' (w : World) : (Instr.makeSlice 29 (.int .i64 32) (.int .i64 32)).run Tryd.prog w = .ok (.slice (some ⟨w.heap.size, 0, none⟩) 32 32) (w.alloc (.cells (rowA 32 fun _ => .int .u8 0) 5)) := by kernel_rfl
theorem make32 (t : St) (w : World) : (Instr.makeSlice 29 (.int .i64 32) (.int .i64 32)).run Tryd.prog w = .ok (.slice (some ⟨w.heap.size, 0, none⟩) 32 32) (w.alloc (.cells (rowA 32 (outB t 0)) 5)) :=
  (make32' w).trans (by rw [outB_zero, outV_zero])
theorem sumA_outB (s : ByteArray) : sumA s = rowA 32 (outB (lastS s) 32) := by rw [outB_all]; rfl
theorem outB_none (s t : St) : rowA 32 (outB s 0) = rowA 32 (outB t 0) := by rw [outB_zero, outB_zero, outV_zero, outV_zero]
set_option maxRecDepth 100000 in
set_option maxHeartbeats 1000000 in
theorem refText_any (s : ByteArray) (hs : s.size ≤ 1000000000) (w : World) : Calls Tryd.prog 25 #[.string s] w fun e w' => e = .returned (.string (sumS s)) ∧ Below w.heap.size w w' := by
  obtain ⟨t, ht⟩ : ∃ t, t = lastS s := ⟨_, rfl⟩
  have hz := zero32 t
  have hmk := make32 t
  have LS := fun w => refSum_any s hs w
  rw [sumA_outB, ← ht] at LS
  have hout : (⟨((List.range 32).map (shaByte t)).toArray⟩ : ByteArray) = sumS s := by rw [ht]; rfl
  replace LS := hid LS
  replace ht := hid ht
  replace hout := hid hout
  go_enter Tryd.func25, Tryd.ntmps25
  go_wp2_with (first
    | (go_at_call 59; with_reducible refine (LS.out _).mono ?_; rintro e w1 ⟨rfl, hB1⟩)
    | (refine wpList_store_row rfl 86 _ _ rfl w1.heap.size (rowA 32 (outB t 32)) rfl rfl 86 (rowA 32 (outV t 0)) (RowAt.new _ _ _) (by rw [info32, rowA_size]) (by rw [rowA_size, rowA_size]) (by rw [Array.all_eq_true]; intro i h; simp only [rowA, Array.getElem_ofFn, outB]; rfl) ?_
       have hX := (RowAt.new w1 (rowA 32 (outV t 0)) 86).setRow (rowA 32 (outB t 32))
       have hBX := below_setRow (below_al hB1 (.cells (rowA 32 (outV t 0)) 86)) hB1.size (rowA 32 (outB t 32))
       have hbz := hB1.size
       obtain ⟨X, hXe⟩ : ∃ X, X = (w1.alloc (.cells (rowA 32 (outV t 0)) 86)).setRow w1.heap.size (rowA 32 (outB t 32)) := ⟨_, rfl⟩
       obtain ⟨A, hA⟩ : ∃ A, A = w1.heap.size := ⟨_, rfl⟩
       rw [← hA] at hX hBX hXe hbz ⊢
       rw [← hXe] at hX hBX ⊢
       clear hXe hB1 hA hz
       clear w1
       replace hX := hid hX
       replace hBX := hid hBX))
  have hb := RowAt.new X (rowA 32 (outB t 0)) 5
  have hX2 := hX.out.alloc (.cells (rowA 32 (outB t 0)) 5)
  have hB2 := below_al hBX.out (.cells (rowA 32 (outB t 0)) 5)
  have hAX : A < X.heap.size := hX.out.lt
  obtain ⟨b, hbe⟩ : ∃ b, b = X.heap.size := ⟨_, rfl⟩
  rw [← hbe] at hb hAX ⊢
  obtain ⟨Y, hY⟩ : ∃ Y, Y = X.alloc (.cells (rowA 32 (outB t 0)) 5) := ⟨_, rfl⟩
  rw [← hY] at hb hX2 hB2 ⊢
  clear hY hbe hX hBX hmk
  clear X
  replace hb := hid hb
  replace hX2 := hid hX2
  replace hB2 := hid hB2
  go_loopw [5] (fun v wr => ∃ i : Nat, i ≤ 32 ∧ v = .int .i64 (i : Nat) ∧ Hid (RowAt wr b 5 (rowA 32 (outB t i))) ∧ Hid (RowAt wr A 86 (rowA 32 (outB t 32))) ∧ Hid (Below w.heap.size w wr)) (fun v _ => 32 - (intOf v).toNat)
  case atStart => exact ⟨0, by omega, rfl, hb, hX2, hB2⟩
  case round =>
    clear hb hX2 hB2
    obtain ⟨i, hi, rfl, hb, hX, hB⟩ := hrel
    by_cases h32 : i = 32
    · subst h32
      have hcv := conv_row (P := Tryd.prog) 29 9 5 Tryd.underlying29 Tryd.underlying5 Tryd.underlying9 32 (hb.out.eqA (outB_all t))
      rw [hout.out] at hcv
      go_wp2
      go_ret
      exact ⟨rfl, hB.out⟩
    · have hlt : i < 32 := by omega
      have hlti : (i : Int) < 32 := by omega
      obtain ⟨c, hc⟩ : ∃ c, c = (shaByte t i).toNat := ⟨_, rfl⟩
      have e1 : wr.cell? ⟨A, i, none⟩ = some (.int .u8 (c : Nat)) := hX.out.cell (by rw [rowA_get _ _ _ hlt, hc]; simp [outB, hlt])
      have e2 : wr.cell? ⟨b, i, none⟩ = some (.int .u8 0) := hb.out.cell (by rw [rowA_get _ _ _ hlt]; simp [outB])
      have f2 := hb.out.free i
      replace hc := hid hc
      go_wp2
      go_roundw
      case rel => exact ⟨i + 1, by omega, by go_num, (hb.out.set i _).eqA (by rw [hc.out]; exact outB_set t i), hX.out.other _ _ (by simp <;> omega), hB.out.setCell (by simp <;> omega) _⟩
      case measure => simp [intOf]; omega
end Go.Proofs.YtbbjoahloghpkaaDoor
