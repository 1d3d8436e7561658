/- The walks of step and Table. -/
import Derived.Test.YtbbjoahloghpkaaDoorProg
import Derived.Test.YtbbjoahloghpkaaDoorCrc0
namespace Go.Proofs.YtbbjoahloghpkaaDoor
open Go Go.RowKit

theorem step_any (n : Nat) (hn : n < 4294967296) (w : World) :
    Calls Tryd.prog 131 #[.int .u32 (n : Int)] w fun e w' => e = .returned (.int .u32 (stepN n : Nat)) ∧ w = w' := by
  have h1 := and_one_u32 n hn
  have h2 := xor_poly_u32 (n / 2) (by omega)
  have hm : n % 2 = 0 ∨ n % 2 = 1 := by omega
  rcases hm with hm | hm
  · have hb : ((bits .and .u32 (n : Int) 1) == 1) = false := by rw [h1, hm]; rfl
    have hs : stepN n = n / 2 := by unfold stepN; rw [if_neg (by omega)]
    have HS := hid hs; clear hs h1 h2 hm
    go_enter Tryd.func131, Tryd.ntmps131
    go_wp2
    go_ret
    exact ⟨by rw [HS.out]; simp, rfl⟩
  · have hb : ((bits .and .u32 (n : Int) 1) == 1) = true := by rw [h1, hm]; rfl
    have hs : stepN n = (n / 2) ^^^ 3988292384 := by unfold stepN; rw [if_pos hm]
    have HS := hid hs; have H2 := hid h2; clear hs h1 h2 hm
    go_enter Tryd.func131, Tryd.ntmps131
    go_wp2
    go_ret
    exact ⟨by rw [HS.out, ← H2.out]; simp, rfl⟩

theorem zero27 (w : World) : (zeroValue 157).run Tryd.prog w = .ok (.agg (tabA 0)) w := by kernel_rfl

set_option maxHeartbeats 1000000 in
theorem info27 : (Tryd.prog.info? 157).map (·.size) = some 256 := by kernel_rfl
theorem tab_one (k : Nat) : (tabA k).all (·.oneCell') = true := by
  rw [Array.all_eq_true]; intro i h; simp only [tabA, rowA, Array.getElem_ofFn, tabF]; split <;> rfl
theorem tab_size (k : Nat) : (tabA k).size = 256 := by simp [tabA, rowA_size]

set_option maxHeartbeats 2000000 in
set_option maxRecDepth 100000 in
theorem table_any (w : World) : Calls Tryd.prog 127 #[] w fun e w' => e = .returned (.agg (tabA 256)) ∧ Below w.heap.size w w' := by
  have hz := zero27
  go_enter Tryd.func127, Tryd.ntmps127
  go_wp2
  clear hz
  go_loopw [4] (fun v wr => ∃ k : Nat, k ≤ 256 ∧ v = .int .i64 k ∧ Hid (RowAt wr (w.heap.size + 1) 157 (tabA k)) ∧ Hid (RowAt wr w.heap.size 157 (tabA 0)) ∧ Hid (Below w.heap.size w wr)) (fun v _ => 256 - (intOf v).toNat)
  case atStart =>
    exact ⟨0, by omega, rfl, by have := RowAt.new (w.alloc (.cells (tabA 0) 157)) (tabA 0) 157; rwa [World.size_alloc] at this, (RowAt.new w (tabA 0) 157).alloc _, ((Below.refl _ w).alloc (Nat.le_refl _) _).alloc (by simp) _⟩
  case round =>
    obtain ⟨k, hk, rfl, h1, h0, hB⟩ := hrel
    by_cases hlt : k < 256
    · have hc : wr.cell? ⟨w.heap.size + 1, k, none⟩ = some (.int .u32 0) := h1.out.cell (by rw [tabA, rowA_get _ _ _ hlt]; simp [tabF])
      have hf : wr.frozen? ⟨w.heap.size + 1, k, none⟩ = false := h1.out.free k
      have he : IntKind.u32.wrap (k : Int) = (k : Int) := by rw [IntKind.wrap_u32]; omega
      have hd : decide ((k : Int) < 256) = true := by simp; omega
      go_wp2
      clear he
      go_loop [3, 9] (fun v j => ∃ m : Nat, m ≤ 8 ∧ j = .int .i64 m ∧ v = .int .u32 (iterN k m : Nat)) (fun _ j => 8 - (intOf j).toNat)
      case atStart => exact ⟨0, by omega, rfl, rfl⟩
      case round =>
        obtain ⟨m, hm, rfl, rfl⟩ := hrel
        by_cases hl8 : m < 8
        · have hq := iterN_lt (n := k) (by omega) m
          go_wp2_with (go_at_call 131; refine (step_any _ hq _).mono ?_; rintro e w' ⟨rfl, rfl⟩)
          go_round
          case rel => exact ⟨m + 1, by omega, by go_num, rfl⟩
          case measure => simp [intOf]; omega
        · obtain rfl : m = 8 := by omega
          go_wp2
          go_roundw
          case rel =>
            refine ⟨k + 1, by omega, by go_num, ?_, h0.out.other _ _ (by simp), hB.out.setCell (by simp) _⟩
            exact (h1.out.set k _).eqA (tabA_set k)
          case measure => simp [intOf]; omega
    · obtain rfl : k = 256 := by omega
      have h256 : wr.heap[w.heap.size + 1]? = some (.cells (tabA 256) 157 (0, 0)) := h1.out
      have h00 : wr.heap[w.heap.size]? = some (.cells (tabA 0) 157 (0, 0)) := h0.out
      have H256 := hid h256; have H00 := hid h00; clear h256 h00
      go_wp2_with (first | (refine wpList_load_row rfl 157 _ rfl (w.heap.size + 1) rfl 157 (tabA 256) (0, 0) _ H256.out Tryd.underlying157 rfl (by rw [info27, tab_size]) ?_) | (refine wpList_store_row rfl 157 _ _ rfl w.heap.size (tabA 256) rfl rfl 157 (tabA 0) H00.out (by rw [info27, tab_size]) (by rw [tab_size, tab_size]) (tab_one _) ?_))
      exact bodyPost_ret (results_cell_row rfl _ _ w.heap.size 157 (tabA 256) (0, 0) _ rfl (h0.out.setRow _) Tryd.underlying157 rfl (by rw [info27, tab_size])) rfl ⟨rfl, below_setRow hB.out (Nat.le_refl _) _⟩

end Go.Proofs.YtbbjoahloghpkaaDoor
