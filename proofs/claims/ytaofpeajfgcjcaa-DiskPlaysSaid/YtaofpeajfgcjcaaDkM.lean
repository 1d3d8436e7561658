/- Disk: Lasts, New. -/
import Derived.Test.YtaofpeajfgcjcaaDkL
namespace Go.Proofs.Ytaofpeajfgcjcaa
open Go Go.RowKit Go.Maps
set_option linter.unusedSimpArgs false
set_option linter.unusedVariables false

def DS.last (S : DS) (a : Int) : Blk := if 0 ≤ a ∧ a < S.n then secOf S.lasts a.toNat else fun _ => 0
theorem lasts_out (p : Option Addr) (n : Nat) (a : Int) (ha : a < 0 ∨ (n : Int) ≤ a) (w : World) (hsec : ∀ o, Calls Try.prog 22 #[.pointer p] (w.alloc o) fun e w' => e = .returned (.int .i64 (n : Nat)) ∧ w.alloc o = w') :
    Calls Try.prog 23 #[.pointer p, .int .i64 a] w fun e w' => e = .returned (.agg zeroBlk) ∧ Below w.heap.size w w' := by
  have hz := zero_block
  have hbu := build_block
  have hzs := zeroBlk_size
  have hst := cells_block _ _ _ zeroBlk (RowAt.new w zeroBlk 32) zeroBlk_size zeroBlk_size zeroBlk_one
  rw [World.setRow_alloc_new] at hst
  replace hsec := hid hsec
  by_cases h0 : a < 0
  · have g0 : decide (a < 0) = true := decide_eq_true h0
    go_enter Try.func23, Try.ntmps23
    go_wp2
    exact bodyPost_ret (results_cell_row rfl _ _ w.heap.size 32 zeroBlk (0, 0) _ rfl (RowAt.new _ _ _) Try.underlying32 rfl (by rw [info_block, zeroBlk_size])) rfl ⟨rfl, below_al (Below.refl _ _) _⟩
  · have g0 : decide (a < 0) = false := decide_eq_false h0
    have g1 : decide ((n : Int) ≤ a) = true := decide_eq_true (by omega)
    have g1' : (n : Int) ≤ a := by omega
    go_enter Try.func23, Try.ntmps23
    go_wp2_with (go_at_call 22; refine (hsec.out _).mono ?_; rintro e w1 ⟨rfl, rfl⟩)
    exact bodyPost_ret (results_cell_row rfl _ _ w.heap.size 32 zeroBlk (0, 0) _ rfl (RowAt.new _ _ _) Try.underlying32 rfl (by rw [info_block, zeroBlk_size])) rfl ⟨rfl, below_al (Below.refl _ _) _⟩
set_option maxRecDepth 100000 in
set_option maxHeartbeats 4000000 in
theorem lasts_in (d L n : Nat) (v : Value) (M : Nat) (steps fuse : Int) (down : Bool) (cs : Array Value) (hcs : cs.size = 128) (hc1 : cs.all (·.oneCell') = true) (at' : Nat) (hn : n ≤ 4096) (han : at' < n)
    (w : World) (hr : RowAt w d 57 (diskA L n v M steps fuse down)) (hrg : w.rangeAt L (at' * 128) cs.toList)
    (hsec : ∀ o, Calls Try.prog 22 #[.pointer (some ⟨d, 0, none⟩)] (w.alloc o) fun e w' => e = .returned (.int .i64 (n : Nat)) ∧ w.alloc o = w') :
    Calls Try.prog 23 #[.pointer (some ⟨d, 0, none⟩), .int .i64 (at' : Int)] w fun e w' => e = .returned (.agg cs) ∧ Below w.heap.size w w' := by
  have hz := zero_block
  have hzs := zeroBlk_size
  obtain ⟨W, hW⟩ : ∃ W, W = w.alloc (.cells zeroBlk 32) := ⟨_, rfl⟩
  have c0 : W.cell? ⟨d, 0, none⟩ = some (.slice (some ⟨L, 0, none⟩) n n) := by rw [hW]; exact (hr.alloc _).cell rfl
  have hrg2 : W.rangeAt L (at' * 128) cs.toList := by rw [hW]; exact World.rangeAt_alloc hrg _
  have r0 : RowAt W w.heap.size 32 zeroBlk := by rw [hW]; exact RowAt.new _ _ _
  have hst2 := cells_block _ _ _ cs r0 zeroBlk_size hcs hc1
  have hend : RowAt (W.setRow w.heap.size cs) w.heap.size 32 cs := setRow_heap _ _ _ _ _ _ r0
  have hbel : Below w.heap.size w (W.setRow w.heap.size cs) := below_setRow (by rw [hW]; exact below_al (Below.refl _ _) _) (Nat.le_refl _) cs
  have hib : (Try.prog.info? 32).map (·.size) = some cs.toList.length := by rw [info_block, Array.length_toList, hcs]
  have i1 : (0 : Int) ≤ (at' : Int) := by omega
  have i2 : (at' : Int) < (n : Int) := by omega
  have g0 : decide ((at' : Int) < 0) = false := decide_eq_false (by omega)
  have g1 : decide ((n : Int) ≤ (at' : Int)) = false := decide_eq_false (by omega)
  have g2 : decide (n ≤ at') = false := decide_eq_false (by omega)
  replace hsec := hid (hsec (.cells zeroBlk 32))
  rw [← hW] at hsec
  replace hr := hid hr
  replace hrg := hid hrg
  replace hrg2 := hid hrg2
  replace hib := hid hib
  replace r0 := hid r0
  replace hend := hid hend
  replace hbel := hid hbel
  replace hW := hid hW
  go_enter Try.func23, Try.ntmps23
  go_wp2_with (first
    | (with_reducible refine at_op (some 20) (.load 32 (.tmp 19)) ?_
       refine wpList_load_mid (op := ⟨some 20, _, _, _, _, _⟩) rfl 32 (.tmp 19) rfl L (at' * 128) rfl cs.toList _ hrg2.out Try.underlying32 rfl hib.out ?_
       simp only [Array.toArray_toList])
    | (go_at_call 22; rw [← hW.out]; refine hsec.out.mono ?_; rintro e w1 ⟨rfl, rfl⟩))
  exact bodyPost_ret (results_cell_row rfl _ _ w.heap.size 32 cs (0, 0) _ rfl hend.out Try.underlying32 rfl (by rw [info_block, hcs])) rfl ⟨rfl, hbel.out⟩
theorem lasts_any {F : Nat → Prop} {d : Nat} {S : DS} {w : World} (h : Dk w F d S) (a : Int) :
    Calls Try.prog 23 #[.pointer (some ⟨d, 0, none⟩), .int .i64 a] w fun e w' => e = .returned (.agg (blkA (S.last a))) ∧ Below w.heap.size w w' := by
  have hsec : ∀ o, Calls Try.prog 22 #[.pointer (some ⟨d, 0, none⟩)] (w.alloc o) fun e w' => e = .returned (.int .i64 (S.n : Nat)) ∧ w.alloc o = w' := fun o => sectors_any (h.alloc o)
  obtain ⟨L, M, v, hd, hF⟩ := h
  unfold DS.last
  by_cases ha : 0 ≤ a ∧ a < S.n
  · rw [if_pos ha]
    obtain ⟨k, rfl⟩ : ∃ k : Nat, a = (k : Int) := ⟨a.toNat, by omega⟩
    exact lasts_in d L S.n v M S.steps S.fuse S.down (blkA (secOf S.lasts k)) (blkA_size _) (blkA_one _) k hd.size.2 (by omega) w hd.row (lasts_range hd.lasts k (by omega)) hsec
  · rw [if_neg ha, ← zero_blkA]
    exact lasts_out _ S.n a (by omega) w hsec
theorem lasts_nil (a : Int) (w : World) : Calls Try.prog 23 #[.pointer none, .int .i64 a] w fun e w' => e = .returned (.agg (blkA fun _ => 0)) ∧ Below w.heap.size w w' := by
  rw [← zero_blkA]
  exact lasts_out none 0 a (by omega) w (fun o => sectors_nil _)
/-- A new disk. -/
def DS.new (n : Nat) : DS := ⟨n, fun _ => 0, [], 0, -1, false⟩
theorem new_dk (n : Nat) (h1 : 16 ≤ n) (h2 : n ≤ 4096) (w : World) : Calls Try.prog 8 #[.int .i64 (n : Nat)] w fun e w' =>
    ∃ d F, e = .returned (.tuple #[.pointer (some ⟨d, 0, none⟩), .int .i64 0]) ∧ Dk w' F d (DS.new n) ∧ Below w.heap.size w w' ∧ ∀ k, F k → w.heap.size ≤ k := by
  refine (new_any n h1 h2 w).mono ?_
  rintro e w' ⟨rfl, rfl⟩
  refine ⟨_, footD (w.heap.size + 2) w.heap.size (w.heap.size + 1) (.slice none 0 0), rfl, ⟨_, _, _, ⟨?_, ?_, ⟨.map [], ?_, agrees_nil⟩, World.ownsRow_nil _ _ _ _, ⟨by show 1 ≤ n; omega, h2⟩, fun p hp => (by cases hp), ⟨by omega, by omega, by omega, fun g hg => (by cases hg)⟩⟩, fun k => Iff.rfl⟩, below_al (below_al (below_al (Below.refl _ _) _) _) _, ?_⟩
  · have := RowAt.new ((w.alloc (.cells (zeroRows n) 32)).alloc (.map #[] 0)) (diskA w.heap.size n (.slice none 0 0) (w.heap.size + 1) 0 (-1) false) 57
    rw [show ((w.alloc (.cells (zeroRows n) 32)).alloc (.map #[] 0)).heap.size = w.heap.size + 2 by simp] at this
    exact this
  · exact (((RowAt.new w (zeroRows n) 32).alloc _).alloc _).eqA (zeroRows_eq n)
  · have := World.ownsMap_made (w.alloc (.cells (zeroRows n) 32)) Try.prog 3 rdr
    simp only [World.size_alloc] at this
    exact Shown.alloc this _
  · rintro k (rfl | rfl | rfl | hk)
    · omega
    · omega
    · omega
    · cases hk
theorem new_no (n : Int) (h : n < 16 ∨ 4096 < n) (w : World) : Calls Try.prog 8 #[.int .i64 n] w fun e w' => e = .returned (.tuple #[.pointer none, .int .i64 2]) ∧ w = w' := by
  by_cases h1 : n < 16
  · have g1 : decide (n < 16) = true := decide_eq_true h1
    go_enter Try.func8, Try.ntmps8
    go_wp2
    go_ret2
    exact ⟨rfl, rfl⟩
  · have g1 : decide (n < 16) = false := decide_eq_false h1
    have g2 : decide ((4096 : Int) < n) = true := decide_eq_true (by omega)
    go_enter Try.func8, Try.ntmps8
    go_wp2
    go_ret2
    exact ⟨rfl, rfl⟩
end Go.Proofs.Ytaofpeajfgcjcaa
