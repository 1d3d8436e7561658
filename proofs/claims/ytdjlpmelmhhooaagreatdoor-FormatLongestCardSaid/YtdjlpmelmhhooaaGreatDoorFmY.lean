/- Format: the walk of FormatLongest. Printed by mkFmY.py. -/
import Derived.Test.YtdjlpmelmhhooaaGreatDoorFmX
namespace Go.Proofs.YtdjlpmelmhhooaaGreatDoor
open Go Go.RowKit
set_option linter.unusedSimpArgs false
set_option linter.unusedVariables false

set_option maxRecDepth 100000 in
set_option maxHeartbeats 8000000 in
theorem fmLong_dim (k : Int) (mn mx : Int) (a : Option Addr) (n c : Nat) (ss : List ByteArray) (s : ByteArray) (w : World) (hS : IsStrs w a n ss) (hM : MaxVar w) (hl : lightB ss s = false) :
    Calls Tryz.prog 7 #[.agg (ruleA k mn mx (.slice a n c)), .string s] w fun e w' => e = .returned (.bool true) ∧ Below w.heap.size w w' := by
  have LA := hid (fun w h => fmAwake_any w h)
  have hlen := hS.len
  have LL : ∀ W, Below w.heap.size w W → Calls Tryz.prog 20 #[.agg (ruleA k mn mx (.slice a n c)), .string s] W fun e w' => e = .returned (.bool (lightB ss s)) ∧ Below W.heap.size W w' := fun W hW => light_any k mn mx a n c ss s W (hS.below hW)
  have LC := fun w => ruleCheck_any k mn mx a n c w
  have r := hid (RowAt.new w #[.int .i64 k, .int .i64 mn, .int .i64 mx, .slice a n c] 37)
  have b := hid (below_al (Below.refl w.heap.size w) (.cells #[.int .i64 k, .int .i64 mn, .int .i64 mx, .slice a n c] 37))
  have hM0 := hid (hM.alloc (.cells #[.int .i64 k, .int .i64 mn, .int .i64 mx, .slice a n c] 37))
  rw [hl] at LL
  unfold ruleA at LL LC ⊢
  replace LL := hid LL
  clear LC hl hS hM hlen
  go_enter Tryz.func7, Tryz.ntmps7
  go_wp2_with (first
    | (go_at_call 19; with_reducible refine (LA.out _ hM0.out).mono ?_; rintro e W ⟨rfl, hB⟩
       replace r := hid (r.out.below hB r.out.lt)
       replace b := hid (below_cat hB b.out)
       clear hB
       try clear k0 k1 k2 k3
       have k0 := r.out.cell (j := 0) rfl
       have k1 := r.out.cell (j := 1) rfl
       have k2 := r.out.cell (j := 2) rfl
       have k3 := r.out.cell (j := 3) rfl)
    | (with_reducible refine at_op (some 10) (.load 37 (.tmp 2)) ?_
       refine wpList_load_row (o := ⟨some 10, _, _, _, _, _⟩) rfl 37 (.tmp 2) rfl w.heap.size rfl 37 _ (0, 0) _ r.out Tryz.underlying37 rfl infoRule ?_)
    | (go_at_call 20; with_reducible refine (LL.out _ b.out).mono ?_; rintro e W ⟨rfl, hB⟩
       replace r := hid (r.out.below hB r.out.lt)
       replace b := hid (below_cat hB b.out)
       clear hB
       try clear k0 k1 k2 k3
       have k0 := r.out.cell (j := 0) rfl
       have k1 := r.out.cell (j := 1) rfl
       have k2 := r.out.cell (j := 2) rfl
       have k3 := r.out.cell (j := 3) rfl))
  go_ret
  exact ⟨rfl, b.out⟩

set_option maxRecDepth 100000 in
set_option maxHeartbeats 8000000 in
theorem fmLong_bad (k : Int) (mn mx : Int) (a : Option Addr) (n c : Nat) (ss : List ByteArray) (s : ByteArray) (w : World) (hS : IsStrs w a n ss) (hM : MaxVar w) (hl : lightB ss s = true) (er : Int) (hc : chkN k mn mx n = er) (he : er ≠ 0) :
    Calls Tryz.prog 7 #[.agg (ruleA k mn mx (.slice a n c)), .string s] w fun e w' => e = .returned (.bool true) ∧ Below w.heap.size w w' := by
  have LA := hid (fun w h => fmAwake_any w h)
  have hlen := hS.len
  have LL : ∀ W, Below w.heap.size w W → Calls Tryz.prog 20 #[.agg (ruleA k mn mx (.slice a n c)), .string s] W fun e w' => e = .returned (.bool (lightB ss s)) ∧ Below W.heap.size W w' := fun W hW => light_any k mn mx a n c ss s W (hS.below hW)
  have LC := fun w => ruleCheck_any k mn mx a n c w
  have r := hid (RowAt.new w #[.int .i64 k, .int .i64 mn, .int .i64 mx, .slice a n c] 37)
  have b := hid (below_al (Below.refl w.heap.size w) (.cells #[.int .i64 k, .int .i64 mn, .int .i64 mx, .slice a n c] 37))
  have hM0 := hid (hM.alloc (.cells #[.int .i64 k, .int .i64 mn, .int .i64 mx, .slice a n c] 37))
  rw [hl] at LL
  rw [hc] at LC
  have he1 : (er != 0) = true := by rw [bne_iff_ne]; exact he
  unfold ruleA at LL LC ⊢
  replace LL := hid LL
  replace LC := hid LC
  clear hl hS hM hlen hc he
  go_enter Tryz.func7, Tryz.ntmps7
  go_wp2_with (first
    | (go_at_call 19; with_reducible refine (LA.out _ hM0.out).mono ?_; rintro e W ⟨rfl, hB⟩
       replace r := hid (r.out.below hB r.out.lt)
       replace b := hid (below_cat hB b.out)
       clear hB
       try clear k0 k1 k2 k3
       have k0 := r.out.cell (j := 0) rfl
       have k1 := r.out.cell (j := 1) rfl
       have k2 := r.out.cell (j := 2) rfl
       have k3 := r.out.cell (j := 3) rfl)
    | (with_reducible refine at_op (some 10) (.load 37 (.tmp 2)) ?_
       refine wpList_load_row (o := ⟨some 10, _, _, _, _, _⟩) rfl 37 (.tmp 2) rfl w.heap.size rfl 37 _ (0, 0) _ r.out Tryz.underlying37 rfl infoRule ?_)
    | (with_reducible refine at_op (some 15) (.load 37 (.tmp 2)) ?_
       refine wpList_load_rowG rfl 37 (.tmp 2) rfl w.heap.size rfl 37 _ _ r.out Tryz.underlying37 rfl infoRule ?_)
    | (go_at_call 20; with_reducible refine (LL.out _ b.out).mono ?_; rintro e W ⟨rfl, hB⟩
       replace r := hid (r.out.below hB r.out.lt)
       replace b := hid (below_cat hB b.out)
       clear hB
       try clear k0 k1 k2 k3
       have k0 := r.out.cell (j := 0) rfl
       have k1 := r.out.cell (j := 1) rfl
       have k2 := r.out.cell (j := 2) rfl
       have k3 := r.out.cell (j := 3) rfl)
    | (go_at_call 24; with_reducible refine (LC.out _).mono ?_; rintro e W ⟨rfl, hB⟩
       replace r := hid (r.out.below hB r.out.lt)
       replace b := hid (below_cat hB b.out)
       clear hB
       try clear k0 k1 k2 k3
       have k0 := r.out.cell (j := 0) rfl
       have k1 := r.out.cell (j := 1) rfl
       have k2 := r.out.cell (j := 2) rfl
       have k3 := r.out.cell (j := 3) rfl))
  go_ret
  exact ⟨rfl, b.out⟩

set_option maxRecDepth 100000 in
set_option maxHeartbeats 8000000 in
theorem fmLong1 (mn mx : Int) (a : Option Addr) (n c : Nat) (ss : List ByteArray) (s : ByteArray) (w : World) (hS : IsStrs w a n ss) (hM : MaxVar w) (hl : lightB ss s = true) (hc : chkN 1 mn mx n = 0) :
    Calls Tryz.prog 7 #[.agg (ruleA 1 mn mx (.slice a n c)), .string s] w fun e w' => e = .returned (.bool true) ∧ Below w.heap.size w w' := by
  obtain ⟨h20, hs, h100⟩ := lightB_len hl
  obtain ⟨-, -, h3, h4, h5, h6, -⟩ := chkN_kind hc
  have LA := hid (fun w h => fmAwake_any w h)
  have hlen := hS.len
  have LL : ∀ W, Below w.heap.size w W → Calls Tryz.prog 20 #[.agg (ruleA 1 mn mx (.slice a n c)), .string s] W fun e w' => e = .returned (.bool (lightB ss s)) ∧ Below W.heap.size W w' := fun W hW => light_any 1 mn mx a n c ss s W (hS.below hW)
  have LC := fun w => ruleCheck_any 1 mn mx a n c w
  have r := hid (RowAt.new w #[.int .i64 1, .int .i64 mn, .int .i64 mx, .slice a n c] 37)
  have b := hid (below_al (Below.refl w.heap.size w) (.cells #[.int .i64 1, .int .i64 mn, .int .i64 mx, .slice a n c] 37))
  have hM0 := hid (hM.alloc (.cells #[.int .i64 1, .int .i64 mn, .int .i64 mx, .slice a n c] 37))
  have LF : ∀ W, Below w.heap.size w W → Calls Tryz.prog 22 #[.agg (ruleA 1 mn mx (.slice a n c)), .string s] W fun e w' => e = .returned (.bool (fitsN 1 mn mx ss s)) ∧ Below W.heap.size W w' := fun W hW => ruleFits_any 1 mn mx a n c ss (by omega) s hs W (hS.below hW) (hM.below hW)
  have LG : ∀ W, Below w.heap.size w W → Calls Tryz.prog 28 #[.agg (ruleA 1 mn mx (.slice a n c))] W fun e w' => e = .returned (.int .i64 (longN 1 mn mx ss)) ∧ Below W.heap.size W w' := fun W hW => longest_any 1 mn mx a n c ss hc (by omega) (fun t ht => Nat.le_trans (h100 t ht) (by omega)) W (hS.below hW)
  have hfl := fits_long 1 mn mx ss s
  have hw : longN 1 mn mx ss = mx := by simp [longN]
  rw [hw] at LG hfl
  rw [hl] at LL
  rw [hc] at LC
  unfold ruleA at LL LC LF LG ⊢
  obtain ⟨f, hf⟩ : ∃ f, fitsN 1 mn mx ss s = f := ⟨_, rfl⟩
  simp only [hf] at LF hfl
  replace LL := hid LL
  replace LC := hid LC
  replace LF := hid LF
  replace LG := hid LG
  clear hl hS hM hc hf hw h6 h20 h100
  cases f with

  | false =>
    clear hfl
    go_enter Tryz.func7, Tryz.ntmps7
    go_wp2_with (first
      | (go_at_call 19; with_reducible refine (LA.out _ hM0.out).mono ?_; rintro e W ⟨rfl, hB⟩
         replace r := hid (r.out.below hB r.out.lt)
         replace b := hid (below_cat hB b.out)
         clear hB
         try clear k0 k1 k2 k3
         have k0 := r.out.cell (j := 0) rfl
         have k1 := r.out.cell (j := 1) rfl
         have k2 := r.out.cell (j := 2) rfl
         have k3 := r.out.cell (j := 3) rfl)
      | (with_reducible refine at_op (some 10) (.load 37 (.tmp 2)) ?_
         refine wpList_load_row (o := ⟨some 10, _, _, _, _, _⟩) rfl 37 (.tmp 2) rfl w.heap.size rfl 37 _ (0, 0) _ r.out Tryz.underlying37 rfl infoRule ?_)
      | (with_reducible refine at_op (some 15) (.load 37 (.tmp 2)) ?_
         refine wpList_load_rowG rfl 37 (.tmp 2) rfl w.heap.size rfl 37 _ _ r.out Tryz.underlying37 rfl infoRule ?_)
      | (with_reducible refine at_op (some 55) (.load 37 (.tmp 2)) ?_
         refine wpList_load_row (o := ⟨some 55, _, _, _, _, _⟩) rfl 37 (.tmp 2) rfl w.heap.size rfl 37 _ (0, 0) _ r.out Tryz.underlying37 rfl infoRule ?_)
      | (with_reducible refine at_op (some 60) (.load 37 (.tmp 2)) ?_
         refine wpList_load_rowG rfl 37 (.tmp 2) rfl w.heap.size rfl 37 _ _ r.out Tryz.underlying37 rfl infoRule ?_)
      | (go_at_call 20; with_reducible refine (LL.out _ b.out).mono ?_; rintro e W ⟨rfl, hB⟩
         replace r := hid (r.out.below hB r.out.lt)
         replace b := hid (below_cat hB b.out)
         clear hB
         try clear k0 k1 k2 k3
         have k0 := r.out.cell (j := 0) rfl
         have k1 := r.out.cell (j := 1) rfl
         have k2 := r.out.cell (j := 2) rfl
         have k3 := r.out.cell (j := 3) rfl)
      | (go_at_call 24; with_reducible refine (LC.out _).mono ?_; rintro e W ⟨rfl, hB⟩
         replace r := hid (r.out.below hB r.out.lt)
         replace b := hid (below_cat hB b.out)
         clear hB
         try clear k0 k1 k2 k3
         have k0 := r.out.cell (j := 0) rfl
         have k1 := r.out.cell (j := 1) rfl
         have k2 := r.out.cell (j := 2) rfl
         have k3 := r.out.cell (j := 3) rfl)
      | (go_at_call 28; with_reducible refine (LG.out _ b.out).mono ?_; rintro e W ⟨rfl, hB⟩
         replace r := hid (r.out.below hB r.out.lt)
         replace b := hid (below_cat hB b.out)
         clear hB
         try clear k0 k1 k2 k3
         have k0 := r.out.cell (j := 0) rfl
         have k1 := r.out.cell (j := 1) rfl
         have k2 := r.out.cell (j := 2) rfl
         have k3 := r.out.cell (j := 3) rfl)
      | (go_at_call 22; with_reducible refine (LF.out _ b.out).mono ?_; rintro e W ⟨rfl, hB⟩
         replace r := hid (r.out.below hB r.out.lt)
         replace b := hid (below_cat hB b.out)
         clear hB
         try clear k0 k1 k2 k3
         have k0 := r.out.cell (j := 0) rfl
         have k1 := r.out.cell (j := 1) rfl
         have k2 := r.out.cell (j := 2) rfl
         have k3 := r.out.cell (j := 3) rfl))
    go_ret
    exact ⟨rfl, b.out⟩

  | true =>
    have hd := hfl rfl
    have hdb := decide_eq_true hd
    clear hfl
    go_enter Tryz.func7, Tryz.ntmps7
    go_wp2_with (first
      | (go_at_call 19; with_reducible refine (LA.out _ hM0.out).mono ?_; rintro e W ⟨rfl, hB⟩
         replace r := hid (r.out.below hB r.out.lt)
         replace b := hid (below_cat hB b.out)
         clear hB
         try clear k0 k1 k2 k3
         have k0 := r.out.cell (j := 0) rfl
         have k1 := r.out.cell (j := 1) rfl
         have k2 := r.out.cell (j := 2) rfl
         have k3 := r.out.cell (j := 3) rfl)
      | (with_reducible refine at_op (some 10) (.load 37 (.tmp 2)) ?_
         refine wpList_load_row (o := ⟨some 10, _, _, _, _, _⟩) rfl 37 (.tmp 2) rfl w.heap.size rfl 37 _ (0, 0) _ r.out Tryz.underlying37 rfl infoRule ?_)
      | (with_reducible refine at_op (some 15) (.load 37 (.tmp 2)) ?_
         refine wpList_load_rowG rfl 37 (.tmp 2) rfl w.heap.size rfl 37 _ _ r.out Tryz.underlying37 rfl infoRule ?_)
      | (with_reducible refine at_op (some 55) (.load 37 (.tmp 2)) ?_
         refine wpList_load_row (o := ⟨some 55, _, _, _, _, _⟩) rfl 37 (.tmp 2) rfl w.heap.size rfl 37 _ (0, 0) _ r.out Tryz.underlying37 rfl infoRule ?_)
      | (with_reducible refine at_op (some 60) (.load 37 (.tmp 2)) ?_
         refine wpList_load_rowG rfl 37 (.tmp 2) rfl w.heap.size rfl 37 _ _ r.out Tryz.underlying37 rfl infoRule ?_)
      | (go_at_call 20; with_reducible refine (LL.out _ b.out).mono ?_; rintro e W ⟨rfl, hB⟩
         replace r := hid (r.out.below hB r.out.lt)
         replace b := hid (below_cat hB b.out)
         clear hB
         try clear k0 k1 k2 k3
         have k0 := r.out.cell (j := 0) rfl
         have k1 := r.out.cell (j := 1) rfl
         have k2 := r.out.cell (j := 2) rfl
         have k3 := r.out.cell (j := 3) rfl)
      | (go_at_call 24; with_reducible refine (LC.out _).mono ?_; rintro e W ⟨rfl, hB⟩
         replace r := hid (r.out.below hB r.out.lt)
         replace b := hid (below_cat hB b.out)
         clear hB
         try clear k0 k1 k2 k3
         have k0 := r.out.cell (j := 0) rfl
         have k1 := r.out.cell (j := 1) rfl
         have k2 := r.out.cell (j := 2) rfl
         have k3 := r.out.cell (j := 3) rfl)
      | (go_at_call 28; with_reducible refine (LG.out _ b.out).mono ?_; rintro e W ⟨rfl, hB⟩
         replace r := hid (r.out.below hB r.out.lt)
         replace b := hid (below_cat hB b.out)
         clear hB
         try clear k0 k1 k2 k3
         have k0 := r.out.cell (j := 0) rfl
         have k1 := r.out.cell (j := 1) rfl
         have k2 := r.out.cell (j := 2) rfl
         have k3 := r.out.cell (j := 3) rfl)
      | (go_at_call 22; with_reducible refine (LF.out _ b.out).mono ?_; rintro e W ⟨rfl, hB⟩
         replace r := hid (r.out.below hB r.out.lt)
         replace b := hid (below_cat hB b.out)
         clear hB
         try clear k0 k1 k2 k3
         have k0 := r.out.cell (j := 0) rfl
         have k1 := r.out.cell (j := 1) rfl
         have k2 := r.out.cell (j := 2) rfl
         have k3 := r.out.cell (j := 3) rfl))
    go_ret
    exact ⟨rfl, b.out⟩

set_option maxRecDepth 100000 in
set_option maxHeartbeats 8000000 in
theorem fmLong2 (mn mx : Int) (a : Option Addr) (n c : Nat) (ss : List ByteArray) (s : ByteArray) (w : World) (hS : IsStrs w a n ss) (hM : MaxVar w) (hl : lightB ss s = true) (hc : chkN 2 mn mx n = 0) :
    Calls Tryz.prog 7 #[.agg (ruleA 2 mn mx (.slice a n c)), .string s] w fun e w' => e = .returned (.bool true) ∧ Below w.heap.size w w' := by
  obtain ⟨h20, hs, h100⟩ := lightB_len hl
  obtain ⟨-, -, h3, h4, h5, h6, -⟩ := chkN_kind hc
  have LA := hid (fun w h => fmAwake_any w h)
  have hlen := hS.len
  have LL : ∀ W, Below w.heap.size w W → Calls Tryz.prog 20 #[.agg (ruleA 2 mn mx (.slice a n c)), .string s] W fun e w' => e = .returned (.bool (lightB ss s)) ∧ Below W.heap.size W w' := fun W hW => light_any 2 mn mx a n c ss s W (hS.below hW)
  have LC := fun w => ruleCheck_any 2 mn mx a n c w
  have r := hid (RowAt.new w #[.int .i64 2, .int .i64 mn, .int .i64 mx, .slice a n c] 37)
  have b := hid (below_al (Below.refl w.heap.size w) (.cells #[.int .i64 2, .int .i64 mn, .int .i64 mx, .slice a n c] 37))
  have hM0 := hid (hM.alloc (.cells #[.int .i64 2, .int .i64 mn, .int .i64 mx, .slice a n c] 37))
  have LF : ∀ W, Below w.heap.size w W → Calls Tryz.prog 22 #[.agg (ruleA 2 mn mx (.slice a n c)), .string s] W fun e w' => e = .returned (.bool (fitsN 2 mn mx ss s)) ∧ Below W.heap.size W w' := fun W hW => ruleFits_any 2 mn mx a n c ss (by omega) s hs W (hS.below hW) (hM.below hW)
  have LG : ∀ W, Below w.heap.size w W → Calls Tryz.prog 28 #[.agg (ruleA 2 mn mx (.slice a n c))] W fun e w' => e = .returned (.int .i64 (longN 2 mn mx ss)) ∧ Below W.heap.size W w' := fun W hW => longest_any 2 mn mx a n c ss hc (by omega) (fun t ht => Nat.le_trans (h100 t ht) (by omega)) W (hS.below hW)
  have hfl := fits_long 2 mn mx ss s
  have hw : longN 2 mn mx ss = 4 * mx := by simp [longN]
  rw [hw] at LG hfl
  rw [hl] at LL
  rw [hc] at LC
  unfold ruleA at LL LC LF LG ⊢
  have h9 := h6 rfl
  have h10 : 0 ≤ mx := by omega
  obtain ⟨f, hf⟩ : ∃ f, fitsN 2 mn mx ss s = f := ⟨_, rfl⟩
  simp only [hf] at LF hfl
  replace LL := hid LL
  replace LC := hid LC
  replace LF := hid LF
  replace LG := hid LG
  clear hl hS hM hc hf hw h6 h20 h100
  cases f with

  | false =>
    clear hfl
    go_enter Tryz.func7, Tryz.ntmps7
    go_wp2_with (first
      | (go_at_call 19; with_reducible refine (LA.out _ hM0.out).mono ?_; rintro e W ⟨rfl, hB⟩
         replace r := hid (r.out.below hB r.out.lt)
         replace b := hid (below_cat hB b.out)
         clear hB
         try clear k0 k1 k2 k3
         have k0 := r.out.cell (j := 0) rfl
         have k1 := r.out.cell (j := 1) rfl
         have k2 := r.out.cell (j := 2) rfl
         have k3 := r.out.cell (j := 3) rfl)
      | (with_reducible refine at_op (some 10) (.load 37 (.tmp 2)) ?_
         refine wpList_load_row (o := ⟨some 10, _, _, _, _, _⟩) rfl 37 (.tmp 2) rfl w.heap.size rfl 37 _ (0, 0) _ r.out Tryz.underlying37 rfl infoRule ?_)
      | (with_reducible refine at_op (some 15) (.load 37 (.tmp 2)) ?_
         refine wpList_load_rowG rfl 37 (.tmp 2) rfl w.heap.size rfl 37 _ _ r.out Tryz.underlying37 rfl infoRule ?_)
      | (with_reducible refine at_op (some 55) (.load 37 (.tmp 2)) ?_
         refine wpList_load_row (o := ⟨some 55, _, _, _, _, _⟩) rfl 37 (.tmp 2) rfl w.heap.size rfl 37 _ (0, 0) _ r.out Tryz.underlying37 rfl infoRule ?_)
      | (with_reducible refine at_op (some 60) (.load 37 (.tmp 2)) ?_
         refine wpList_load_rowG rfl 37 (.tmp 2) rfl w.heap.size rfl 37 _ _ r.out Tryz.underlying37 rfl infoRule ?_)
      | (go_at_call 20; with_reducible refine (LL.out _ b.out).mono ?_; rintro e W ⟨rfl, hB⟩
         replace r := hid (r.out.below hB r.out.lt)
         replace b := hid (below_cat hB b.out)
         clear hB
         try clear k0 k1 k2 k3
         have k0 := r.out.cell (j := 0) rfl
         have k1 := r.out.cell (j := 1) rfl
         have k2 := r.out.cell (j := 2) rfl
         have k3 := r.out.cell (j := 3) rfl)
      | (go_at_call 24; with_reducible refine (LC.out _).mono ?_; rintro e W ⟨rfl, hB⟩
         replace r := hid (r.out.below hB r.out.lt)
         replace b := hid (below_cat hB b.out)
         clear hB
         try clear k0 k1 k2 k3
         have k0 := r.out.cell (j := 0) rfl
         have k1 := r.out.cell (j := 1) rfl
         have k2 := r.out.cell (j := 2) rfl
         have k3 := r.out.cell (j := 3) rfl)
      | (go_at_call 28; with_reducible refine (LG.out _ b.out).mono ?_; rintro e W ⟨rfl, hB⟩
         replace r := hid (r.out.below hB r.out.lt)
         replace b := hid (below_cat hB b.out)
         clear hB
         try clear k0 k1 k2 k3
         have k0 := r.out.cell (j := 0) rfl
         have k1 := r.out.cell (j := 1) rfl
         have k2 := r.out.cell (j := 2) rfl
         have k3 := r.out.cell (j := 3) rfl)
      | (go_at_call 22; with_reducible refine (LF.out _ b.out).mono ?_; rintro e W ⟨rfl, hB⟩
         replace r := hid (r.out.below hB r.out.lt)
         replace b := hid (below_cat hB b.out)
         clear hB
         try clear k0 k1 k2 k3
         have k0 := r.out.cell (j := 0) rfl
         have k1 := r.out.cell (j := 1) rfl
         have k2 := r.out.cell (j := 2) rfl
         have k3 := r.out.cell (j := 3) rfl))
    go_ret
    exact ⟨rfl, b.out⟩

  | true =>
    have hd := hfl rfl
    have hdb := decide_eq_true hd
    clear hfl
    go_enter Tryz.func7, Tryz.ntmps7
    go_wp2_with (first
      | (go_at_call 19; with_reducible refine (LA.out _ hM0.out).mono ?_; rintro e W ⟨rfl, hB⟩
         replace r := hid (r.out.below hB r.out.lt)
         replace b := hid (below_cat hB b.out)
         clear hB
         try clear k0 k1 k2 k3
         have k0 := r.out.cell (j := 0) rfl
         have k1 := r.out.cell (j := 1) rfl
         have k2 := r.out.cell (j := 2) rfl
         have k3 := r.out.cell (j := 3) rfl)
      | (with_reducible refine at_op (some 10) (.load 37 (.tmp 2)) ?_
         refine wpList_load_row (o := ⟨some 10, _, _, _, _, _⟩) rfl 37 (.tmp 2) rfl w.heap.size rfl 37 _ (0, 0) _ r.out Tryz.underlying37 rfl infoRule ?_)
      | (with_reducible refine at_op (some 15) (.load 37 (.tmp 2)) ?_
         refine wpList_load_rowG rfl 37 (.tmp 2) rfl w.heap.size rfl 37 _ _ r.out Tryz.underlying37 rfl infoRule ?_)
      | (with_reducible refine at_op (some 55) (.load 37 (.tmp 2)) ?_
         refine wpList_load_row (o := ⟨some 55, _, _, _, _, _⟩) rfl 37 (.tmp 2) rfl w.heap.size rfl 37 _ (0, 0) _ r.out Tryz.underlying37 rfl infoRule ?_)
      | (with_reducible refine at_op (some 60) (.load 37 (.tmp 2)) ?_
         refine wpList_load_rowG rfl 37 (.tmp 2) rfl w.heap.size rfl 37 _ _ r.out Tryz.underlying37 rfl infoRule ?_)
      | (go_at_call 20; with_reducible refine (LL.out _ b.out).mono ?_; rintro e W ⟨rfl, hB⟩
         replace r := hid (r.out.below hB r.out.lt)
         replace b := hid (below_cat hB b.out)
         clear hB
         try clear k0 k1 k2 k3
         have k0 := r.out.cell (j := 0) rfl
         have k1 := r.out.cell (j := 1) rfl
         have k2 := r.out.cell (j := 2) rfl
         have k3 := r.out.cell (j := 3) rfl)
      | (go_at_call 24; with_reducible refine (LC.out _).mono ?_; rintro e W ⟨rfl, hB⟩
         replace r := hid (r.out.below hB r.out.lt)
         replace b := hid (below_cat hB b.out)
         clear hB
         try clear k0 k1 k2 k3
         have k0 := r.out.cell (j := 0) rfl
         have k1 := r.out.cell (j := 1) rfl
         have k2 := r.out.cell (j := 2) rfl
         have k3 := r.out.cell (j := 3) rfl)
      | (go_at_call 28; with_reducible refine (LG.out _ b.out).mono ?_; rintro e W ⟨rfl, hB⟩
         replace r := hid (r.out.below hB r.out.lt)
         replace b := hid (below_cat hB b.out)
         clear hB
         try clear k0 k1 k2 k3
         have k0 := r.out.cell (j := 0) rfl
         have k1 := r.out.cell (j := 1) rfl
         have k2 := r.out.cell (j := 2) rfl
         have k3 := r.out.cell (j := 3) rfl)
      | (go_at_call 22; with_reducible refine (LF.out _ b.out).mono ?_; rintro e W ⟨rfl, hB⟩
         replace r := hid (r.out.below hB r.out.lt)
         replace b := hid (below_cat hB b.out)
         clear hB
         try clear k0 k1 k2 k3
         have k0 := r.out.cell (j := 0) rfl
         have k1 := r.out.cell (j := 1) rfl
         have k2 := r.out.cell (j := 2) rfl
         have k3 := r.out.cell (j := 3) rfl))
    go_ret
    exact ⟨rfl, b.out⟩

set_option maxRecDepth 100000 in
set_option maxHeartbeats 8000000 in
theorem fmLong3 (mn mx : Int) (a : Option Addr) (n c : Nat) (ss : List ByteArray) (s : ByteArray) (w : World) (hS : IsStrs w a n ss) (hM : MaxVar w) (hl : lightB ss s = true) (hc : chkN 3 mn mx n = 0) :
    Calls Tryz.prog 7 #[.agg (ruleA 3 mn mx (.slice a n c)), .string s] w fun e w' => e = .returned (.bool true) ∧ Below w.heap.size w w' := by
  obtain ⟨h20, hs, h100⟩ := lightB_len hl
  obtain ⟨-, -, h3, h4, h5, h6, -⟩ := chkN_kind hc
  have LA := hid (fun w h => fmAwake_any w h)
  have hlen := hS.len
  have LL : ∀ W, Below w.heap.size w W → Calls Tryz.prog 20 #[.agg (ruleA 3 mn mx (.slice a n c)), .string s] W fun e w' => e = .returned (.bool (lightB ss s)) ∧ Below W.heap.size W w' := fun W hW => light_any 3 mn mx a n c ss s W (hS.below hW)
  have LC := fun w => ruleCheck_any 3 mn mx a n c w
  have r := hid (RowAt.new w #[.int .i64 3, .int .i64 mn, .int .i64 mx, .slice a n c] 37)
  have b := hid (below_al (Below.refl w.heap.size w) (.cells #[.int .i64 3, .int .i64 mn, .int .i64 mx, .slice a n c] 37))
  have hM0 := hid (hM.alloc (.cells #[.int .i64 3, .int .i64 mn, .int .i64 mx, .slice a n c] 37))
  have LF : ∀ W, Below w.heap.size w W → Calls Tryz.prog 22 #[.agg (ruleA 3 mn mx (.slice a n c)), .string s] W fun e w' => e = .returned (.bool (fitsN 3 mn mx ss s)) ∧ Below W.heap.size W w' := fun W hW => ruleFits_any 3 mn mx a n c ss (by omega) s hs W (hS.below hW) (hM.below hW)
  have LG : ∀ W, Below w.heap.size w W → Calls Tryz.prog 28 #[.agg (ruleA 3 mn mx (.slice a n c))] W fun e w' => e = .returned (.int .i64 (longN 3 mn mx ss)) ∧ Below W.heap.size W w' := fun W hW => longest_any 3 mn mx a n c ss hc (by omega) (fun t ht => Nat.le_trans (h100 t ht) (by omega)) W (hS.below hW)
  have hfl := fits_long 3 mn mx ss s
  have hw : longN 3 mn mx ss = 36 := by simp [longN]
  rw [hw] at LG hfl
  rw [hl] at LL
  rw [hc] at LC
  unfold ruleA at LL LC LF LG ⊢
  obtain ⟨f, hf⟩ : ∃ f, fitsN 3 mn mx ss s = f := ⟨_, rfl⟩
  simp only [hf] at LF hfl
  replace LL := hid LL
  replace LC := hid LC
  replace LF := hid LF
  replace LG := hid LG
  clear hl hS hM hc hf hw h6 h20 h100
  cases f with

  | false =>
    clear hfl
    go_enter Tryz.func7, Tryz.ntmps7
    go_wp2_with (first
      | (go_at_call 19; with_reducible refine (LA.out _ hM0.out).mono ?_; rintro e W ⟨rfl, hB⟩
         replace r := hid (r.out.below hB r.out.lt)
         replace b := hid (below_cat hB b.out)
         clear hB
         try clear k0 k1 k2 k3
         have k0 := r.out.cell (j := 0) rfl
         have k1 := r.out.cell (j := 1) rfl
         have k2 := r.out.cell (j := 2) rfl
         have k3 := r.out.cell (j := 3) rfl)
      | (with_reducible refine at_op (some 10) (.load 37 (.tmp 2)) ?_
         refine wpList_load_row (o := ⟨some 10, _, _, _, _, _⟩) rfl 37 (.tmp 2) rfl w.heap.size rfl 37 _ (0, 0) _ r.out Tryz.underlying37 rfl infoRule ?_)
      | (with_reducible refine at_op (some 15) (.load 37 (.tmp 2)) ?_
         refine wpList_load_rowG rfl 37 (.tmp 2) rfl w.heap.size rfl 37 _ _ r.out Tryz.underlying37 rfl infoRule ?_)
      | (with_reducible refine at_op (some 55) (.load 37 (.tmp 2)) ?_
         refine wpList_load_row (o := ⟨some 55, _, _, _, _, _⟩) rfl 37 (.tmp 2) rfl w.heap.size rfl 37 _ (0, 0) _ r.out Tryz.underlying37 rfl infoRule ?_)
      | (with_reducible refine at_op (some 60) (.load 37 (.tmp 2)) ?_
         refine wpList_load_rowG rfl 37 (.tmp 2) rfl w.heap.size rfl 37 _ _ r.out Tryz.underlying37 rfl infoRule ?_)
      | (go_at_call 20; with_reducible refine (LL.out _ b.out).mono ?_; rintro e W ⟨rfl, hB⟩
         replace r := hid (r.out.below hB r.out.lt)
         replace b := hid (below_cat hB b.out)
         clear hB
         try clear k0 k1 k2 k3
         have k0 := r.out.cell (j := 0) rfl
         have k1 := r.out.cell (j := 1) rfl
         have k2 := r.out.cell (j := 2) rfl
         have k3 := r.out.cell (j := 3) rfl)
      | (go_at_call 24; with_reducible refine (LC.out _).mono ?_; rintro e W ⟨rfl, hB⟩
         replace r := hid (r.out.below hB r.out.lt)
         replace b := hid (below_cat hB b.out)
         clear hB
         try clear k0 k1 k2 k3
         have k0 := r.out.cell (j := 0) rfl
         have k1 := r.out.cell (j := 1) rfl
         have k2 := r.out.cell (j := 2) rfl
         have k3 := r.out.cell (j := 3) rfl)
      | (go_at_call 28; with_reducible refine (LG.out _ b.out).mono ?_; rintro e W ⟨rfl, hB⟩
         replace r := hid (r.out.below hB r.out.lt)
         replace b := hid (below_cat hB b.out)
         clear hB
         try clear k0 k1 k2 k3
         have k0 := r.out.cell (j := 0) rfl
         have k1 := r.out.cell (j := 1) rfl
         have k2 := r.out.cell (j := 2) rfl
         have k3 := r.out.cell (j := 3) rfl)
      | (go_at_call 22; with_reducible refine (LF.out _ b.out).mono ?_; rintro e W ⟨rfl, hB⟩
         replace r := hid (r.out.below hB r.out.lt)
         replace b := hid (below_cat hB b.out)
         clear hB
         try clear k0 k1 k2 k3
         have k0 := r.out.cell (j := 0) rfl
         have k1 := r.out.cell (j := 1) rfl
         have k2 := r.out.cell (j := 2) rfl
         have k3 := r.out.cell (j := 3) rfl))
    go_ret
    exact ⟨rfl, b.out⟩

  | true =>
    have hd := hfl rfl
    have hdb := decide_eq_true hd
    clear hfl
    go_enter Tryz.func7, Tryz.ntmps7
    go_wp2_with (first
      | (go_at_call 19; with_reducible refine (LA.out _ hM0.out).mono ?_; rintro e W ⟨rfl, hB⟩
         replace r := hid (r.out.below hB r.out.lt)
         replace b := hid (below_cat hB b.out)
         clear hB
         try clear k0 k1 k2 k3
         have k0 := r.out.cell (j := 0) rfl
         have k1 := r.out.cell (j := 1) rfl
         have k2 := r.out.cell (j := 2) rfl
         have k3 := r.out.cell (j := 3) rfl)
      | (with_reducible refine at_op (some 10) (.load 37 (.tmp 2)) ?_
         refine wpList_load_row (o := ⟨some 10, _, _, _, _, _⟩) rfl 37 (.tmp 2) rfl w.heap.size rfl 37 _ (0, 0) _ r.out Tryz.underlying37 rfl infoRule ?_)
      | (with_reducible refine at_op (some 15) (.load 37 (.tmp 2)) ?_
         refine wpList_load_rowG rfl 37 (.tmp 2) rfl w.heap.size rfl 37 _ _ r.out Tryz.underlying37 rfl infoRule ?_)
      | (with_reducible refine at_op (some 55) (.load 37 (.tmp 2)) ?_
         refine wpList_load_row (o := ⟨some 55, _, _, _, _, _⟩) rfl 37 (.tmp 2) rfl w.heap.size rfl 37 _ (0, 0) _ r.out Tryz.underlying37 rfl infoRule ?_)
      | (with_reducible refine at_op (some 60) (.load 37 (.tmp 2)) ?_
         refine wpList_load_rowG rfl 37 (.tmp 2) rfl w.heap.size rfl 37 _ _ r.out Tryz.underlying37 rfl infoRule ?_)
      | (go_at_call 20; with_reducible refine (LL.out _ b.out).mono ?_; rintro e W ⟨rfl, hB⟩
         replace r := hid (r.out.below hB r.out.lt)
         replace b := hid (below_cat hB b.out)
         clear hB
         try clear k0 k1 k2 k3
         have k0 := r.out.cell (j := 0) rfl
         have k1 := r.out.cell (j := 1) rfl
         have k2 := r.out.cell (j := 2) rfl
         have k3 := r.out.cell (j := 3) rfl)
      | (go_at_call 24; with_reducible refine (LC.out _).mono ?_; rintro e W ⟨rfl, hB⟩
         replace r := hid (r.out.below hB r.out.lt)
         replace b := hid (below_cat hB b.out)
         clear hB
         try clear k0 k1 k2 k3
         have k0 := r.out.cell (j := 0) rfl
         have k1 := r.out.cell (j := 1) rfl
         have k2 := r.out.cell (j := 2) rfl
         have k3 := r.out.cell (j := 3) rfl)
      | (go_at_call 28; with_reducible refine (LG.out _ b.out).mono ?_; rintro e W ⟨rfl, hB⟩
         replace r := hid (r.out.below hB r.out.lt)
         replace b := hid (below_cat hB b.out)
         clear hB
         try clear k0 k1 k2 k3
         have k0 := r.out.cell (j := 0) rfl
         have k1 := r.out.cell (j := 1) rfl
         have k2 := r.out.cell (j := 2) rfl
         have k3 := r.out.cell (j := 3) rfl)
      | (go_at_call 22; with_reducible refine (LF.out _ b.out).mono ?_; rintro e W ⟨rfl, hB⟩
         replace r := hid (r.out.below hB r.out.lt)
         replace b := hid (below_cat hB b.out)
         clear hB
         try clear k0 k1 k2 k3
         have k0 := r.out.cell (j := 0) rfl
         have k1 := r.out.cell (j := 1) rfl
         have k2 := r.out.cell (j := 2) rfl
         have k3 := r.out.cell (j := 3) rfl))
    go_ret
    exact ⟨rfl, b.out⟩

set_option maxRecDepth 100000 in
set_option maxHeartbeats 8000000 in
theorem fmLong4 (mn mx : Int) (a : Option Addr) (n c : Nat) (ss : List ByteArray) (s : ByteArray) (w : World) (hS : IsStrs w a n ss) (hM : MaxVar w) (hl : lightB ss s = true) (hc : chkN 4 mn mx n = 0) :
    Calls Tryz.prog 7 #[.agg (ruleA 4 mn mx (.slice a n c)), .string s] w fun e w' => e = .returned (.bool true) ∧ Below w.heap.size w w' := by
  obtain ⟨h20, hs, h100⟩ := lightB_len hl
  obtain ⟨-, -, h3, h4, h5, h6, -⟩ := chkN_kind hc
  have LA := hid (fun w h => fmAwake_any w h)
  have hlen := hS.len
  have LL : ∀ W, Below w.heap.size w W → Calls Tryz.prog 20 #[.agg (ruleA 4 mn mx (.slice a n c)), .string s] W fun e w' => e = .returned (.bool (lightB ss s)) ∧ Below W.heap.size W w' := fun W hW => light_any 4 mn mx a n c ss s W (hS.below hW)
  have LC := fun w => ruleCheck_any 4 mn mx a n c w
  have r := hid (RowAt.new w #[.int .i64 4, .int .i64 mn, .int .i64 mx, .slice a n c] 37)
  have b := hid (below_al (Below.refl w.heap.size w) (.cells #[.int .i64 4, .int .i64 mn, .int .i64 mx, .slice a n c] 37))
  have hM0 := hid (hM.alloc (.cells #[.int .i64 4, .int .i64 mn, .int .i64 mx, .slice a n c] 37))
  have LF : ∀ W, Below w.heap.size w W → Calls Tryz.prog 22 #[.agg (ruleA 4 mn mx (.slice a n c)), .string s] W fun e w' => e = .returned (.bool (fitsN 4 mn mx ss s)) ∧ Below W.heap.size W w' := fun W hW => ruleFits_any 4 mn mx a n c ss (by omega) s hs W (hS.below hW) (hM.below hW)
  have LG : ∀ W, Below w.heap.size w W → Calls Tryz.prog 28 #[.agg (ruleA 4 mn mx (.slice a n c))] W fun e w' => e = .returned (.int .i64 (longN 4 mn mx ss)) ∧ Below W.heap.size W w' := fun W hW => longest_any 4 mn mx a n c ss hc (by omega) (fun t ht => Nat.le_trans (h100 t ht) (by omega)) W (hS.below hW)
  have hfl := fits_long 4 mn mx ss s
  have hw : longN 4 mn mx ss = (mostS ss : Nat) := by simp [longN]
  rw [hw] at LG hfl
  rw [hl] at LL
  rw [hc] at LC
  unfold ruleA at LL LC LF LG ⊢
  have hmx := fun (x y : Nat) ts t w => run_mx2 (P := Tryz.prog) ts t .i64 (x : Int) (y : Int) w
  replace hmx := hid hmx
  have hS' := hid (fun W hW => IsStrs.below (w' := W) hS hW)
  have hn20 : n ≤ 20 := by omega
  have hmost : mostS ss ≤ 100 := mostS_le h100
  obtain ⟨mo, hmo⟩ : ∃ mo, mostS ss = mo := ⟨_, rfl⟩
  rw [hmo] at LG hfl hmost
  replace hmo := hid hmo
  obtain ⟨f, hf⟩ : ∃ f, fitsN 4 mn mx ss s = f := ⟨_, rfl⟩
  simp only [hf] at LF hfl
  replace LL := hid LL
  replace LC := hid LC
  replace LF := hid LF
  replace LG := hid LG
  clear hl hS hM hc hf hw h6 h20 h100
  cases f with

  | false =>
    clear hfl
    go_enter Tryz.func7, Tryz.ntmps7
    go_wp2_with (first
      | (go_at_call 19; with_reducible refine (LA.out _ hM0.out).mono ?_; rintro e W ⟨rfl, hB⟩
         replace r := hid (r.out.below hB r.out.lt)
         replace b := hid (below_cat hB b.out)
         clear hB
         try clear k0 k1 k2 k3
         have k0 := r.out.cell (j := 0) rfl
         have k1 := r.out.cell (j := 1) rfl
         have k2 := r.out.cell (j := 2) rfl
         have k3 := r.out.cell (j := 3) rfl)
      | (with_reducible refine at_op (some 10) (.load 37 (.tmp 2)) ?_
         refine wpList_load_row (o := ⟨some 10, _, _, _, _, _⟩) rfl 37 (.tmp 2) rfl w.heap.size rfl 37 _ (0, 0) _ r.out Tryz.underlying37 rfl infoRule ?_)
      | (with_reducible refine at_op (some 15) (.load 37 (.tmp 2)) ?_
         refine wpList_load_rowG rfl 37 (.tmp 2) rfl w.heap.size rfl 37 _ _ r.out Tryz.underlying37 rfl infoRule ?_)
      | (with_reducible refine at_op (some 55) (.load 37 (.tmp 2)) ?_
         refine wpList_load_row (o := ⟨some 55, _, _, _, _, _⟩) rfl 37 (.tmp 2) rfl w.heap.size rfl 37 _ (0, 0) _ r.out Tryz.underlying37 rfl infoRule ?_)
      | (with_reducible refine at_op (some 60) (.load 37 (.tmp 2)) ?_
         refine wpList_load_rowG rfl 37 (.tmp 2) rfl w.heap.size rfl 37 _ _ r.out Tryz.underlying37 rfl infoRule ?_)
      | (go_at_call 20; with_reducible refine (LL.out _ b.out).mono ?_; rintro e W ⟨rfl, hB⟩
         replace r := hid (r.out.below hB r.out.lt)
         replace b := hid (below_cat hB b.out)
         clear hB
         try clear k0 k1 k2 k3
         have k0 := r.out.cell (j := 0) rfl
         have k1 := r.out.cell (j := 1) rfl
         have k2 := r.out.cell (j := 2) rfl
         have k3 := r.out.cell (j := 3) rfl)
      | (go_at_call 24; with_reducible refine (LC.out _).mono ?_; rintro e W ⟨rfl, hB⟩
         replace r := hid (r.out.below hB r.out.lt)
         replace b := hid (below_cat hB b.out)
         clear hB
         try clear k0 k1 k2 k3
         have k0 := r.out.cell (j := 0) rfl
         have k1 := r.out.cell (j := 1) rfl
         have k2 := r.out.cell (j := 2) rfl
         have k3 := r.out.cell (j := 3) rfl)
      | (go_at_call 28; with_reducible refine (LG.out _ b.out).mono ?_; rintro e W ⟨rfl, hB⟩
         replace r := hid (r.out.below hB r.out.lt)
         replace b := hid (below_cat hB b.out)
         clear hB
         try clear k0 k1 k2 k3
         have k0 := r.out.cell (j := 0) rfl
         have k1 := r.out.cell (j := 1) rfl
         have k2 := r.out.cell (j := 2) rfl
         have k3 := r.out.cell (j := 3) rfl)
      | (go_at_call 22; with_reducible refine (LF.out _ b.out).mono ?_; rintro e W ⟨rfl, hB⟩
         replace r := hid (r.out.below hB r.out.lt)
         replace b := hid (below_cat hB b.out)
         clear hB
         try clear k0 k1 k2 k3
         have k0 := r.out.cell (j := 0) rfl
         have k1 := r.out.cell (j := 1) rfl
         have k2 := r.out.cell (j := 2) rfl
         have k3 := r.out.cell (j := 3) rfl))
    have hSW := hid (hS'.out W b.out)
    go_loop [5, 35] (fun m v => ∃ i : Nat, i ≤ n ∧ v = .int .i64 i ∧ m = .int .i64 (mostS (ss.take i) : Nat)) (fun _ v => n - (intOf v).toNat)
    case atStart => exact ⟨0, Nat.zero_le _, rfl, rfl⟩
    case round =>
      obtain ⟨i, hi, rfl, rfl⟩ := hrel
      by_cases hlt : i < n
      · obtain ⟨t, ht⟩ : ∃ s, ss[i]? = some s := ⟨_, List.getElem?_eq_getElem (by omega)⟩
        obtain ⟨x, rfl, hx⟩ := hSW.out.at ht
        have hdd : decide ((i : Int) < (n : Int)) = true := by rw [decide_eq_true_iff]; omega
        have hnx : mostS (ss.take (i + 1)) = max (mostS (ss.take i)) t.size := by
          rw [List.take_succ_eq_append_getElem (by omega), mostS_snoc]
          have : ss[i] = t := by rw [List.getElem?_eq_getElem (by omega)] at ht; exact Option.some.inj ht
          rw [this]
        obtain ⟨m, hm⟩ : ∃ m, m = mostS (ss.take i) := ⟨_, rfl⟩
        rw [← hm] at hnx ⊢
        have hmm := hmx.out m t.size
        have hmm2 : (max (m : Int) (t.size : Int)) = ((max m t.size : Nat) : Int) := by omega
        rw [hmm2] at hmm
        replace hnx := hid hnx
        clear ht hm hmm2
        go_wp2
        go_round
        case rel => exact ⟨i + 1, by omega, by go_num, by rw [hnx.out]⟩
        case measure => simp [intOf]; omega
      · obtain rfl : i = n := by omega
        have hdd : decide ((i : Int) < (i : Int)) = false := by rw [decide_eq_false_iff_not]; omega
        have htk : ss.take i = ss := List.take_of_length_le (by omega)
        rw [htk, hmo.out]
        clear htk
        go_wp2_with (first
          | (with_reducible refine at_op (some 55) (.load 37 (.tmp 2)) ?_
             refine wpList_load_row (o := ⟨some 55, _, _, _, _, _⟩) rfl 37 (.tmp 2) rfl w.heap.size rfl 37 _ (0, 0) _ r.out Tryz.underlying37 rfl infoRule ?_)
          | (with_reducible refine at_op (some 60) (.load 37 (.tmp 2)) ?_
             refine wpList_load_rowG rfl 37 (.tmp 2) rfl w.heap.size rfl 37 _ _ r.out Tryz.underlying37 rfl infoRule ?_)
          | (go_at_call 28; with_reducible refine (LG.out _ b.out).mono ?_; rintro e W ⟨rfl, hB⟩
             replace r := hid (r.out.below hB r.out.lt)
             replace b := hid (below_cat hB b.out)
             clear hB
             try clear k0 k1 k2 k3
             have k0 := r.out.cell (j := 0) rfl
             have k1 := r.out.cell (j := 1) rfl
             have k2 := r.out.cell (j := 2) rfl
             have k3 := r.out.cell (j := 3) rfl)
          | (go_at_call 22; with_reducible refine (LF.out _ b.out).mono ?_; rintro e W ⟨rfl, hB⟩
             replace r := hid (r.out.below hB r.out.lt)
             replace b := hid (below_cat hB b.out)
             clear hB
             try clear k0 k1 k2 k3
             have k0 := r.out.cell (j := 0) rfl
             have k1 := r.out.cell (j := 1) rfl
             have k2 := r.out.cell (j := 2) rfl
             have k3 := r.out.cell (j := 3) rfl))
        go_ret
        exact ⟨rfl, b.out⟩

  | true =>
    have hd := hfl rfl
    have hdb := decide_eq_true hd
    clear hfl
    go_enter Tryz.func7, Tryz.ntmps7
    go_wp2_with (first
      | (go_at_call 19; with_reducible refine (LA.out _ hM0.out).mono ?_; rintro e W ⟨rfl, hB⟩
         replace r := hid (r.out.below hB r.out.lt)
         replace b := hid (below_cat hB b.out)
         clear hB
         try clear k0 k1 k2 k3
         have k0 := r.out.cell (j := 0) rfl
         have k1 := r.out.cell (j := 1) rfl
         have k2 := r.out.cell (j := 2) rfl
         have k3 := r.out.cell (j := 3) rfl)
      | (with_reducible refine at_op (some 10) (.load 37 (.tmp 2)) ?_
         refine wpList_load_row (o := ⟨some 10, _, _, _, _, _⟩) rfl 37 (.tmp 2) rfl w.heap.size rfl 37 _ (0, 0) _ r.out Tryz.underlying37 rfl infoRule ?_)
      | (with_reducible refine at_op (some 15) (.load 37 (.tmp 2)) ?_
         refine wpList_load_rowG rfl 37 (.tmp 2) rfl w.heap.size rfl 37 _ _ r.out Tryz.underlying37 rfl infoRule ?_)
      | (with_reducible refine at_op (some 55) (.load 37 (.tmp 2)) ?_
         refine wpList_load_row (o := ⟨some 55, _, _, _, _, _⟩) rfl 37 (.tmp 2) rfl w.heap.size rfl 37 _ (0, 0) _ r.out Tryz.underlying37 rfl infoRule ?_)
      | (with_reducible refine at_op (some 60) (.load 37 (.tmp 2)) ?_
         refine wpList_load_rowG rfl 37 (.tmp 2) rfl w.heap.size rfl 37 _ _ r.out Tryz.underlying37 rfl infoRule ?_)
      | (go_at_call 20; with_reducible refine (LL.out _ b.out).mono ?_; rintro e W ⟨rfl, hB⟩
         replace r := hid (r.out.below hB r.out.lt)
         replace b := hid (below_cat hB b.out)
         clear hB
         try clear k0 k1 k2 k3
         have k0 := r.out.cell (j := 0) rfl
         have k1 := r.out.cell (j := 1) rfl
         have k2 := r.out.cell (j := 2) rfl
         have k3 := r.out.cell (j := 3) rfl)
      | (go_at_call 24; with_reducible refine (LC.out _).mono ?_; rintro e W ⟨rfl, hB⟩
         replace r := hid (r.out.below hB r.out.lt)
         replace b := hid (below_cat hB b.out)
         clear hB
         try clear k0 k1 k2 k3
         have k0 := r.out.cell (j := 0) rfl
         have k1 := r.out.cell (j := 1) rfl
         have k2 := r.out.cell (j := 2) rfl
         have k3 := r.out.cell (j := 3) rfl)
      | (go_at_call 28; with_reducible refine (LG.out _ b.out).mono ?_; rintro e W ⟨rfl, hB⟩
         replace r := hid (r.out.below hB r.out.lt)
         replace b := hid (below_cat hB b.out)
         clear hB
         try clear k0 k1 k2 k3
         have k0 := r.out.cell (j := 0) rfl
         have k1 := r.out.cell (j := 1) rfl
         have k2 := r.out.cell (j := 2) rfl
         have k3 := r.out.cell (j := 3) rfl)
      | (go_at_call 22; with_reducible refine (LF.out _ b.out).mono ?_; rintro e W ⟨rfl, hB⟩
         replace r := hid (r.out.below hB r.out.lt)
         replace b := hid (below_cat hB b.out)
         clear hB
         try clear k0 k1 k2 k3
         have k0 := r.out.cell (j := 0) rfl
         have k1 := r.out.cell (j := 1) rfl
         have k2 := r.out.cell (j := 2) rfl
         have k3 := r.out.cell (j := 3) rfl))
    have hSW := hid (hS'.out W b.out)
    go_loop [5, 35] (fun m v => ∃ i : Nat, i ≤ n ∧ v = .int .i64 i ∧ m = .int .i64 (mostS (ss.take i) : Nat)) (fun _ v => n - (intOf v).toNat)
    case atStart => exact ⟨0, Nat.zero_le _, rfl, rfl⟩
    case round =>
      obtain ⟨i, hi, rfl, rfl⟩ := hrel
      by_cases hlt : i < n
      · obtain ⟨t, ht⟩ : ∃ s, ss[i]? = some s := ⟨_, List.getElem?_eq_getElem (by omega)⟩
        obtain ⟨x, rfl, hx⟩ := hSW.out.at ht
        have hdd : decide ((i : Int) < (n : Int)) = true := by rw [decide_eq_true_iff]; omega
        have hnx : mostS (ss.take (i + 1)) = max (mostS (ss.take i)) t.size := by
          rw [List.take_succ_eq_append_getElem (by omega), mostS_snoc]
          have : ss[i] = t := by rw [List.getElem?_eq_getElem (by omega)] at ht; exact Option.some.inj ht
          rw [this]
        obtain ⟨m, hm⟩ : ∃ m, m = mostS (ss.take i) := ⟨_, rfl⟩
        rw [← hm] at hnx ⊢
        have hmm := hmx.out m t.size
        have hmm2 : (max (m : Int) (t.size : Int)) = ((max m t.size : Nat) : Int) := by omega
        rw [hmm2] at hmm
        replace hnx := hid hnx
        clear ht hm hmm2
        go_wp2
        go_round
        case rel => exact ⟨i + 1, by omega, by go_num, by rw [hnx.out]⟩
        case measure => simp [intOf]; omega
      · obtain rfl : i = n := by omega
        have hdd : decide ((i : Int) < (i : Int)) = false := by rw [decide_eq_false_iff_not]; omega
        have htk : ss.take i = ss := List.take_of_length_le (by omega)
        rw [htk, hmo.out]
        clear htk
        go_wp2_with (first
          | (with_reducible refine at_op (some 55) (.load 37 (.tmp 2)) ?_
             refine wpList_load_row (o := ⟨some 55, _, _, _, _, _⟩) rfl 37 (.tmp 2) rfl w.heap.size rfl 37 _ (0, 0) _ r.out Tryz.underlying37 rfl infoRule ?_)
          | (with_reducible refine at_op (some 60) (.load 37 (.tmp 2)) ?_
             refine wpList_load_rowG rfl 37 (.tmp 2) rfl w.heap.size rfl 37 _ _ r.out Tryz.underlying37 rfl infoRule ?_)
          | (go_at_call 28; with_reducible refine (LG.out _ b.out).mono ?_; rintro e W ⟨rfl, hB⟩
             replace r := hid (r.out.below hB r.out.lt)
             replace b := hid (below_cat hB b.out)
             clear hB
             try clear k0 k1 k2 k3
             have k0 := r.out.cell (j := 0) rfl
             have k1 := r.out.cell (j := 1) rfl
             have k2 := r.out.cell (j := 2) rfl
             have k3 := r.out.cell (j := 3) rfl)
          | (go_at_call 22; with_reducible refine (LF.out _ b.out).mono ?_; rintro e W ⟨rfl, hB⟩
             replace r := hid (r.out.below hB r.out.lt)
             replace b := hid (below_cat hB b.out)
             clear hB
             try clear k0 k1 k2 k3
             have k0 := r.out.cell (j := 0) rfl
             have k1 := r.out.cell (j := 1) rfl
             have k2 := r.out.cell (j := 2) rfl
             have k3 := r.out.cell (j := 3) rfl))
        go_ret
        exact ⟨rfl, b.out⟩

set_option maxRecDepth 100000 in
set_option maxHeartbeats 8000000 in
theorem fmLong5 (mn mx : Int) (a : Option Addr) (n c : Nat) (ss : List ByteArray) (s : ByteArray) (w : World) (hS : IsStrs w a n ss) (hM : MaxVar w) (hl : lightB ss s = true) (hc : chkN 5 mn mx n = 0) :
    Calls Tryz.prog 7 #[.agg (ruleA 5 mn mx (.slice a n c)), .string s] w fun e w' => e = .returned (.bool true) ∧ Below w.heap.size w w' := by
  obtain ⟨h20, hs, h100⟩ := lightB_len hl
  obtain ⟨-, -, h3, h4, h5, h6, -⟩ := chkN_kind hc
  have LA := hid (fun w h => fmAwake_any w h)
  have hlen := hS.len
  have LL : ∀ W, Below w.heap.size w W → Calls Tryz.prog 20 #[.agg (ruleA 5 mn mx (.slice a n c)), .string s] W fun e w' => e = .returned (.bool (lightB ss s)) ∧ Below W.heap.size W w' := fun W hW => light_any 5 mn mx a n c ss s W (hS.below hW)
  have LC := fun w => ruleCheck_any 5 mn mx a n c w
  have r := hid (RowAt.new w #[.int .i64 5, .int .i64 mn, .int .i64 mx, .slice a n c] 37)
  have b := hid (below_al (Below.refl w.heap.size w) (.cells #[.int .i64 5, .int .i64 mn, .int .i64 mx, .slice a n c] 37))
  have hM0 := hid (hM.alloc (.cells #[.int .i64 5, .int .i64 mn, .int .i64 mx, .slice a n c] 37))
  have LF : ∀ W, Below w.heap.size w W → Calls Tryz.prog 22 #[.agg (ruleA 5 mn mx (.slice a n c)), .string s] W fun e w' => e = .returned (.bool (fitsN 5 mn mx ss s)) ∧ Below W.heap.size W w' := fun W hW => ruleFits_any 5 mn mx a n c ss (by omega) s hs W (hS.below hW) (hM.below hW)
  have LG : ∀ W, Below w.heap.size w W → Calls Tryz.prog 28 #[.agg (ruleA 5 mn mx (.slice a n c))] W fun e w' => e = .returned (.int .i64 (longN 5 mn mx ss)) ∧ Below W.heap.size W w' := fun W hW => longest_any 5 mn mx a n c ss hc (by omega) (fun t ht => Nat.le_trans (h100 t ht) (by omega)) W (hS.below hW)
  have hfl := fits_long 5 mn mx ss s
  have hw : longN 5 mn mx ss = 19 := by simp [longN]
  rw [hw] at LG hfl
  rw [hl] at LL
  rw [hc] at LC
  unfold ruleA at LL LC LF LG ⊢
  obtain ⟨f, hf⟩ : ∃ f, fitsN 5 mn mx ss s = f := ⟨_, rfl⟩
  simp only [hf] at LF hfl
  replace LL := hid LL
  replace LC := hid LC
  replace LF := hid LF
  replace LG := hid LG
  clear hl hS hM hc hf hw h6 h20 h100
  cases f with

  | false =>
    clear hfl
    go_enter Tryz.func7, Tryz.ntmps7
    go_wp2_with (first
      | (go_at_call 19; with_reducible refine (LA.out _ hM0.out).mono ?_; rintro e W ⟨rfl, hB⟩
         replace r := hid (r.out.below hB r.out.lt)
         replace b := hid (below_cat hB b.out)
         clear hB
         try clear k0 k1 k2 k3
         have k0 := r.out.cell (j := 0) rfl
         have k1 := r.out.cell (j := 1) rfl
         have k2 := r.out.cell (j := 2) rfl
         have k3 := r.out.cell (j := 3) rfl)
      | (with_reducible refine at_op (some 10) (.load 37 (.tmp 2)) ?_
         refine wpList_load_row (o := ⟨some 10, _, _, _, _, _⟩) rfl 37 (.tmp 2) rfl w.heap.size rfl 37 _ (0, 0) _ r.out Tryz.underlying37 rfl infoRule ?_)
      | (with_reducible refine at_op (some 15) (.load 37 (.tmp 2)) ?_
         refine wpList_load_rowG rfl 37 (.tmp 2) rfl w.heap.size rfl 37 _ _ r.out Tryz.underlying37 rfl infoRule ?_)
      | (with_reducible refine at_op (some 55) (.load 37 (.tmp 2)) ?_
         refine wpList_load_row (o := ⟨some 55, _, _, _, _, _⟩) rfl 37 (.tmp 2) rfl w.heap.size rfl 37 _ (0, 0) _ r.out Tryz.underlying37 rfl infoRule ?_)
      | (with_reducible refine at_op (some 60) (.load 37 (.tmp 2)) ?_
         refine wpList_load_rowG rfl 37 (.tmp 2) rfl w.heap.size rfl 37 _ _ r.out Tryz.underlying37 rfl infoRule ?_)
      | (go_at_call 20; with_reducible refine (LL.out _ b.out).mono ?_; rintro e W ⟨rfl, hB⟩
         replace r := hid (r.out.below hB r.out.lt)
         replace b := hid (below_cat hB b.out)
         clear hB
         try clear k0 k1 k2 k3
         have k0 := r.out.cell (j := 0) rfl
         have k1 := r.out.cell (j := 1) rfl
         have k2 := r.out.cell (j := 2) rfl
         have k3 := r.out.cell (j := 3) rfl)
      | (go_at_call 24; with_reducible refine (LC.out _).mono ?_; rintro e W ⟨rfl, hB⟩
         replace r := hid (r.out.below hB r.out.lt)
         replace b := hid (below_cat hB b.out)
         clear hB
         try clear k0 k1 k2 k3
         have k0 := r.out.cell (j := 0) rfl
         have k1 := r.out.cell (j := 1) rfl
         have k2 := r.out.cell (j := 2) rfl
         have k3 := r.out.cell (j := 3) rfl)
      | (go_at_call 28; with_reducible refine (LG.out _ b.out).mono ?_; rintro e W ⟨rfl, hB⟩
         replace r := hid (r.out.below hB r.out.lt)
         replace b := hid (below_cat hB b.out)
         clear hB
         try clear k0 k1 k2 k3
         have k0 := r.out.cell (j := 0) rfl
         have k1 := r.out.cell (j := 1) rfl
         have k2 := r.out.cell (j := 2) rfl
         have k3 := r.out.cell (j := 3) rfl)
      | (go_at_call 22; with_reducible refine (LF.out _ b.out).mono ?_; rintro e W ⟨rfl, hB⟩
         replace r := hid (r.out.below hB r.out.lt)
         replace b := hid (below_cat hB b.out)
         clear hB
         try clear k0 k1 k2 k3
         have k0 := r.out.cell (j := 0) rfl
         have k1 := r.out.cell (j := 1) rfl
         have k2 := r.out.cell (j := 2) rfl
         have k3 := r.out.cell (j := 3) rfl))
    go_ret
    exact ⟨rfl, b.out⟩

  | true =>
    have hd := hfl rfl
    have hdb := decide_eq_true hd
    clear hfl
    go_enter Tryz.func7, Tryz.ntmps7
    go_wp2_with (first
      | (go_at_call 19; with_reducible refine (LA.out _ hM0.out).mono ?_; rintro e W ⟨rfl, hB⟩
         replace r := hid (r.out.below hB r.out.lt)
         replace b := hid (below_cat hB b.out)
         clear hB
         try clear k0 k1 k2 k3
         have k0 := r.out.cell (j := 0) rfl
         have k1 := r.out.cell (j := 1) rfl
         have k2 := r.out.cell (j := 2) rfl
         have k3 := r.out.cell (j := 3) rfl)
      | (with_reducible refine at_op (some 10) (.load 37 (.tmp 2)) ?_
         refine wpList_load_row (o := ⟨some 10, _, _, _, _, _⟩) rfl 37 (.tmp 2) rfl w.heap.size rfl 37 _ (0, 0) _ r.out Tryz.underlying37 rfl infoRule ?_)
      | (with_reducible refine at_op (some 15) (.load 37 (.tmp 2)) ?_
         refine wpList_load_rowG rfl 37 (.tmp 2) rfl w.heap.size rfl 37 _ _ r.out Tryz.underlying37 rfl infoRule ?_)
      | (with_reducible refine at_op (some 55) (.load 37 (.tmp 2)) ?_
         refine wpList_load_row (o := ⟨some 55, _, _, _, _, _⟩) rfl 37 (.tmp 2) rfl w.heap.size rfl 37 _ (0, 0) _ r.out Tryz.underlying37 rfl infoRule ?_)
      | (with_reducible refine at_op (some 60) (.load 37 (.tmp 2)) ?_
         refine wpList_load_rowG rfl 37 (.tmp 2) rfl w.heap.size rfl 37 _ _ r.out Tryz.underlying37 rfl infoRule ?_)
      | (go_at_call 20; with_reducible refine (LL.out _ b.out).mono ?_; rintro e W ⟨rfl, hB⟩
         replace r := hid (r.out.below hB r.out.lt)
         replace b := hid (below_cat hB b.out)
         clear hB
         try clear k0 k1 k2 k3
         have k0 := r.out.cell (j := 0) rfl
         have k1 := r.out.cell (j := 1) rfl
         have k2 := r.out.cell (j := 2) rfl
         have k3 := r.out.cell (j := 3) rfl)
      | (go_at_call 24; with_reducible refine (LC.out _).mono ?_; rintro e W ⟨rfl, hB⟩
         replace r := hid (r.out.below hB r.out.lt)
         replace b := hid (below_cat hB b.out)
         clear hB
         try clear k0 k1 k2 k3
         have k0 := r.out.cell (j := 0) rfl
         have k1 := r.out.cell (j := 1) rfl
         have k2 := r.out.cell (j := 2) rfl
         have k3 := r.out.cell (j := 3) rfl)
      | (go_at_call 28; with_reducible refine (LG.out _ b.out).mono ?_; rintro e W ⟨rfl, hB⟩
         replace r := hid (r.out.below hB r.out.lt)
         replace b := hid (below_cat hB b.out)
         clear hB
         try clear k0 k1 k2 k3
         have k0 := r.out.cell (j := 0) rfl
         have k1 := r.out.cell (j := 1) rfl
         have k2 := r.out.cell (j := 2) rfl
         have k3 := r.out.cell (j := 3) rfl)
      | (go_at_call 22; with_reducible refine (LF.out _ b.out).mono ?_; rintro e W ⟨rfl, hB⟩
         replace r := hid (r.out.below hB r.out.lt)
         replace b := hid (below_cat hB b.out)
         clear hB
         try clear k0 k1 k2 k3
         have k0 := r.out.cell (j := 0) rfl
         have k1 := r.out.cell (j := 1) rfl
         have k2 := r.out.cell (j := 2) rfl
         have k3 := r.out.cell (j := 3) rfl))
    go_ret
    exact ⟨rfl, b.out⟩

set_option maxRecDepth 100000 in
set_option maxHeartbeats 8000000 in
theorem fmLong6 (mn mx : Int) (a : Option Addr) (n c : Nat) (ss : List ByteArray) (s : ByteArray) (w : World) (hS : IsStrs w a n ss) (hM : MaxVar w) (hl : lightB ss s = true) (hc : chkN 6 mn mx n = 0) :
    Calls Tryz.prog 7 #[.agg (ruleA 6 mn mx (.slice a n c)), .string s] w fun e w' => e = .returned (.bool true) ∧ Below w.heap.size w w' := by
  obtain ⟨h20, hs, h100⟩ := lightB_len hl
  obtain ⟨-, -, h3, h4, h5, h6, -⟩ := chkN_kind hc
  have LA := hid (fun w h => fmAwake_any w h)
  have hlen := hS.len
  have LL : ∀ W, Below w.heap.size w W → Calls Tryz.prog 20 #[.agg (ruleA 6 mn mx (.slice a n c)), .string s] W fun e w' => e = .returned (.bool (lightB ss s)) ∧ Below W.heap.size W w' := fun W hW => light_any 6 mn mx a n c ss s W (hS.below hW)
  have LC := fun w => ruleCheck_any 6 mn mx a n c w
  have r := hid (RowAt.new w #[.int .i64 6, .int .i64 mn, .int .i64 mx, .slice a n c] 37)
  have b := hid (below_al (Below.refl w.heap.size w) (.cells #[.int .i64 6, .int .i64 mn, .int .i64 mx, .slice a n c] 37))
  have hM0 := hid (hM.alloc (.cells #[.int .i64 6, .int .i64 mn, .int .i64 mx, .slice a n c] 37))
  have LF : ∀ W, Below w.heap.size w W → Calls Tryz.prog 22 #[.agg (ruleA 6 mn mx (.slice a n c)), .string s] W fun e w' => e = .returned (.bool (fitsN 6 mn mx ss s)) ∧ Below W.heap.size W w' := fun W hW => ruleFits_any 6 mn mx a n c ss (by omega) s hs W (hS.below hW) (hM.below hW)
  have LG : ∀ W, Below w.heap.size w W → Calls Tryz.prog 28 #[.agg (ruleA 6 mn mx (.slice a n c))] W fun e w' => e = .returned (.int .i64 (longN 6 mn mx ss)) ∧ Below W.heap.size W w' := fun W hW => longest_any 6 mn mx a n c ss hc (by omega) (fun t ht => Nat.le_trans (h100 t ht) (by omega)) W (hS.below hW)
  have hfl := fits_long 6 mn mx ss s
  have hw : longN 6 mn mx ss = 14 := by simp [longN]
  rw [hw] at LG hfl
  rw [hl] at LL
  rw [hc] at LC
  unfold ruleA at LL LC LF LG ⊢
  obtain ⟨f, hf⟩ : ∃ f, fitsN 6 mn mx ss s = f := ⟨_, rfl⟩
  simp only [hf] at LF hfl
  replace LL := hid LL
  replace LC := hid LC
  replace LF := hid LF
  replace LG := hid LG
  clear hl hS hM hc hf hw h6 h20 h100
  cases f with

  | false =>
    clear hfl
    go_enter Tryz.func7, Tryz.ntmps7
    go_wp2_with (first
      | (go_at_call 19; with_reducible refine (LA.out _ hM0.out).mono ?_; rintro e W ⟨rfl, hB⟩
         replace r := hid (r.out.below hB r.out.lt)
         replace b := hid (below_cat hB b.out)
         clear hB
         try clear k0 k1 k2 k3
         have k0 := r.out.cell (j := 0) rfl
         have k1 := r.out.cell (j := 1) rfl
         have k2 := r.out.cell (j := 2) rfl
         have k3 := r.out.cell (j := 3) rfl)
      | (with_reducible refine at_op (some 10) (.load 37 (.tmp 2)) ?_
         refine wpList_load_row (o := ⟨some 10, _, _, _, _, _⟩) rfl 37 (.tmp 2) rfl w.heap.size rfl 37 _ (0, 0) _ r.out Tryz.underlying37 rfl infoRule ?_)
      | (with_reducible refine at_op (some 15) (.load 37 (.tmp 2)) ?_
         refine wpList_load_rowG rfl 37 (.tmp 2) rfl w.heap.size rfl 37 _ _ r.out Tryz.underlying37 rfl infoRule ?_)
      | (with_reducible refine at_op (some 55) (.load 37 (.tmp 2)) ?_
         refine wpList_load_row (o := ⟨some 55, _, _, _, _, _⟩) rfl 37 (.tmp 2) rfl w.heap.size rfl 37 _ (0, 0) _ r.out Tryz.underlying37 rfl infoRule ?_)
      | (with_reducible refine at_op (some 60) (.load 37 (.tmp 2)) ?_
         refine wpList_load_rowG rfl 37 (.tmp 2) rfl w.heap.size rfl 37 _ _ r.out Tryz.underlying37 rfl infoRule ?_)
      | (go_at_call 20; with_reducible refine (LL.out _ b.out).mono ?_; rintro e W ⟨rfl, hB⟩
         replace r := hid (r.out.below hB r.out.lt)
         replace b := hid (below_cat hB b.out)
         clear hB
         try clear k0 k1 k2 k3
         have k0 := r.out.cell (j := 0) rfl
         have k1 := r.out.cell (j := 1) rfl
         have k2 := r.out.cell (j := 2) rfl
         have k3 := r.out.cell (j := 3) rfl)
      | (go_at_call 24; with_reducible refine (LC.out _).mono ?_; rintro e W ⟨rfl, hB⟩
         replace r := hid (r.out.below hB r.out.lt)
         replace b := hid (below_cat hB b.out)
         clear hB
         try clear k0 k1 k2 k3
         have k0 := r.out.cell (j := 0) rfl
         have k1 := r.out.cell (j := 1) rfl
         have k2 := r.out.cell (j := 2) rfl
         have k3 := r.out.cell (j := 3) rfl)
      | (go_at_call 28; with_reducible refine (LG.out _ b.out).mono ?_; rintro e W ⟨rfl, hB⟩
         replace r := hid (r.out.below hB r.out.lt)
         replace b := hid (below_cat hB b.out)
         clear hB
         try clear k0 k1 k2 k3
         have k0 := r.out.cell (j := 0) rfl
         have k1 := r.out.cell (j := 1) rfl
         have k2 := r.out.cell (j := 2) rfl
         have k3 := r.out.cell (j := 3) rfl)
      | (go_at_call 22; with_reducible refine (LF.out _ b.out).mono ?_; rintro e W ⟨rfl, hB⟩
         replace r := hid (r.out.below hB r.out.lt)
         replace b := hid (below_cat hB b.out)
         clear hB
         try clear k0 k1 k2 k3
         have k0 := r.out.cell (j := 0) rfl
         have k1 := r.out.cell (j := 1) rfl
         have k2 := r.out.cell (j := 2) rfl
         have k3 := r.out.cell (j := 3) rfl))
    go_ret
    exact ⟨rfl, b.out⟩

  | true =>
    have hd := hfl rfl
    have hdb := decide_eq_true hd
    clear hfl
    go_enter Tryz.func7, Tryz.ntmps7
    go_wp2_with (first
      | (go_at_call 19; with_reducible refine (LA.out _ hM0.out).mono ?_; rintro e W ⟨rfl, hB⟩
         replace r := hid (r.out.below hB r.out.lt)
         replace b := hid (below_cat hB b.out)
         clear hB
         try clear k0 k1 k2 k3
         have k0 := r.out.cell (j := 0) rfl
         have k1 := r.out.cell (j := 1) rfl
         have k2 := r.out.cell (j := 2) rfl
         have k3 := r.out.cell (j := 3) rfl)
      | (with_reducible refine at_op (some 10) (.load 37 (.tmp 2)) ?_
         refine wpList_load_row (o := ⟨some 10, _, _, _, _, _⟩) rfl 37 (.tmp 2) rfl w.heap.size rfl 37 _ (0, 0) _ r.out Tryz.underlying37 rfl infoRule ?_)
      | (with_reducible refine at_op (some 15) (.load 37 (.tmp 2)) ?_
         refine wpList_load_rowG rfl 37 (.tmp 2) rfl w.heap.size rfl 37 _ _ r.out Tryz.underlying37 rfl infoRule ?_)
      | (with_reducible refine at_op (some 55) (.load 37 (.tmp 2)) ?_
         refine wpList_load_row (o := ⟨some 55, _, _, _, _, _⟩) rfl 37 (.tmp 2) rfl w.heap.size rfl 37 _ (0, 0) _ r.out Tryz.underlying37 rfl infoRule ?_)
      | (with_reducible refine at_op (some 60) (.load 37 (.tmp 2)) ?_
         refine wpList_load_rowG rfl 37 (.tmp 2) rfl w.heap.size rfl 37 _ _ r.out Tryz.underlying37 rfl infoRule ?_)
      | (go_at_call 20; with_reducible refine (LL.out _ b.out).mono ?_; rintro e W ⟨rfl, hB⟩
         replace r := hid (r.out.below hB r.out.lt)
         replace b := hid (below_cat hB b.out)
         clear hB
         try clear k0 k1 k2 k3
         have k0 := r.out.cell (j := 0) rfl
         have k1 := r.out.cell (j := 1) rfl
         have k2 := r.out.cell (j := 2) rfl
         have k3 := r.out.cell (j := 3) rfl)
      | (go_at_call 24; with_reducible refine (LC.out _).mono ?_; rintro e W ⟨rfl, hB⟩
         replace r := hid (r.out.below hB r.out.lt)
         replace b := hid (below_cat hB b.out)
         clear hB
         try clear k0 k1 k2 k3
         have k0 := r.out.cell (j := 0) rfl
         have k1 := r.out.cell (j := 1) rfl
         have k2 := r.out.cell (j := 2) rfl
         have k3 := r.out.cell (j := 3) rfl)
      | (go_at_call 28; with_reducible refine (LG.out _ b.out).mono ?_; rintro e W ⟨rfl, hB⟩
         replace r := hid (r.out.below hB r.out.lt)
         replace b := hid (below_cat hB b.out)
         clear hB
         try clear k0 k1 k2 k3
         have k0 := r.out.cell (j := 0) rfl
         have k1 := r.out.cell (j := 1) rfl
         have k2 := r.out.cell (j := 2) rfl
         have k3 := r.out.cell (j := 3) rfl)
      | (go_at_call 22; with_reducible refine (LF.out _ b.out).mono ?_; rintro e W ⟨rfl, hB⟩
         replace r := hid (r.out.below hB r.out.lt)
         replace b := hid (below_cat hB b.out)
         clear hB
         try clear k0 k1 k2 k3
         have k0 := r.out.cell (j := 0) rfl
         have k1 := r.out.cell (j := 1) rfl
         have k2 := r.out.cell (j := 2) rfl
         have k3 := r.out.cell (j := 3) rfl))
    go_ret
    exact ⟨rfl, b.out⟩

set_option maxRecDepth 100000 in
set_option maxHeartbeats 8000000 in
theorem fmLong7 (mn mx : Int) (a : Option Addr) (n c : Nat) (ss : List ByteArray) (s : ByteArray) (w : World) (hS : IsStrs w a n ss) (hM : MaxVar w) (hl : lightB ss s = true) (hc : chkN 7 mn mx n = 0) :
    Calls Tryz.prog 7 #[.agg (ruleA 7 mn mx (.slice a n c)), .string s] w fun e w' => e = .returned (.bool true) ∧ Below w.heap.size w w' := by
  obtain ⟨h20, hs, h100⟩ := lightB_len hl
  obtain ⟨-, -, h3, h4, h5, h6, -⟩ := chkN_kind hc
  have LA := hid (fun w h => fmAwake_any w h)
  have hlen := hS.len
  have LL : ∀ W, Below w.heap.size w W → Calls Tryz.prog 20 #[.agg (ruleA 7 mn mx (.slice a n c)), .string s] W fun e w' => e = .returned (.bool (lightB ss s)) ∧ Below W.heap.size W w' := fun W hW => light_any 7 mn mx a n c ss s W (hS.below hW)
  have LC := fun w => ruleCheck_any 7 mn mx a n c w
  have r := hid (RowAt.new w #[.int .i64 7, .int .i64 mn, .int .i64 mx, .slice a n c] 37)
  have b := hid (below_al (Below.refl w.heap.size w) (.cells #[.int .i64 7, .int .i64 mn, .int .i64 mx, .slice a n c] 37))
  have hM0 := hid (hM.alloc (.cells #[.int .i64 7, .int .i64 mn, .int .i64 mx, .slice a n c] 37))
  have LF : ∀ W, Below w.heap.size w W → Calls Tryz.prog 22 #[.agg (ruleA 7 mn mx (.slice a n c)), .string s] W fun e w' => e = .returned (.bool (fitsN 7 mn mx ss s)) ∧ Below W.heap.size W w' := fun W hW => ruleFits_any 7 mn mx a n c ss (by omega) s hs W (hS.below hW) (hM.below hW)
  have LG : ∀ W, Below w.heap.size w W → Calls Tryz.prog 28 #[.agg (ruleA 7 mn mx (.slice a n c))] W fun e w' => e = .returned (.int .i64 (longN 7 mn mx ss)) ∧ Below W.heap.size W w' := fun W hW => longest_any 7 mn mx a n c ss hc (by omega) (fun t ht => Nat.le_trans (h100 t ht) (by omega)) W (hS.below hW)
  have hfl := fits_long 7 mn mx ss s
  have hw : longN 7 mn mx ss = (mn + 2) / 3 * 4 := by simp [longN]
  rw [hw] at LG hfl
  rw [hl] at LL
  rw [hc] at LC
  unfold ruleA at LL LC LF LG ⊢
  obtain ⟨f, hf⟩ : ∃ f, fitsN 7 mn mx ss s = f := ⟨_, rfl⟩
  simp only [hf] at LF hfl
  replace LL := hid LL
  replace LC := hid LC
  replace LF := hid LF
  replace LG := hid LG
  clear hl hS hM hc hf hw h6 h20 h100
  cases f with

  | false =>
    clear hfl
    go_enter Tryz.func7, Tryz.ntmps7
    go_wp2_with (first
      | (go_at_call 19; with_reducible refine (LA.out _ hM0.out).mono ?_; rintro e W ⟨rfl, hB⟩
         replace r := hid (r.out.below hB r.out.lt)
         replace b := hid (below_cat hB b.out)
         clear hB
         try clear k0 k1 k2 k3
         have k0 := r.out.cell (j := 0) rfl
         have k1 := r.out.cell (j := 1) rfl
         have k2 := r.out.cell (j := 2) rfl
         have k3 := r.out.cell (j := 3) rfl)
      | (with_reducible refine at_op (some 10) (.load 37 (.tmp 2)) ?_
         refine wpList_load_row (o := ⟨some 10, _, _, _, _, _⟩) rfl 37 (.tmp 2) rfl w.heap.size rfl 37 _ (0, 0) _ r.out Tryz.underlying37 rfl infoRule ?_)
      | (with_reducible refine at_op (some 15) (.load 37 (.tmp 2)) ?_
         refine wpList_load_rowG rfl 37 (.tmp 2) rfl w.heap.size rfl 37 _ _ r.out Tryz.underlying37 rfl infoRule ?_)
      | (with_reducible refine at_op (some 55) (.load 37 (.tmp 2)) ?_
         refine wpList_load_row (o := ⟨some 55, _, _, _, _, _⟩) rfl 37 (.tmp 2) rfl w.heap.size rfl 37 _ (0, 0) _ r.out Tryz.underlying37 rfl infoRule ?_)
      | (with_reducible refine at_op (some 60) (.load 37 (.tmp 2)) ?_
         refine wpList_load_rowG rfl 37 (.tmp 2) rfl w.heap.size rfl 37 _ _ r.out Tryz.underlying37 rfl infoRule ?_)
      | (go_at_call 20; with_reducible refine (LL.out _ b.out).mono ?_; rintro e W ⟨rfl, hB⟩
         replace r := hid (r.out.below hB r.out.lt)
         replace b := hid (below_cat hB b.out)
         clear hB
         try clear k0 k1 k2 k3
         have k0 := r.out.cell (j := 0) rfl
         have k1 := r.out.cell (j := 1) rfl
         have k2 := r.out.cell (j := 2) rfl
         have k3 := r.out.cell (j := 3) rfl)
      | (go_at_call 24; with_reducible refine (LC.out _).mono ?_; rintro e W ⟨rfl, hB⟩
         replace r := hid (r.out.below hB r.out.lt)
         replace b := hid (below_cat hB b.out)
         clear hB
         try clear k0 k1 k2 k3
         have k0 := r.out.cell (j := 0) rfl
         have k1 := r.out.cell (j := 1) rfl
         have k2 := r.out.cell (j := 2) rfl
         have k3 := r.out.cell (j := 3) rfl)
      | (go_at_call 28; with_reducible refine (LG.out _ b.out).mono ?_; rintro e W ⟨rfl, hB⟩
         replace r := hid (r.out.below hB r.out.lt)
         replace b := hid (below_cat hB b.out)
         clear hB
         try clear k0 k1 k2 k3
         have k0 := r.out.cell (j := 0) rfl
         have k1 := r.out.cell (j := 1) rfl
         have k2 := r.out.cell (j := 2) rfl
         have k3 := r.out.cell (j := 3) rfl)
      | (go_at_call 22; with_reducible refine (LF.out _ b.out).mono ?_; rintro e W ⟨rfl, hB⟩
         replace r := hid (r.out.below hB r.out.lt)
         replace b := hid (below_cat hB b.out)
         clear hB
         try clear k0 k1 k2 k3
         have k0 := r.out.cell (j := 0) rfl
         have k1 := r.out.cell (j := 1) rfl
         have k2 := r.out.cell (j := 2) rfl
         have k3 := r.out.cell (j := 3) rfl))
    go_ret
    exact ⟨rfl, b.out⟩

  | true =>
    have hd := hfl rfl
    have hdb := decide_eq_true hd
    clear hfl
    go_enter Tryz.func7, Tryz.ntmps7
    go_wp2_with (first
      | (go_at_call 19; with_reducible refine (LA.out _ hM0.out).mono ?_; rintro e W ⟨rfl, hB⟩
         replace r := hid (r.out.below hB r.out.lt)
         replace b := hid (below_cat hB b.out)
         clear hB
         try clear k0 k1 k2 k3
         have k0 := r.out.cell (j := 0) rfl
         have k1 := r.out.cell (j := 1) rfl
         have k2 := r.out.cell (j := 2) rfl
         have k3 := r.out.cell (j := 3) rfl)
      | (with_reducible refine at_op (some 10) (.load 37 (.tmp 2)) ?_
         refine wpList_load_row (o := ⟨some 10, _, _, _, _, _⟩) rfl 37 (.tmp 2) rfl w.heap.size rfl 37 _ (0, 0) _ r.out Tryz.underlying37 rfl infoRule ?_)
      | (with_reducible refine at_op (some 15) (.load 37 (.tmp 2)) ?_
         refine wpList_load_rowG rfl 37 (.tmp 2) rfl w.heap.size rfl 37 _ _ r.out Tryz.underlying37 rfl infoRule ?_)
      | (with_reducible refine at_op (some 55) (.load 37 (.tmp 2)) ?_
         refine wpList_load_row (o := ⟨some 55, _, _, _, _, _⟩) rfl 37 (.tmp 2) rfl w.heap.size rfl 37 _ (0, 0) _ r.out Tryz.underlying37 rfl infoRule ?_)
      | (with_reducible refine at_op (some 60) (.load 37 (.tmp 2)) ?_
         refine wpList_load_rowG rfl 37 (.tmp 2) rfl w.heap.size rfl 37 _ _ r.out Tryz.underlying37 rfl infoRule ?_)
      | (go_at_call 20; with_reducible refine (LL.out _ b.out).mono ?_; rintro e W ⟨rfl, hB⟩
         replace r := hid (r.out.below hB r.out.lt)
         replace b := hid (below_cat hB b.out)
         clear hB
         try clear k0 k1 k2 k3
         have k0 := r.out.cell (j := 0) rfl
         have k1 := r.out.cell (j := 1) rfl
         have k2 := r.out.cell (j := 2) rfl
         have k3 := r.out.cell (j := 3) rfl)
      | (go_at_call 24; with_reducible refine (LC.out _).mono ?_; rintro e W ⟨rfl, hB⟩
         replace r := hid (r.out.below hB r.out.lt)
         replace b := hid (below_cat hB b.out)
         clear hB
         try clear k0 k1 k2 k3
         have k0 := r.out.cell (j := 0) rfl
         have k1 := r.out.cell (j := 1) rfl
         have k2 := r.out.cell (j := 2) rfl
         have k3 := r.out.cell (j := 3) rfl)
      | (go_at_call 28; with_reducible refine (LG.out _ b.out).mono ?_; rintro e W ⟨rfl, hB⟩
         replace r := hid (r.out.below hB r.out.lt)
         replace b := hid (below_cat hB b.out)
         clear hB
         try clear k0 k1 k2 k3
         have k0 := r.out.cell (j := 0) rfl
         have k1 := r.out.cell (j := 1) rfl
         have k2 := r.out.cell (j := 2) rfl
         have k3 := r.out.cell (j := 3) rfl)
      | (go_at_call 22; with_reducible refine (LF.out _ b.out).mono ?_; rintro e W ⟨rfl, hB⟩
         replace r := hid (r.out.below hB r.out.lt)
         replace b := hid (below_cat hB b.out)
         clear hB
         try clear k0 k1 k2 k3
         have k0 := r.out.cell (j := 0) rfl
         have k1 := r.out.cell (j := 1) rfl
         have k2 := r.out.cell (j := 2) rfl
         have k3 := r.out.cell (j := 3) rfl))
    go_ret
    exact ⟨rfl, b.out⟩

set_option maxRecDepth 100000 in
set_option maxHeartbeats 8000000 in
theorem fmLong8 (mn mx : Int) (a : Option Addr) (n c : Nat) (ss : List ByteArray) (s : ByteArray) (w : World) (hS : IsStrs w a n ss) (hM : MaxVar w) (hl : lightB ss s = true) (hc : chkN 8 mn mx n = 0) :
    Calls Tryz.prog 7 #[.agg (ruleA 8 mn mx (.slice a n c)), .string s] w fun e w' => e = .returned (.bool true) ∧ Below w.heap.size w w' := by
  obtain ⟨h20, hs, h100⟩ := lightB_len hl
  obtain ⟨-, -, h3, h4, h5, h6, -⟩ := chkN_kind hc
  have LA := hid (fun w h => fmAwake_any w h)
  have hlen := hS.len
  have LL : ∀ W, Below w.heap.size w W → Calls Tryz.prog 20 #[.agg (ruleA 8 mn mx (.slice a n c)), .string s] W fun e w' => e = .returned (.bool (lightB ss s)) ∧ Below W.heap.size W w' := fun W hW => light_any 8 mn mx a n c ss s W (hS.below hW)
  have LC := fun w => ruleCheck_any 8 mn mx a n c w
  have r := hid (RowAt.new w #[.int .i64 8, .int .i64 mn, .int .i64 mx, .slice a n c] 37)
  have b := hid (below_al (Below.refl w.heap.size w) (.cells #[.int .i64 8, .int .i64 mn, .int .i64 mx, .slice a n c] 37))
  have hM0 := hid (hM.alloc (.cells #[.int .i64 8, .int .i64 mn, .int .i64 mx, .slice a n c] 37))
  have LF : ∀ W, Below w.heap.size w W → Calls Tryz.prog 22 #[.agg (ruleA 8 mn mx (.slice a n c)), .string s] W fun e w' => e = .returned (.bool (fitsN 8 mn mx ss s)) ∧ Below W.heap.size W w' := fun W hW => ruleFits_any 8 mn mx a n c ss (by omega) s hs W (hS.below hW) (hM.below hW)
  have LG : ∀ W, Below w.heap.size w W → Calls Tryz.prog 28 #[.agg (ruleA 8 mn mx (.slice a n c))] W fun e w' => e = .returned (.int .i64 (longN 8 mn mx ss)) ∧ Below W.heap.size W w' := fun W hW => longest_any 8 mn mx a n c ss hc (by omega) (fun t ht => Nat.le_trans (h100 t ht) (by omega)) W (hS.below hW)
  have hfl := fits_long 8 mn mx ss s
  have hw : longN 8 mn mx ss = mx := by simp [longN]
  rw [hw] at LG hfl
  rw [hl] at LL
  rw [hc] at LC
  unfold ruleA at LL LC LF LG ⊢
  obtain ⟨f, hf⟩ : ∃ f, fitsN 8 mn mx ss s = f := ⟨_, rfl⟩
  simp only [hf] at LF hfl
  replace LL := hid LL
  replace LC := hid LC
  replace LF := hid LF
  replace LG := hid LG
  clear hl hS hM hc hf hw h6 h20 h100
  cases f with

  | false =>
    clear hfl
    go_enter Tryz.func7, Tryz.ntmps7
    go_wp2_with (first
      | (go_at_call 19; with_reducible refine (LA.out _ hM0.out).mono ?_; rintro e W ⟨rfl, hB⟩
         replace r := hid (r.out.below hB r.out.lt)
         replace b := hid (below_cat hB b.out)
         clear hB
         try clear k0 k1 k2 k3
         have k0 := r.out.cell (j := 0) rfl
         have k1 := r.out.cell (j := 1) rfl
         have k2 := r.out.cell (j := 2) rfl
         have k3 := r.out.cell (j := 3) rfl)
      | (with_reducible refine at_op (some 10) (.load 37 (.tmp 2)) ?_
         refine wpList_load_row (o := ⟨some 10, _, _, _, _, _⟩) rfl 37 (.tmp 2) rfl w.heap.size rfl 37 _ (0, 0) _ r.out Tryz.underlying37 rfl infoRule ?_)
      | (with_reducible refine at_op (some 15) (.load 37 (.tmp 2)) ?_
         refine wpList_load_rowG rfl 37 (.tmp 2) rfl w.heap.size rfl 37 _ _ r.out Tryz.underlying37 rfl infoRule ?_)
      | (with_reducible refine at_op (some 55) (.load 37 (.tmp 2)) ?_
         refine wpList_load_row (o := ⟨some 55, _, _, _, _, _⟩) rfl 37 (.tmp 2) rfl w.heap.size rfl 37 _ (0, 0) _ r.out Tryz.underlying37 rfl infoRule ?_)
      | (with_reducible refine at_op (some 60) (.load 37 (.tmp 2)) ?_
         refine wpList_load_rowG rfl 37 (.tmp 2) rfl w.heap.size rfl 37 _ _ r.out Tryz.underlying37 rfl infoRule ?_)
      | (go_at_call 20; with_reducible refine (LL.out _ b.out).mono ?_; rintro e W ⟨rfl, hB⟩
         replace r := hid (r.out.below hB r.out.lt)
         replace b := hid (below_cat hB b.out)
         clear hB
         try clear k0 k1 k2 k3
         have k0 := r.out.cell (j := 0) rfl
         have k1 := r.out.cell (j := 1) rfl
         have k2 := r.out.cell (j := 2) rfl
         have k3 := r.out.cell (j := 3) rfl)
      | (go_at_call 24; with_reducible refine (LC.out _).mono ?_; rintro e W ⟨rfl, hB⟩
         replace r := hid (r.out.below hB r.out.lt)
         replace b := hid (below_cat hB b.out)
         clear hB
         try clear k0 k1 k2 k3
         have k0 := r.out.cell (j := 0) rfl
         have k1 := r.out.cell (j := 1) rfl
         have k2 := r.out.cell (j := 2) rfl
         have k3 := r.out.cell (j := 3) rfl)
      | (go_at_call 28; with_reducible refine (LG.out _ b.out).mono ?_; rintro e W ⟨rfl, hB⟩
         replace r := hid (r.out.below hB r.out.lt)
         replace b := hid (below_cat hB b.out)
         clear hB
         try clear k0 k1 k2 k3
         have k0 := r.out.cell (j := 0) rfl
         have k1 := r.out.cell (j := 1) rfl
         have k2 := r.out.cell (j := 2) rfl
         have k3 := r.out.cell (j := 3) rfl)
      | (go_at_call 22; with_reducible refine (LF.out _ b.out).mono ?_; rintro e W ⟨rfl, hB⟩
         replace r := hid (r.out.below hB r.out.lt)
         replace b := hid (below_cat hB b.out)
         clear hB
         try clear k0 k1 k2 k3
         have k0 := r.out.cell (j := 0) rfl
         have k1 := r.out.cell (j := 1) rfl
         have k2 := r.out.cell (j := 2) rfl
         have k3 := r.out.cell (j := 3) rfl))
    go_ret
    exact ⟨rfl, b.out⟩

  | true =>
    have hd := hfl rfl
    have hdb := decide_eq_true hd
    clear hfl
    go_enter Tryz.func7, Tryz.ntmps7
    go_wp2_with (first
      | (go_at_call 19; with_reducible refine (LA.out _ hM0.out).mono ?_; rintro e W ⟨rfl, hB⟩
         replace r := hid (r.out.below hB r.out.lt)
         replace b := hid (below_cat hB b.out)
         clear hB
         try clear k0 k1 k2 k3
         have k0 := r.out.cell (j := 0) rfl
         have k1 := r.out.cell (j := 1) rfl
         have k2 := r.out.cell (j := 2) rfl
         have k3 := r.out.cell (j := 3) rfl)
      | (with_reducible refine at_op (some 10) (.load 37 (.tmp 2)) ?_
         refine wpList_load_row (o := ⟨some 10, _, _, _, _, _⟩) rfl 37 (.tmp 2) rfl w.heap.size rfl 37 _ (0, 0) _ r.out Tryz.underlying37 rfl infoRule ?_)
      | (with_reducible refine at_op (some 15) (.load 37 (.tmp 2)) ?_
         refine wpList_load_rowG rfl 37 (.tmp 2) rfl w.heap.size rfl 37 _ _ r.out Tryz.underlying37 rfl infoRule ?_)
      | (with_reducible refine at_op (some 55) (.load 37 (.tmp 2)) ?_
         refine wpList_load_row (o := ⟨some 55, _, _, _, _, _⟩) rfl 37 (.tmp 2) rfl w.heap.size rfl 37 _ (0, 0) _ r.out Tryz.underlying37 rfl infoRule ?_)
      | (with_reducible refine at_op (some 60) (.load 37 (.tmp 2)) ?_
         refine wpList_load_rowG rfl 37 (.tmp 2) rfl w.heap.size rfl 37 _ _ r.out Tryz.underlying37 rfl infoRule ?_)
      | (go_at_call 20; with_reducible refine (LL.out _ b.out).mono ?_; rintro e W ⟨rfl, hB⟩
         replace r := hid (r.out.below hB r.out.lt)
         replace b := hid (below_cat hB b.out)
         clear hB
         try clear k0 k1 k2 k3
         have k0 := r.out.cell (j := 0) rfl
         have k1 := r.out.cell (j := 1) rfl
         have k2 := r.out.cell (j := 2) rfl
         have k3 := r.out.cell (j := 3) rfl)
      | (go_at_call 24; with_reducible refine (LC.out _).mono ?_; rintro e W ⟨rfl, hB⟩
         replace r := hid (r.out.below hB r.out.lt)
         replace b := hid (below_cat hB b.out)
         clear hB
         try clear k0 k1 k2 k3
         have k0 := r.out.cell (j := 0) rfl
         have k1 := r.out.cell (j := 1) rfl
         have k2 := r.out.cell (j := 2) rfl
         have k3 := r.out.cell (j := 3) rfl)
      | (go_at_call 28; with_reducible refine (LG.out _ b.out).mono ?_; rintro e W ⟨rfl, hB⟩
         replace r := hid (r.out.below hB r.out.lt)
         replace b := hid (below_cat hB b.out)
         clear hB
         try clear k0 k1 k2 k3
         have k0 := r.out.cell (j := 0) rfl
         have k1 := r.out.cell (j := 1) rfl
         have k2 := r.out.cell (j := 2) rfl
         have k3 := r.out.cell (j := 3) rfl)
      | (go_at_call 22; with_reducible refine (LF.out _ b.out).mono ?_; rintro e W ⟨rfl, hB⟩
         replace r := hid (r.out.below hB r.out.lt)
         replace b := hid (below_cat hB b.out)
         clear hB
         try clear k0 k1 k2 k3
         have k0 := r.out.cell (j := 0) rfl
         have k1 := r.out.cell (j := 1) rfl
         have k2 := r.out.cell (j := 2) rfl
         have k3 := r.out.cell (j := 3) rfl))
    go_ret
    exact ⟨rfl, b.out⟩

theorem formatLongest_row (k mn mx : Int) (a : Option Addr) (n c : Nat) (ss : List ByteArray) (s : ByteArray) (w : World) (_ : (Lit.int .i64 k).wf = true) (_ : (Lit.int .i64 mn).wf = true) (_ : (Lit.int .i64 mx).wf = true) (hS : IsStrs w a n ss) (_ : s.size ≤ 140737488351232) (hM : MaxVar w) :
    Calls Tryz.prog 7 #[.agg #[.int .i64 k, .int .i64 mn, .int .i64 mx, .slice a n c], .string s] w fun e w' => e = .returned (.bool true) ∧ Below w.heap.size w w' := by
  cases hl : lightB ss s with
  | false => exact fmLong_dim k mn mx a n c ss s w hS hM hl
  | true =>
    by_cases h0 : chkN k mn mx n = 0
    · obtain ⟨h1, h2, _⟩ := chkN_kind h0
      have hk : k = 1 ∨ k = 2 ∨ k = 3 ∨ k = 4 ∨ k = 5 ∨ k = 6 ∨ k = 7 ∨ k = 8 := by omega
      rcases hk with rfl | rfl | rfl | rfl | rfl | rfl | rfl | rfl
      · exact fmLong1 mn mx a n c ss s w hS hM hl h0
      · exact fmLong2 mn mx a n c ss s w hS hM hl h0
      · exact fmLong3 mn mx a n c ss s w hS hM hl h0
      · exact fmLong4 mn mx a n c ss s w hS hM hl h0
      · exact fmLong5 mn mx a n c ss s w hS hM hl h0
      · exact fmLong6 mn mx a n c ss s w hS hM hl h0
      · exact fmLong7 mn mx a n c ss s w hS hM hl h0
      · exact fmLong8 mn mx a n c ss s w hS hM hl h0
    · exact fmLong_bad k mn mx a n c ss s w hS hM hl _ rfl h0
end Go.Proofs.YtdjlpmelmhhooaaGreatDoor
