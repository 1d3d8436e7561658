/- Format: Fits, kind by kind. Printed by mkFmE.py. -/
import Derived.Test.YtdjlpmelmhhooaaGreatDoorFmX1
import Derived.Test.YtdjlpmelmhhooaaGreatDoorFmQ
import Derived.Test.YtdjlpmelmhhooaaGreatDoorIdsX4
import Derived.Test.YtdjlpmelmhhooaaGreatDoorWkX
namespace Go.Proofs.YtdjlpmelmhhooaaGreatDoor
open Go Go.RowKit
set_option linter.unusedSimpArgs false
set_option linter.unusedVariables false

theorem IsStrs.alloc {w : World} {a : Option Addr} {n : Nat} {ss : List ByteArray} (h : IsStrs w a n ss) (o : Obj) : IsStrs (w.alloc o) a n ss := h.below (below_al (Below.refl _ _) o)

set_option maxRecDepth 100000 in
set_option maxHeartbeats 4000000 in
theorem fits_bad (k : Int) (mn mx : Int) (a : Option Addr) (n c : Nat) (ss : List ByteArray) (s : ByteArray) (hs : s.size ≤ 1000) (w : World) (hS : IsStrs w a n ss) (hM : MaxVar w) (er : Int) (hc : chkN k mn mx n = er) (he : er ≠ 0) :
    Calls Tryz.prog 22 #[.agg (ruleA k mn mx (.slice a n c)), .string s] w fun e w' => e = .returned (.bool false) ∧ Below w.heap.size w w' := by
  have r := hid (RowAt.new w #[.int .i64 k, .int .i64 mn, .int .i64 mx, .slice a n c] 37)
  have b := hid (below_al (Below.refl w.heap.size w) (.cells #[.int .i64 k, .int .i64 mn, .int .i64 mx, .slice a n c] 37))
  replace hM := hid (hM.alloc (.cells #[.int .i64 k, .int .i64 mn, .int .i64 mx, .slice a n c] 37))
  replace hS := hid (hS.alloc (.cells #[.int .i64 k, .int .i64 mn, .int .i64 mx, .slice a n c] 37))
  have LC := hid (fun w => ruleCheck_any k mn mx a n c w)
  unfold ruleA at LC
  have he1 : (er != 0) = true := by rw [bne_iff_ne]; exact he
  rw [hc] at LC
  clear hc he
  unfold ruleA
  go_enter Tryz.func22, Tryz.ntmps22
  go_wp2_with (first
    | (with_reducible refine at_op (some 9) (.load 37 (.tmp 2)) ?_
       refine wpList_load_row (o := ⟨some 9, _, _, _, _, _⟩) rfl 37 (.tmp 2) rfl w.heap.size rfl 37 _ (0, 0) _ r.out Tryz.underlying37 rfl infoRule ?_)
    | (go_at_call 24; with_reducible refine (LC.out _).mono ?_; rintro e W ⟨rfl, hB⟩
       replace r := hid (r.out.below hB r.out.lt)
       replace b := hid (below_cat hB b.out)
       replace hM := hid (hM.out.below hB)
       replace hS := hid (hS.out.below hB)
       clear hB
       try clear k0 k1 k2 k3
       have k0 := r.out.cell (j := 0) rfl
       have k1 := r.out.cell (j := 1) rfl
       have k2 := r.out.cell (j := 2) rfl
       have k3 := r.out.cell (j := 3) rfl))
  go_ret
  exact ⟨rfl, b.out⟩

set_option maxRecDepth 100000 in
set_option maxHeartbeats 4000000 in
theorem fitK5 (mn mx : Int) (a : Option Addr) (n c : Nat) (ss : List ByteArray) (s : ByteArray) (hs : s.size ≤ 1000) (w : World) (hS : IsStrs w a n ss) (hM : MaxVar w) (hc : chkN 5 mn mx n = 0) :
    Calls Tryz.prog 22 #[.agg (ruleA 5 mn mx (.slice a n c)), .string s] w fun e w' => e = .returned (.bool (kindB 5 mn mx ss s)) ∧ Below w.heap.size w w' := by
  have r := hid (RowAt.new w #[.int .i64 5, .int .i64 mn, .int .i64 mx, .slice a n c] 37)
  have b := hid (below_al (Below.refl w.heap.size w) (.cells #[.int .i64 5, .int .i64 mn, .int .i64 mx, .slice a n c] 37))
  replace hM := hid (hM.alloc (.cells #[.int .i64 5, .int .i64 mn, .int .i64 mx, .slice a n c] 37))
  replace hS := hid (hS.alloc (.cells #[.int .i64 5, .int .i64 mn, .int .i64 mx, .slice a n c] 37))
  have LC := hid (fun w => ruleCheck_any 5 mn mx a n c w)
  unfold ruleA at LC
  rw [hc] at LC
  have LK := fun w => card_any s (by omega) w
  have hk : kindB 5 mn mx ss s = decide (cardN s.data.toList = 0) := by simp [kindB]
  rw [hk]
  obtain ⟨u, hu⟩ : ∃ u, u = cardN s.data.toList := ⟨_, rfl⟩
  rw [← hu] at LK ⊢
  replace LK := hid LK
  clear hc hk hu
  unfold ruleA
  by_cases h0 : u = 0
  · subst h0
    go_enter Tryz.func22, Tryz.ntmps22
    go_wp2_with (first
      | (with_reducible refine at_op (some 9) (.load 37 (.tmp 2)) ?_
         refine wpList_load_row (o := ⟨some 9, _, _, _, _, _⟩) rfl 37 (.tmp 2) rfl w.heap.size rfl 37 _ (0, 0) _ r.out Tryz.underlying37 rfl infoRule ?_)
      | (go_at_call 24; with_reducible refine (LC.out _).mono ?_; rintro e W ⟨rfl, hB⟩
         replace r := hid (r.out.below hB r.out.lt)
         replace b := hid (below_cat hB b.out)
         replace hM := hid (hM.out.below hB)
         replace hS := hid (hS.out.below hB)
         clear hB
         try clear k0 k1 k2 k3
         have k0 := r.out.cell (j := 0) rfl
         have k1 := r.out.cell (j := 1) rfl
         have k2 := r.out.cell (j := 2) rfl
         have k3 := r.out.cell (j := 3) rfl)
      | (go_at_call 63; with_reducible refine (LK.out _).mono ?_; rintro e W ⟨rfl, hB⟩
         replace r := hid (r.out.below hB r.out.lt)
         replace b := hid (below_cat hB b.out)
         replace hM := hid (hM.out.below hB)
         replace hS := hid (hS.out.below hB)
         clear hB
         try clear k0 k1 k2 k3
         have k0 := r.out.cell (j := 0) rfl
         have k1 := r.out.cell (j := 1) rfl
         have k2 := r.out.cell (j := 2) rfl
         have k3 := r.out.cell (j := 3) rfl))
    go_ret
    exact ⟨rfl, b.out⟩
  · have hd : ((u : Int) == 0) = false := by rw [beq_eq_false_iff_ne]; omega
    have hd2 : decide (u = 0) = false := by simpa using h0
    rw [hd2]
    clear h0 hd2
    go_enter Tryz.func22, Tryz.ntmps22
    go_wp2_with (first
      | (with_reducible refine at_op (some 9) (.load 37 (.tmp 2)) ?_
         refine wpList_load_row (o := ⟨some 9, _, _, _, _, _⟩) rfl 37 (.tmp 2) rfl w.heap.size rfl 37 _ (0, 0) _ r.out Tryz.underlying37 rfl infoRule ?_)
      | (go_at_call 24; with_reducible refine (LC.out _).mono ?_; rintro e W ⟨rfl, hB⟩
         replace r := hid (r.out.below hB r.out.lt)
         replace b := hid (below_cat hB b.out)
         replace hM := hid (hM.out.below hB)
         replace hS := hid (hS.out.below hB)
         clear hB
         try clear k0 k1 k2 k3
         have k0 := r.out.cell (j := 0) rfl
         have k1 := r.out.cell (j := 1) rfl
         have k2 := r.out.cell (j := 2) rfl
         have k3 := r.out.cell (j := 3) rfl)
      | (go_at_call 63; with_reducible refine (LK.out _).mono ?_; rintro e W ⟨rfl, hB⟩
         replace r := hid (r.out.below hB r.out.lt)
         replace b := hid (below_cat hB b.out)
         replace hM := hid (hM.out.below hB)
         replace hS := hid (hS.out.below hB)
         clear hB
         try clear k0 k1 k2 k3
         have k0 := r.out.cell (j := 0) rfl
         have k1 := r.out.cell (j := 1) rfl
         have k2 := r.out.cell (j := 2) rfl
         have k3 := r.out.cell (j := 3) rfl))
    go_ret
    exact ⟨rfl, b.out⟩

set_option maxRecDepth 100000 in
set_option maxHeartbeats 4000000 in
theorem fitK6 (mn mx : Int) (a : Option Addr) (n c : Nat) (ss : List ByteArray) (s : ByteArray) (hs : s.size ≤ 1000) (w : World) (hS : IsStrs w a n ss) (hM : MaxVar w) (hc : chkN 6 mn mx n = 0) :
    Calls Tryz.prog 22 #[.agg (ruleA 6 mn mx (.slice a n c)), .string s] w fun e w' => e = .returned (.bool (kindB 6 mn mx ss s)) ∧ Below w.heap.size w w' := by
  have r := hid (RowAt.new w #[.int .i64 6, .int .i64 mn, .int .i64 mx, .slice a n c] 37)
  have b := hid (below_al (Below.refl w.heap.size w) (.cells #[.int .i64 6, .int .i64 mn, .int .i64 mx, .slice a n c] 37))
  replace hM := hid (hM.alloc (.cells #[.int .i64 6, .int .i64 mn, .int .i64 mx, .slice a n c] 37))
  replace hS := hid (hS.alloc (.cells #[.int .i64 6, .int .i64 mn, .int .i64 mx, .slice a n c] 37))
  have LC := hid (fun w => ruleCheck_any 6 mn mx a n c w)
  unfold ruleA at LC
  rw [hc] at LC
  have LK := fun w => date_any s (by omega) w
  have hk : kindB 6 mn mx ss s = decide (dateN s.data.toList = 0) := by simp [kindB]
  rw [hk]
  obtain ⟨u, hu⟩ : ∃ u, u = dateN s.data.toList := ⟨_, rfl⟩
  rw [← hu] at LK ⊢
  replace LK := hid LK
  clear hc hk hu
  unfold ruleA
  by_cases h0 : u = 0
  · subst h0
    go_enter Tryz.func22, Tryz.ntmps22
    go_wp2_with (first
      | (with_reducible refine at_op (some 9) (.load 37 (.tmp 2)) ?_
         refine wpList_load_row (o := ⟨some 9, _, _, _, _, _⟩) rfl 37 (.tmp 2) rfl w.heap.size rfl 37 _ (0, 0) _ r.out Tryz.underlying37 rfl infoRule ?_)
      | (go_at_call 24; with_reducible refine (LC.out _).mono ?_; rintro e W ⟨rfl, hB⟩
         replace r := hid (r.out.below hB r.out.lt)
         replace b := hid (below_cat hB b.out)
         replace hM := hid (hM.out.below hB)
         replace hS := hid (hS.out.below hB)
         clear hB
         try clear k0 k1 k2 k3
         have k0 := r.out.cell (j := 0) rfl
         have k1 := r.out.cell (j := 1) rfl
         have k2 := r.out.cell (j := 2) rfl
         have k3 := r.out.cell (j := 3) rfl)
      | (go_at_call 64; with_reducible refine (LK.out _).mono ?_; rintro e W ⟨rfl, hB⟩
         replace r := hid (r.out.below hB r.out.lt)
         replace b := hid (below_cat hB b.out)
         replace hM := hid (hM.out.below hB)
         replace hS := hid (hS.out.below hB)
         clear hB
         try clear k0 k1 k2 k3
         have k0 := r.out.cell (j := 0) rfl
         have k1 := r.out.cell (j := 1) rfl
         have k2 := r.out.cell (j := 2) rfl
         have k3 := r.out.cell (j := 3) rfl))
    go_ret
    exact ⟨rfl, b.out⟩
  · have hd : ((u : Int) == 0) = false := by rw [beq_eq_false_iff_ne]; omega
    have hd2 : decide (u = 0) = false := by simpa using h0
    rw [hd2]
    clear h0 hd2
    go_enter Tryz.func22, Tryz.ntmps22
    go_wp2_with (first
      | (with_reducible refine at_op (some 9) (.load 37 (.tmp 2)) ?_
         refine wpList_load_row (o := ⟨some 9, _, _, _, _, _⟩) rfl 37 (.tmp 2) rfl w.heap.size rfl 37 _ (0, 0) _ r.out Tryz.underlying37 rfl infoRule ?_)
      | (go_at_call 24; with_reducible refine (LC.out _).mono ?_; rintro e W ⟨rfl, hB⟩
         replace r := hid (r.out.below hB r.out.lt)
         replace b := hid (below_cat hB b.out)
         replace hM := hid (hM.out.below hB)
         replace hS := hid (hS.out.below hB)
         clear hB
         try clear k0 k1 k2 k3
         have k0 := r.out.cell (j := 0) rfl
         have k1 := r.out.cell (j := 1) rfl
         have k2 := r.out.cell (j := 2) rfl
         have k3 := r.out.cell (j := 3) rfl)
      | (go_at_call 64; with_reducible refine (LK.out _).mono ?_; rintro e W ⟨rfl, hB⟩
         replace r := hid (r.out.below hB r.out.lt)
         replace b := hid (below_cat hB b.out)
         replace hM := hid (hM.out.below hB)
         replace hS := hid (hS.out.below hB)
         clear hB
         try clear k0 k1 k2 k3
         have k0 := r.out.cell (j := 0) rfl
         have k1 := r.out.cell (j := 1) rfl
         have k2 := r.out.cell (j := 2) rfl
         have k3 := r.out.cell (j := 3) rfl))
    go_ret
    exact ⟨rfl, b.out⟩

set_option maxRecDepth 100000 in
set_option maxHeartbeats 4000000 in
theorem fitK4 (mn mx : Int) (a : Option Addr) (n c : Nat) (ss : List ByteArray) (s : ByteArray) (hs : s.size ≤ 1000) (w : World) (hS : IsStrs w a n ss) (hM : MaxVar w) (hn : n ≤ 140737488351232) (hc : chkN 4 mn mx n = 0) :
    Calls Tryz.prog 22 #[.agg (ruleA 4 mn mx (.slice a n c)), .string s] w fun e w' => e = .returned (.bool (kindB 4 mn mx ss s)) ∧ Below w.heap.size w w' := by
  have LK : ∀ W, IsStrs W a n ss → Calls Tryz.prog 33 #[.slice a n c, .string s] W fun e w' => e = .returned (.bool (memS ss s)) ∧ Below W.heap.size W w' := fun W h => (contains_strs a n c ss s hn W h).mono fun e w' ⟨h1, h2⟩ => ⟨h1, by rw [← h2]; exact Below.refl _ _⟩
  have r := hid (RowAt.new w #[.int .i64 4, .int .i64 mn, .int .i64 mx, .slice a n c] 37)
  have b := hid (below_al (Below.refl w.heap.size w) (.cells #[.int .i64 4, .int .i64 mn, .int .i64 mx, .slice a n c] 37))
  replace hM := hid (hM.alloc (.cells #[.int .i64 4, .int .i64 mn, .int .i64 mx, .slice a n c] 37))
  replace hS := hid (hS.alloc (.cells #[.int .i64 4, .int .i64 mn, .int .i64 mx, .slice a n c] 37))
  have LC := hid (fun w => ruleCheck_any 4 mn mx a n c w)
  unfold ruleA at LC
  rw [hc] at LC
  have hk : kindB 4 mn mx ss s = memS ss s := by simp [kindB]
  rw [hk]
  obtain ⟨u, hu⟩ : ∃ u, u = memS ss s := ⟨_, rfl⟩
  rw [← hu] at LK ⊢
  replace LK := hid LK
  clear hc hk hu
  unfold ruleA
  go_enter Tryz.func22, Tryz.ntmps22
  go_wp2_with (first
    | (with_reducible refine at_op (some 9) (.load 37 (.tmp 2)) ?_
       refine wpList_load_row (o := ⟨some 9, _, _, _, _, _⟩) rfl 37 (.tmp 2) rfl w.heap.size rfl 37 _ (0, 0) _ r.out Tryz.underlying37 rfl infoRule ?_)
    | (go_at_call 24; with_reducible refine (LC.out _).mono ?_; rintro e W ⟨rfl, hB⟩
       replace r := hid (r.out.below hB r.out.lt)
       replace b := hid (below_cat hB b.out)
       replace hM := hid (hM.out.below hB)
       replace hS := hid (hS.out.below hB)
       clear hB
       try clear k0 k1 k2 k3
       have k0 := r.out.cell (j := 0) rfl
       have k1 := r.out.cell (j := 1) rfl
       have k2 := r.out.cell (j := 2) rfl
       have k3 := r.out.cell (j := 3) rfl)
    | (go_at_call 33; with_reducible refine (LK.out _ hS.out).mono ?_; rintro e W ⟨rfl, hB⟩
       replace r := hid (r.out.below hB r.out.lt)
       replace b := hid (below_cat hB b.out)
       replace hM := hid (hM.out.below hB)
       replace hS := hid (hS.out.below hB)
       clear hB
       try clear k0 k1 k2 k3
       have k0 := r.out.cell (j := 0) rfl
       have k1 := r.out.cell (j := 1) rfl
       have k2 := r.out.cell (j := 2) rfl
       have k3 := r.out.cell (j := 3) rfl))
  go_ret
  exact ⟨rfl, b.out⟩

set_option maxRecDepth 100000 in
set_option maxHeartbeats 4000000 in
theorem fitK7 (mn mx : Int) (a : Option Addr) (n c : Nat) (ss : List ByteArray) (s : ByteArray) (hs : s.size ≤ 1000) (w : World) (hS : IsStrs w a n ss) (hM : MaxVar w) (hc : chkN 7 mn mx n = 0) :
    Calls Tryz.prog 22 #[.agg (ruleA 7 mn mx (.slice a n c)), .string s] w fun e w' => e = .returned (.bool (kindB 7 mn mx ss s)) ∧ Below w.heap.size w w' := by
  have hD : ∀ w, Calls Tryz.prog 48 #[.agg #[.string stdL, .int .i64 6, .bool true], .string s] w fun e w' => e = .returned (decV stdL 6 true s.data.toList) ∧ Below w.heap.size w w' := fun w => decode_any stdL 6 true good_std s (by omega) w
  have LH0 : ∀ w, Calls Tryz.prog 65 #[] w fun e w' => e = .returned (.agg #[.string stdL, .int .i64 6, .bool true]) ∧ Below w.heap.size w w' := fun w => std_any w
  unfold decV at hD
  obtain ⟨H, hH⟩ : ∃ H, H = stdL := ⟨_, rfl⟩
  have hk : kindB 7 mn mx ss s = proofB mn s.data.toList := by simp [kindB]
  rw [hk]
  unfold proofB
  rw [← hH] at LH0 hD ⊢
  have LH := hid LH0
  have r := hid (RowAt.new w #[.int .i64 7, .int .i64 mn, .int .i64 mx, .slice a n c] 37)
  have b := hid (below_al (Below.refl w.heap.size w) (.cells #[.int .i64 7, .int .i64 mn, .int .i64 mx, .slice a n c] 37))
  replace hM := hid (hM.alloc (.cells #[.int .i64 7, .int .i64 mn, .int .i64 mx, .slice a n c] 37))
  replace hS := hid (hS.alloc (.cells #[.int .i64 7, .int .i64 mn, .int .i64 mx, .slice a n c] 37))
  have LC := hid (fun w => ruleCheck_any 7 mn mx a n c w)
  unfold ruleA at LC
  rw [hc] at LC
  unfold ruleA
  cases hd : decP H 6 true s.data.toList with
  | none =>
    rw [hd] at hD
    have LD := hid hD
    clear hD hd hH LH0 hc hk
    dsimp only
    go_enter Tryz.func22, Tryz.ntmps22
    go_wp2_with (first
      | (with_reducible refine at_op (some 9) (.load 37 (.tmp 2)) ?_
         refine wpList_load_row (o := ⟨some 9, _, _, _, _, _⟩) rfl 37 (.tmp 2) rfl w.heap.size rfl 37 _ (0, 0) _ r.out Tryz.underlying37 rfl infoRule ?_)
      | (go_at_call 24; with_reducible refine (LC.out _).mono ?_; rintro e W ⟨rfl, hB⟩
         replace r := hid (r.out.below hB r.out.lt)
         replace b := hid (below_cat hB b.out)
         replace hM := hid (hM.out.below hB)
         replace hS := hid (hS.out.below hB)
         clear hB
         try clear k0 k1 k2 k3
         have k0 := r.out.cell (j := 0) rfl
         have k1 := r.out.cell (j := 1) rfl
         have k2 := r.out.cell (j := 2) rfl
         have k3 := r.out.cell (j := 3) rfl)
      | (go_at_call 65; with_reducible refine (LH.out _).mono ?_; rintro e W ⟨rfl, hB⟩
         replace r := hid (r.out.below hB r.out.lt)
         replace b := hid (below_cat hB b.out)
         replace hM := hid (hM.out.below hB)
         replace hS := hid (hS.out.below hB)
         clear hB
         try clear k0 k1 k2 k3
         have k0 := r.out.cell (j := 0) rfl
         have k1 := r.out.cell (j := 1) rfl
         have k2 := r.out.cell (j := 2) rfl
         have k3 := r.out.cell (j := 3) rfl)
      | (go_at_call 48; with_reducible refine (LD.out _).mono ?_; rintro e W ⟨rfl, hB⟩
         replace r := hid (r.out.below hB r.out.lt)
         replace b := hid (below_cat hB b.out)
         replace hM := hid (hM.out.below hB)
         replace hS := hid (hS.out.below hB)
         clear hB
         try clear k0 k1 k2 k3
         have k0 := r.out.cell (j := 0) rfl
         have k1 := r.out.cell (j := 1) rfl
         have k2 := r.out.cell (j := 2) rfl
         have k3 := r.out.cell (j := 3) rfl))
    go_ret
    exact ⟨rfl, b.out⟩
  | some o =>
    rw [hd] at hD
    dsimp only at hD ⊢
    have hz : ((⟨o.toArray⟩ : ByteArray).size : Int) = (o.length : Int) := by show ((o.toArray.size : Nat) : Int) = _; rw [List.size_toArray]
    obtain ⟨d, hdd⟩ : ∃ d : ByteArray, d = ⟨o.toArray⟩ := ⟨_, rfl⟩
    rw [← hdd] at hD hz
    rw [← hz]
    have LD := hid hD
    clear hD hd hH LH0 hc hk hz hdd
    by_cases h0 : (d.size : Int) = mn
    · have e0 : ((d.size : Int) == mn) = true := by rw [beq_iff_eq]; exact h0
      have e1 : decide ((d.size : Int) = mn) = true := decide_eq_true h0
      rw [e1]
      clear h0 e1
      go_enter Tryz.func22, Tryz.ntmps22
      go_wp2_with (first
        | (with_reducible refine at_op (some 9) (.load 37 (.tmp 2)) ?_
           refine wpList_load_row (o := ⟨some 9, _, _, _, _, _⟩) rfl 37 (.tmp 2) rfl w.heap.size rfl 37 _ (0, 0) _ r.out Tryz.underlying37 rfl infoRule ?_)
        | (go_at_call 24; with_reducible refine (LC.out _).mono ?_; rintro e W ⟨rfl, hB⟩
           replace r := hid (r.out.below hB r.out.lt)
           replace b := hid (below_cat hB b.out)
           replace hM := hid (hM.out.below hB)
           replace hS := hid (hS.out.below hB)
           clear hB
           try clear k0 k1 k2 k3
           have k0 := r.out.cell (j := 0) rfl
           have k1 := r.out.cell (j := 1) rfl
           have k2 := r.out.cell (j := 2) rfl
           have k3 := r.out.cell (j := 3) rfl)
        | (go_at_call 65; with_reducible refine (LH.out _).mono ?_; rintro e W ⟨rfl, hB⟩
           replace r := hid (r.out.below hB r.out.lt)
           replace b := hid (below_cat hB b.out)
           replace hM := hid (hM.out.below hB)
           replace hS := hid (hS.out.below hB)
           clear hB
           try clear k0 k1 k2 k3
           have k0 := r.out.cell (j := 0) rfl
           have k1 := r.out.cell (j := 1) rfl
           have k2 := r.out.cell (j := 2) rfl
           have k3 := r.out.cell (j := 3) rfl)
        | (go_at_call 48; with_reducible refine (LD.out _).mono ?_; rintro e W ⟨rfl, hB⟩
           replace r := hid (r.out.below hB r.out.lt)
           replace b := hid (below_cat hB b.out)
           replace hM := hid (hM.out.below hB)
           replace hS := hid (hS.out.below hB)
           clear hB
           try clear k0 k1 k2 k3
           have k0 := r.out.cell (j := 0) rfl
           have k1 := r.out.cell (j := 1) rfl
           have k2 := r.out.cell (j := 2) rfl
           have k3 := r.out.cell (j := 3) rfl))
      go_ret
      exact ⟨rfl, b.out⟩
    · have e0 : ((d.size : Int) == mn) = false := by rw [beq_eq_false_iff_ne]; exact h0
      have e1 : decide ((d.size : Int) = mn) = false := decide_eq_false h0
      rw [e1]
      clear h0 e1
      go_enter Tryz.func22, Tryz.ntmps22
      go_wp2_with (first
        | (with_reducible refine at_op (some 9) (.load 37 (.tmp 2)) ?_
           refine wpList_load_row (o := ⟨some 9, _, _, _, _, _⟩) rfl 37 (.tmp 2) rfl w.heap.size rfl 37 _ (0, 0) _ r.out Tryz.underlying37 rfl infoRule ?_)
        | (go_at_call 24; with_reducible refine (LC.out _).mono ?_; rintro e W ⟨rfl, hB⟩
           replace r := hid (r.out.below hB r.out.lt)
           replace b := hid (below_cat hB b.out)
           replace hM := hid (hM.out.below hB)
           replace hS := hid (hS.out.below hB)
           clear hB
           try clear k0 k1 k2 k3
           have k0 := r.out.cell (j := 0) rfl
           have k1 := r.out.cell (j := 1) rfl
           have k2 := r.out.cell (j := 2) rfl
           have k3 := r.out.cell (j := 3) rfl)
        | (go_at_call 65; with_reducible refine (LH.out _).mono ?_; rintro e W ⟨rfl, hB⟩
           replace r := hid (r.out.below hB r.out.lt)
           replace b := hid (below_cat hB b.out)
           replace hM := hid (hM.out.below hB)
           replace hS := hid (hS.out.below hB)
           clear hB
           try clear k0 k1 k2 k3
           have k0 := r.out.cell (j := 0) rfl
           have k1 := r.out.cell (j := 1) rfl
           have k2 := r.out.cell (j := 2) rfl
           have k3 := r.out.cell (j := 3) rfl)
        | (go_at_call 48; with_reducible refine (LD.out _).mono ?_; rintro e W ⟨rfl, hB⟩
           replace r := hid (r.out.below hB r.out.lt)
           replace b := hid (below_cat hB b.out)
           replace hM := hid (hM.out.below hB)
           replace hS := hid (hS.out.below hB)
           clear hB
           try clear k0 k1 k2 k3
           have k0 := r.out.cell (j := 0) rfl
           have k1 := r.out.cell (j := 1) rfl
           have k2 := r.out.cell (j := 2) rfl
           have k3 := r.out.cell (j := 3) rfl))
      go_ret
      exact ⟨rfl, b.out⟩

set_option maxRecDepth 100000 in
set_option maxHeartbeats 4000000 in
theorem fitK3 (mn mx : Int) (a : Option Addr) (n c : Nat) (ss : List ByteArray) (s : ByteArray) (hs : s.size ≤ 1000) (w : World) (hS : IsStrs w a n ss) (hM : MaxVar w) (hc : chkN 3 mn mx n = 0) :
    Calls Tryz.prog 22 #[.agg (ruleA 3 mn mx (.slice a n c)), .string s] w fun e w' => e = .returned (.bool (kindB 3 mn mx ss s)) ∧ Below w.heap.size w w' := by
  have hk : kindB 3 mn mx ss s = idB s.data.toList := by simp [kindB]
  rw [hk]
  unfold idB
  have r := hid (RowAt.new w #[.int .i64 3, .int .i64 mn, .int .i64 mx, .slice a n c] 37)
  have b := hid (below_al (Below.refl w.heap.size w) (.cells #[.int .i64 3, .int .i64 mn, .int .i64 mx, .slice a n c] 37))
  replace hM := hid (hM.alloc (.cells #[.int .i64 3, .int .i64 mn, .int .i64 mx, .slice a n c] 37))
  replace hS := hid (hS.alloc (.cells #[.int .i64 3, .int .i64 mn, .int .i64 mx, .slice a n c] 37))
  have LC := hid (fun w => ruleCheck_any 3 mn mx a n c w)
  unfold ruleA at LC
  rw [hc] at LC
  clear hc hk
  unfold ruleA
  have hAs0 : (idA (List.replicate 16 0)).size = 16 := idA_size _
  cases hd : parseO s.data.toList with
  | none =>
    have LP := hid (fun w h => parse_no s (by omega) (parseO_none _ hd) w h)
    obtain ⟨A, hA⟩ : ∃ A, A = idA (List.replicate 16 0) := ⟨_, rfl⟩
    have hAs : A.size = 16 := by rw [hA, idA_size]
    have hA1 : A.all (·.oneCell') = true := by rw [hA]; exact idA_one _
    have hAi : (Tryz.prog.info? 23).map (·.size) = some A.size := by rw [info16, hAs]
    rw [← hA] at LP
    replace hAs := hid hAs
    replace hA1 := hid hA1
    replace hAi := hid hAi
    clear hd hA hAs0
    dsimp only
    go_enter Tryz.func22, Tryz.ntmps22
    go_wp2_with (first
      | (with_reducible refine at_op (some 9) (.load 37 (.tmp 2)) ?_
         refine wpList_load_row (o := ⟨some 9, _, _, _, _, _⟩) rfl 37 (.tmp 2) rfl w.heap.size rfl 37 _ (0, 0) _ r.out Tryz.underlying37 rfl infoRule ?_)
      | (go_at_call 24; with_reducible refine (LC.out _).mono ?_; rintro e W ⟨rfl, hB⟩
         replace r := hid (r.out.below hB r.out.lt)
         replace b := hid (below_cat hB b.out)
         replace hM := hid (hM.out.below hB)
         replace hS := hid (hS.out.below hB)
         clear hB
         try clear k0 k1 k2 k3
         have k0 := r.out.cell (j := 0) rfl
         have k1 := r.out.cell (j := 1) rfl
         have k2 := r.out.cell (j := 2) rfl
         have k3 := r.out.cell (j := 3) rfl)
      | (go_at_call 13; with_reducible refine (LP.out _ hM.out).mono ?_; rintro e W ⟨rfl, hB⟩
         replace r := hid (r.out.below hB r.out.lt)
         replace b := hid (below_cat hB b.out)
         replace hM := hid (hM.out.below hB)
         replace hS := hid (hS.out.below hB)
         clear hB
         try clear k0 k1 k2 k3
         have k0 := r.out.cell (j := 0) rfl
         have k1 := r.out.cell (j := 1) rfl
         have k2 := r.out.cell (j := 2) rfl
         have k3 := r.out.cell (j := 3) rfl)
      | (with_reducible refine at_op none (.store 23 (.tmp 5) (.tmp 43)) ?_
         refine wpList_store_row (o := ⟨none, .store _ (.tmp 5) (.tmp 43), _, _, _, _⟩) rfl 23 (.tmp 5) (.tmp 43) rfl W.heap.size A rfl rfl 23 _ (RowAt.new W _ _) hAi.out (by rw [hAs.out]; rfl) hA1.out ?_
         generalize hY : World.setRow _ _ _ = Y
         have b3 : Below w.heap.size w Y := by rw [← hY]; exact below_setRow (below_al b.out _) b.out.size _
         replace b3 := hid b3
         clear hY))
    go_ret
    exact ⟨rfl, b3.out⟩
  | some l =>
    obtain ⟨hl, hsl⟩ := (parseO_some _ _).1 hd
    have LP := hid (fun w h => parse_yes s l hl hsl w h)
    have LZ := hid (fun w => zero_id l hl w)
    obtain ⟨A, hA⟩ : ∃ A, A = idA l := ⟨_, rfl⟩
    have hAs : A.size = 16 := by rw [hA, idA_size]
    have hA1 : A.all (·.oneCell') = true := by rw [hA]; exact idA_one _
    have hAi : (Tryz.prog.info? 23).map (·.size) = some A.size := by rw [info16, hAs]
    rw [← hA] at LP LZ
    obtain ⟨z, hz⟩ : ∃ z, z = (l == List.replicate 16 0) := ⟨_, rfl⟩
    dsimp only
    rw [← hz] at LZ ⊢
    replace hAs := hid hAs
    replace hA1 := hid hA1
    replace hAi := hid hAi
    clear hd hA hAs0 hl hsl hz
    go_enter Tryz.func22, Tryz.ntmps22
    go_wp2_with (first
      | (with_reducible refine at_op (some 9) (.load 37 (.tmp 2)) ?_
         refine wpList_load_row (o := ⟨some 9, _, _, _, _, _⟩) rfl 37 (.tmp 2) rfl w.heap.size rfl 37 _ (0, 0) _ r.out Tryz.underlying37 rfl infoRule ?_)
      | (go_at_call 24; with_reducible refine (LC.out _).mono ?_; rintro e W ⟨rfl, hB⟩
         replace r := hid (r.out.below hB r.out.lt)
         replace b := hid (below_cat hB b.out)
         replace hM := hid (hM.out.below hB)
         replace hS := hid (hS.out.below hB)
         clear hB
         try clear k0 k1 k2 k3
         have k0 := r.out.cell (j := 0) rfl
         have k1 := r.out.cell (j := 1) rfl
         have k2 := r.out.cell (j := 2) rfl
         have k3 := r.out.cell (j := 3) rfl)
      | (go_at_call 13; with_reducible refine (LP.out _ hM.out).mono ?_; rintro e W ⟨rfl, hB⟩
         replace r := hid (r.out.below hB r.out.lt)
         replace b := hid (below_cat hB b.out)
         replace hM := hid (hM.out.below hB)
         replace hS := hid (hS.out.below hB)
         clear hB
         try clear k0 k1 k2 k3
         have k0 := r.out.cell (j := 0) rfl
         have k1 := r.out.cell (j := 1) rfl
         have k2 := r.out.cell (j := 2) rfl
         have k3 := r.out.cell (j := 3) rfl)
      | (with_reducible refine at_op none (.store 23 (.tmp 5) (.tmp 43)) ?_
         refine wpList_store_row (o := ⟨none, .store _ (.tmp 5) (.tmp 43), _, _, _, _⟩) rfl 23 (.tmp 5) (.tmp 43) rfl W.heap.size A rfl rfl 23 _ (RowAt.new W _ _) hAi.out (by rw [hAs.out]; rfl) hA1.out ?_
         generalize hY : World.setRow _ _ _ = Y
         have b3 : Below w.heap.size w Y := by rw [← hY]; exact below_setRow (below_al b.out _) b.out.size _
         have r3 : RowAt Y W.heap.size 23 A := by rw [← hY]; exact (RowAt.new W _ _).setRow A
         generalize W.heap.size = g at r3 ⊢
         replace b3 := hid b3
         replace r3 := hid r3
         clear hY)
      | (with_reducible refine at_op (some 48) (.load 23 (.tmp 5)) ?_
         refine wpList_load_rowG rfl 23 (.tmp 5) rfl g rfl 23 A _ r3.out Tryz.underlying23 rfl hAi.out ?_)
      | (go_at_call 16; with_reducible refine (LZ.out _).mono ?_; rintro e w5 ⟨rfl, hB5⟩))
    go_ret
    exact ⟨rfl, below_cat hB5 b3.out⟩

theorem empty_facts (s : ByteArray) (h : s.size = 0) : s.toList = [] := by
  rw [ByteArray.toList_eq]; exact List.eq_nil_of_length_eq_zero (by simpa using h)
theorem some_facts (s : ByteArray) (h : s.size ≠ 0) : (s.toList == []) = false ∧ s.toList.isEmpty = false := by
  have h1 := toList_empty (s := s) (by omega)
  refine ⟨?_, h1⟩
  rw [beq_eq_false_iff_ne]; intro e; rw [e] at h1; cases h1

set_option maxRecDepth 100000 in
set_option maxHeartbeats 4000000 in
theorem fitK1 (mn mx : Int) (a : Option Addr) (n c : Nat) (ss : List ByteArray) (s : ByteArray) (hs : s.size ≤ 1000) (w : World) (hS : IsStrs w a n ss) (hM : MaxVar w) (hc : chkN 1 mn mx n = 0) :
    Calls Tryz.prog 22 #[.agg (ruleA 1 mn mx (.slice a n c)), .string s] w fun e w' => e = .returned (.bool (kindB 1 mn mx ss s)) ∧ Below w.heap.size w w' := by
  have LW := hid (fun w => ruleWithin_any 1 mn mx (.slice a n c) (s.size : Int) w)
  have LN := hid (fun w => is_any s (by omega) w)
  have r := hid (RowAt.new w #[.int .i64 1, .int .i64 mn, .int .i64 mx, .slice a n c] 37)
  have b := hid (below_al (Below.refl w.heap.size w) (.cells #[.int .i64 1, .int .i64 mn, .int .i64 mx, .slice a n c] 37))
  replace hM := hid (hM.alloc (.cells #[.int .i64 1, .int .i64 mn, .int .i64 mx, .slice a n c] 37))
  replace hS := hid (hS.alloc (.cells #[.int .i64 1, .int .i64 mn, .int .i64 mx, .slice a n c] 37))
  have LC := hid (fun w => ruleCheck_any 1 mn mx a n c w)
  unfold ruleA at LC
  unfold ruleA at LW
  rw [hc] at LC
  clear hc
  unfold ruleA
  by_cases hin : (decide (mn ≤ (s.size : Int)) && decide ((s.size : Int) ≤ mx)) = true
  · rw [hin] at LW
    by_cases h0 : s.size = 0
    · have he := empty_facts s h0
      have hf : kindB 1 mn mx ss s = true := by unfold kindB inB; rw [hin]; simp [h0]
      rw [hf]
      clear hf hin
      replace h0 := hid h0
      go_enter Tryz.func22, Tryz.ntmps22
      go_wp2_with (first
        | (with_reducible refine at_op (some 9) (.load 37 (.tmp 2)) ?_
           refine wpList_load_row (o := ⟨some 9, _, _, _, _, _⟩) rfl 37 (.tmp 2) rfl w.heap.size rfl 37 _ (0, 0) _ r.out Tryz.underlying37 rfl infoRule ?_)
        | (with_reducible refine at_op (some 16) (.load 37 (.tmp 2)) ?_
           refine wpList_load_row (o := ⟨some 16, _, _, _, _, _⟩) rfl 37 (.tmp 2) rfl w.heap.size rfl 37 _ (0, 0) _ r.out Tryz.underlying37 rfl infoRule ?_)
        | (go_at_call 24; with_reducible refine (LC.out _).mono ?_; rintro e W ⟨rfl, hB⟩
           replace r := hid (r.out.below hB r.out.lt)
           replace b := hid (below_cat hB b.out)
           replace hM := hid (hM.out.below hB)
           replace hS := hid (hS.out.below hB)
           clear hB
           try clear k0 k1 k2 k3
           have k0 := r.out.cell (j := 0) rfl
           have k1 := r.out.cell (j := 1) rfl
           have k2 := r.out.cell (j := 2) rfl
           have k3 := r.out.cell (j := 3) rfl)
        | (go_at_call 59; with_reducible refine (LW.out _).mono ?_; rintro e W ⟨rfl, hB⟩
           replace r := hid (r.out.below hB r.out.lt)
           replace b := hid (below_cat hB b.out)
           replace hM := hid (hM.out.below hB)
           replace hS := hid (hS.out.below hB)
           clear hB
           try clear k0 k1 k2 k3
           have k0 := r.out.cell (j := 0) rfl
           have k1 := r.out.cell (j := 1) rfl
           have k2 := r.out.cell (j := 2) rfl
           have k3 := r.out.cell (j := 3) rfl))
      go_ret
      exact ⟨rfl, b.out⟩
    · obtain ⟨he1, he2⟩ := some_facts s h0
      cases hn : isNum s.data.toList with
      | false =>
        rw [hn] at LN
        have hf : kindB 1 mn mx ss s = false := by unfold kindB; rw [hn]; simp [h0]
        rw [hf]
        clear hf hin hn
        replace h0 := hid h0
        go_enter Tryz.func22, Tryz.ntmps22
        go_wp2_with (first
          | (with_reducible refine at_op (some 9) (.load 37 (.tmp 2)) ?_
             refine wpList_load_row (o := ⟨some 9, _, _, _, _, _⟩) rfl 37 (.tmp 2) rfl w.heap.size rfl 37 _ (0, 0) _ r.out Tryz.underlying37 rfl infoRule ?_)
          | (with_reducible refine at_op (some 16) (.load 37 (.tmp 2)) ?_
             refine wpList_load_row (o := ⟨some 16, _, _, _, _, _⟩) rfl 37 (.tmp 2) rfl w.heap.size rfl 37 _ (0, 0) _ r.out Tryz.underlying37 rfl infoRule ?_)
          | (go_at_call 24; with_reducible refine (LC.out _).mono ?_; rintro e W ⟨rfl, hB⟩
             replace r := hid (r.out.below hB r.out.lt)
             replace b := hid (below_cat hB b.out)
             replace hM := hid (hM.out.below hB)
             replace hS := hid (hS.out.below hB)
             clear hB
             try clear k0 k1 k2 k3
             have k0 := r.out.cell (j := 0) rfl
             have k1 := r.out.cell (j := 1) rfl
             have k2 := r.out.cell (j := 2) rfl
             have k3 := r.out.cell (j := 3) rfl)
          | (go_at_call 59; with_reducible refine (LW.out _).mono ?_; rintro e W ⟨rfl, hB⟩
             replace r := hid (r.out.below hB r.out.lt)
             replace b := hid (below_cat hB b.out)
             replace hM := hid (hM.out.below hB)
             replace hS := hid (hS.out.below hB)
             clear hB
             try clear k0 k1 k2 k3
             have k0 := r.out.cell (j := 0) rfl
             have k1 := r.out.cell (j := 1) rfl
             have k2 := r.out.cell (j := 2) rfl
             have k3 := r.out.cell (j := 3) rfl)
          | (go_at_call 60; with_reducible refine (LN.out _).mono ?_; rintro e W ⟨rfl, hB⟩
             replace r := hid (r.out.below hB r.out.lt)
             replace b := hid (below_cat hB b.out)
             replace hM := hid (hM.out.below hB)
             replace hS := hid (hS.out.below hB)
             clear hB
             try clear k0 k1 k2 k3
             have k0 := r.out.cell (j := 0) rfl
             have k1 := r.out.cell (j := 1) rfl
             have k2 := r.out.cell (j := 2) rfl
             have k3 := r.out.cell (j := 3) rfl))
        go_ret
        exact ⟨rfl, b.out⟩
      | true =>
        rw [hn] at LN
        have hf : kindB 1 mn mx ss s = true := by unfold kindB inB; rw [hin, hn]; simp [h0]
        rw [hf]
        clear hf hin hn
        replace h0 := hid h0
        go_enter Tryz.func22, Tryz.ntmps22
        go_wp2_with (first
          | (with_reducible refine at_op (some 9) (.load 37 (.tmp 2)) ?_
             refine wpList_load_row (o := ⟨some 9, _, _, _, _, _⟩) rfl 37 (.tmp 2) rfl w.heap.size rfl 37 _ (0, 0) _ r.out Tryz.underlying37 rfl infoRule ?_)
          | (with_reducible refine at_op (some 16) (.load 37 (.tmp 2)) ?_
             refine wpList_load_row (o := ⟨some 16, _, _, _, _, _⟩) rfl 37 (.tmp 2) rfl w.heap.size rfl 37 _ (0, 0) _ r.out Tryz.underlying37 rfl infoRule ?_)
          | (go_at_call 24; with_reducible refine (LC.out _).mono ?_; rintro e W ⟨rfl, hB⟩
             replace r := hid (r.out.below hB r.out.lt)
             replace b := hid (below_cat hB b.out)
             replace hM := hid (hM.out.below hB)
             replace hS := hid (hS.out.below hB)
             clear hB
             try clear k0 k1 k2 k3
             have k0 := r.out.cell (j := 0) rfl
             have k1 := r.out.cell (j := 1) rfl
             have k2 := r.out.cell (j := 2) rfl
             have k3 := r.out.cell (j := 3) rfl)
          | (go_at_call 59; with_reducible refine (LW.out _).mono ?_; rintro e W ⟨rfl, hB⟩
             replace r := hid (r.out.below hB r.out.lt)
             replace b := hid (below_cat hB b.out)
             replace hM := hid (hM.out.below hB)
             replace hS := hid (hS.out.below hB)
             clear hB
             try clear k0 k1 k2 k3
             have k0 := r.out.cell (j := 0) rfl
             have k1 := r.out.cell (j := 1) rfl
             have k2 := r.out.cell (j := 2) rfl
             have k3 := r.out.cell (j := 3) rfl)
          | (go_at_call 60; with_reducible refine (LN.out _).mono ?_; rintro e W ⟨rfl, hB⟩
             replace r := hid (r.out.below hB r.out.lt)
             replace b := hid (below_cat hB b.out)
             replace hM := hid (hM.out.below hB)
             replace hS := hid (hS.out.below hB)
             clear hB
             try clear k0 k1 k2 k3
             have k0 := r.out.cell (j := 0) rfl
             have k1 := r.out.cell (j := 1) rfl
             have k2 := r.out.cell (j := 2) rfl
             have k3 := r.out.cell (j := 3) rfl))
        go_ret
        exact ⟨rfl, b.out⟩
  · have hin' := Bool.eq_false_iff.2 hin
    rw [hin'] at LW
    have hf : kindB 1 mn mx ss s = false := by unfold kindB inB; rw [hin']; simp
    rw [hf]
    clear hf hin hin'
    go_enter Tryz.func22, Tryz.ntmps22
    go_wp2_with (first
      | (with_reducible refine at_op (some 9) (.load 37 (.tmp 2)) ?_
         refine wpList_load_row (o := ⟨some 9, _, _, _, _, _⟩) rfl 37 (.tmp 2) rfl w.heap.size rfl 37 _ (0, 0) _ r.out Tryz.underlying37 rfl infoRule ?_)
      | (with_reducible refine at_op (some 16) (.load 37 (.tmp 2)) ?_
         refine wpList_load_row (o := ⟨some 16, _, _, _, _, _⟩) rfl 37 (.tmp 2) rfl w.heap.size rfl 37 _ (0, 0) _ r.out Tryz.underlying37 rfl infoRule ?_)
      | (go_at_call 24; with_reducible refine (LC.out _).mono ?_; rintro e W ⟨rfl, hB⟩
         replace r := hid (r.out.below hB r.out.lt)
         replace b := hid (below_cat hB b.out)
         replace hM := hid (hM.out.below hB)
         replace hS := hid (hS.out.below hB)
         clear hB
         try clear k0 k1 k2 k3
         have k0 := r.out.cell (j := 0) rfl
         have k1 := r.out.cell (j := 1) rfl
         have k2 := r.out.cell (j := 2) rfl
         have k3 := r.out.cell (j := 3) rfl)
      | (go_at_call 59; with_reducible refine (LW.out _).mono ?_; rintro e W ⟨rfl, hB⟩
         replace r := hid (r.out.below hB r.out.lt)
         replace b := hid (below_cat hB b.out)
         replace hM := hid (hM.out.below hB)
         replace hS := hid (hS.out.below hB)
         clear hB
         try clear k0 k1 k2 k3
         have k0 := r.out.cell (j := 0) rfl
         have k1 := r.out.cell (j := 1) rfl
         have k2 := r.out.cell (j := 2) rfl
         have k3 := r.out.cell (j := 3) rfl))
    go_ret
    exact ⟨rfl, b.out⟩

set_option maxRecDepth 100000 in
set_option maxHeartbeats 4000000 in
theorem fitK8 (mn mx : Int) (a : Option Addr) (n c : Nat) (ss : List ByteArray) (s : ByteArray) (hs : s.size ≤ 1000) (w : World) (hS : IsStrs w a n ss) (hM : MaxVar w) (hc : chkN 8 mn mx n = 0) :
    Calls Tryz.prog 22 #[.agg (ruleA 8 mn mx (.slice a n c)), .string s] w fun e w' => e = .returned (.bool (kindB 8 mn mx ss s)) ∧ Below w.heap.size w w' := by
  have LW := hid (fun w => ruleWithin_any 8 mn mx (.slice a n c) (s.size : Int) w)
  have LN := hid (fun w => is_any s (by omega) w)
  have r := hid (RowAt.new w #[.int .i64 8, .int .i64 mn, .int .i64 mx, .slice a n c] 37)
  have b := hid (below_al (Below.refl w.heap.size w) (.cells #[.int .i64 8, .int .i64 mn, .int .i64 mx, .slice a n c] 37))
  replace hM := hid (hM.alloc (.cells #[.int .i64 8, .int .i64 mn, .int .i64 mx, .slice a n c] 37))
  replace hS := hid (hS.alloc (.cells #[.int .i64 8, .int .i64 mn, .int .i64 mx, .slice a n c] 37))
  have LC := hid (fun w => ruleCheck_any 8 mn mx a n c w)
  unfold ruleA at LC
  unfold ruleA at LW
  rw [hc] at LC
  clear hc
  unfold ruleA
  by_cases hin : (decide (mn ≤ (s.size : Int)) && decide ((s.size : Int) ≤ mx)) = true
  · rw [hin] at LW
    by_cases h0 : s.size = 0
    · have he := empty_facts s h0
      have hf : kindB 8 mn mx ss s = true := by unfold kindB inB; rw [hin]; simp [h0]
      rw [hf]
      clear hf hin
      replace h0 := hid h0
      go_enter Tryz.func22, Tryz.ntmps22
      go_wp2_with (first
        | (with_reducible refine at_op (some 9) (.load 37 (.tmp 2)) ?_
           refine wpList_load_row (o := ⟨some 9, _, _, _, _, _⟩) rfl 37 (.tmp 2) rfl w.heap.size rfl 37 _ (0, 0) _ r.out Tryz.underlying37 rfl infoRule ?_)
        | (with_reducible refine at_op (some 85) (.load 37 (.tmp 2)) ?_
           refine wpList_load_row (o := ⟨some 85, _, _, _, _, _⟩) rfl 37 (.tmp 2) rfl w.heap.size rfl 37 _ (0, 0) _ r.out Tryz.underlying37 rfl infoRule ?_)
        | (go_at_call 24; with_reducible refine (LC.out _).mono ?_; rintro e W ⟨rfl, hB⟩
           replace r := hid (r.out.below hB r.out.lt)
           replace b := hid (below_cat hB b.out)
           replace hM := hid (hM.out.below hB)
           replace hS := hid (hS.out.below hB)
           clear hB
           try clear k0 k1 k2 k3
           have k0 := r.out.cell (j := 0) rfl
           have k1 := r.out.cell (j := 1) rfl
           have k2 := r.out.cell (j := 2) rfl
           have k3 := r.out.cell (j := 3) rfl)
        | (go_at_call 59; with_reducible refine (LW.out _).mono ?_; rintro e W ⟨rfl, hB⟩
           replace r := hid (r.out.below hB r.out.lt)
           replace b := hid (below_cat hB b.out)
           replace hM := hid (hM.out.below hB)
           replace hS := hid (hS.out.below hB)
           clear hB
           try clear k0 k1 k2 k3
           have k0 := r.out.cell (j := 0) rfl
           have k1 := r.out.cell (j := 1) rfl
           have k2 := r.out.cell (j := 2) rfl
           have k3 := r.out.cell (j := 3) rfl))
      go_ret
      exact ⟨rfl, b.out⟩
    · obtain ⟨he1, he2⟩ := some_facts s h0
      cases hn : isNum s.data.toList with
      | false =>
        rw [hn] at LN
        have hf : kindB 8 mn mx ss s = false := by unfold kindB; rw [hn]; simp [h0]
        rw [hf]
        clear hf hin hn
        replace h0 := hid h0
        go_enter Tryz.func22, Tryz.ntmps22
        go_wp2_with (first
          | (with_reducible refine at_op (some 9) (.load 37 (.tmp 2)) ?_
             refine wpList_load_row (o := ⟨some 9, _, _, _, _, _⟩) rfl 37 (.tmp 2) rfl w.heap.size rfl 37 _ (0, 0) _ r.out Tryz.underlying37 rfl infoRule ?_)
          | (with_reducible refine at_op (some 85) (.load 37 (.tmp 2)) ?_
             refine wpList_load_row (o := ⟨some 85, _, _, _, _, _⟩) rfl 37 (.tmp 2) rfl w.heap.size rfl 37 _ (0, 0) _ r.out Tryz.underlying37 rfl infoRule ?_)
          | (go_at_call 24; with_reducible refine (LC.out _).mono ?_; rintro e W ⟨rfl, hB⟩
             replace r := hid (r.out.below hB r.out.lt)
             replace b := hid (below_cat hB b.out)
             replace hM := hid (hM.out.below hB)
             replace hS := hid (hS.out.below hB)
             clear hB
             try clear k0 k1 k2 k3
             have k0 := r.out.cell (j := 0) rfl
             have k1 := r.out.cell (j := 1) rfl
             have k2 := r.out.cell (j := 2) rfl
             have k3 := r.out.cell (j := 3) rfl)
          | (go_at_call 59; with_reducible refine (LW.out _).mono ?_; rintro e W ⟨rfl, hB⟩
             replace r := hid (r.out.below hB r.out.lt)
             replace b := hid (below_cat hB b.out)
             replace hM := hid (hM.out.below hB)
             replace hS := hid (hS.out.below hB)
             clear hB
             try clear k0 k1 k2 k3
             have k0 := r.out.cell (j := 0) rfl
             have k1 := r.out.cell (j := 1) rfl
             have k2 := r.out.cell (j := 2) rfl
             have k3 := r.out.cell (j := 3) rfl)
          | (go_at_call 60; with_reducible refine (LN.out _).mono ?_; rintro e W ⟨rfl, hB⟩
             replace r := hid (r.out.below hB r.out.lt)
             replace b := hid (below_cat hB b.out)
             replace hM := hid (hM.out.below hB)
             replace hS := hid (hS.out.below hB)
             clear hB
             try clear k0 k1 k2 k3
             have k0 := r.out.cell (j := 0) rfl
             have k1 := r.out.cell (j := 1) rfl
             have k2 := r.out.cell (j := 2) rfl
             have k3 := r.out.cell (j := 3) rfl))
        go_ret
        exact ⟨rfl, b.out⟩
      | true =>
        rw [hn] at LN
        by_cases h1 : s.size = 1
        · have e1 : ((s.size : Int) == 1) = true := by rw [beq_iff_eq]; omega
          have hf : kindB 8 mn mx ss s = true := by unfold kindB inB; rw [hin, hn]; simp [h1]
          rw [hf]
          clear hf hin hn h1
          replace h0 := hid h0
          go_enter Tryz.func22, Tryz.ntmps22
          go_wp2_with (first
            | (with_reducible refine at_op (some 9) (.load 37 (.tmp 2)) ?_
               refine wpList_load_row (o := ⟨some 9, _, _, _, _, _⟩) rfl 37 (.tmp 2) rfl w.heap.size rfl 37 _ (0, 0) _ r.out Tryz.underlying37 rfl infoRule ?_)
            | (with_reducible refine at_op (some 85) (.load 37 (.tmp 2)) ?_
               refine wpList_load_row (o := ⟨some 85, _, _, _, _, _⟩) rfl 37 (.tmp 2) rfl w.heap.size rfl 37 _ (0, 0) _ r.out Tryz.underlying37 rfl infoRule ?_)
            | (go_at_call 24; with_reducible refine (LC.out _).mono ?_; rintro e W ⟨rfl, hB⟩
               replace r := hid (r.out.below hB r.out.lt)
               replace b := hid (below_cat hB b.out)
               replace hM := hid (hM.out.below hB)
               replace hS := hid (hS.out.below hB)
               clear hB
               try clear k0 k1 k2 k3
               have k0 := r.out.cell (j := 0) rfl
               have k1 := r.out.cell (j := 1) rfl
               have k2 := r.out.cell (j := 2) rfl
               have k3 := r.out.cell (j := 3) rfl)
            | (go_at_call 59; with_reducible refine (LW.out _).mono ?_; rintro e W ⟨rfl, hB⟩
               replace r := hid (r.out.below hB r.out.lt)
               replace b := hid (below_cat hB b.out)
               replace hM := hid (hM.out.below hB)
               replace hS := hid (hS.out.below hB)
               clear hB
               try clear k0 k1 k2 k3
               have k0 := r.out.cell (j := 0) rfl
               have k1 := r.out.cell (j := 1) rfl
               have k2 := r.out.cell (j := 2) rfl
               have k3 := r.out.cell (j := 3) rfl)
            | (go_at_call 60; with_reducible refine (LN.out _).mono ?_; rintro e W ⟨rfl, hB⟩
               replace r := hid (r.out.below hB r.out.lt)
               replace b := hid (below_cat hB b.out)
               replace hM := hid (hM.out.below hB)
               replace hS := hid (hS.out.below hB)
               clear hB
               try clear k0 k1 k2 k3
               have k0 := r.out.cell (j := 0) rfl
               have k1 := r.out.cell (j := 1) rfl
               have k2 := r.out.cell (j := 2) rfl
               have k3 := r.out.cell (j := 3) rfl))
          go_ret
          exact ⟨rfl, b.out⟩
        · have e1 : ((s.size : Int) == 1) = false := by rw [beq_eq_false_iff_ne]; omega
          have k0 : 0 < s.size := by omega
          have hg : s.data.toList.getD 0 0 = s[0] := by
            rw [List.getD_eq_getElem?_getD, Array.getElem?_toList, Array.getElem?_eq_getElem (show 0 < s.data.size from k0)]; rfl
          by_cases h4 : s[0].toNat = 48
          · have hg2 : s.data.toList.getD 0 0 = 48 := by rw [hg, ← UInt8.toNat_inj, h4]; rfl
            have hf : kindB 8 mn mx ss s = false := by unfold kindB; rw [hn, hg2]; simp [h0, h1]
            rw [hf]
            clear hf hin hn h1 hg hg2
            replace h0 := hid h0
            go_enter Tryz.func22, Tryz.ntmps22
            go_wp2_with (first
              | (with_reducible refine at_op (some 9) (.load 37 (.tmp 2)) ?_
                 refine wpList_load_row (o := ⟨some 9, _, _, _, _, _⟩) rfl 37 (.tmp 2) rfl w.heap.size rfl 37 _ (0, 0) _ r.out Tryz.underlying37 rfl infoRule ?_)
              | (with_reducible refine at_op (some 85) (.load 37 (.tmp 2)) ?_
                 refine wpList_load_row (o := ⟨some 85, _, _, _, _, _⟩) rfl 37 (.tmp 2) rfl w.heap.size rfl 37 _ (0, 0) _ r.out Tryz.underlying37 rfl infoRule ?_)
              | (go_at_call 24; with_reducible refine (LC.out _).mono ?_; rintro e W ⟨rfl, hB⟩
                 replace r := hid (r.out.below hB r.out.lt)
                 replace b := hid (below_cat hB b.out)
                 replace hM := hid (hM.out.below hB)
                 replace hS := hid (hS.out.below hB)
                 clear hB
                 try clear k0 k1 k2 k3
                 have k0 := r.out.cell (j := 0) rfl
                 have k1 := r.out.cell (j := 1) rfl
                 have k2 := r.out.cell (j := 2) rfl
                 have k3 := r.out.cell (j := 3) rfl)
              | (go_at_call 59; with_reducible refine (LW.out _).mono ?_; rintro e W ⟨rfl, hB⟩
                 replace r := hid (r.out.below hB r.out.lt)
                 replace b := hid (below_cat hB b.out)
                 replace hM := hid (hM.out.below hB)
                 replace hS := hid (hS.out.below hB)
                 clear hB
                 try clear k0 k1 k2 k3
                 have k0 := r.out.cell (j := 0) rfl
                 have k1 := r.out.cell (j := 1) rfl
                 have k2 := r.out.cell (j := 2) rfl
                 have k3 := r.out.cell (j := 3) rfl)
              | (go_at_call 60; with_reducible refine (LN.out _).mono ?_; rintro e W ⟨rfl, hB⟩
                 replace r := hid (r.out.below hB r.out.lt)
                 replace b := hid (below_cat hB b.out)
                 replace hM := hid (hM.out.below hB)
                 replace hS := hid (hS.out.below hB)
                 clear hB
                 try clear k0 k1 k2 k3
                 have k0 := r.out.cell (j := 0) rfl
                 have k1 := r.out.cell (j := 1) rfl
                 have k2 := r.out.cell (j := 2) rfl
                 have k3 := r.out.cell (j := 3) rfl))
            go_ret
            exact ⟨rfl, b.out⟩
          · have hg2 : s.data.toList.getD 0 0 ≠ 48 := by rw [hg, ne_eq, ← UInt8.toNat_inj]; exact h4
            have e4 : ((s[0].toNat : Int) != 48) = true := by rw [bne_iff_ne]; omega
            have hf : kindB 8 mn mx ss s = true := by unfold kindB inB; rw [hin, hn, decide_eq_false hg2]; simp [h0, h1]
            rw [hf]
            clear hf hin hn h1 hg hg2 h4
            replace h0 := hid h0
            go_enter Tryz.func22, Tryz.ntmps22
            go_wp2_with (first
              | (with_reducible refine at_op (some 9) (.load 37 (.tmp 2)) ?_
                 refine wpList_load_row (o := ⟨some 9, _, _, _, _, _⟩) rfl 37 (.tmp 2) rfl w.heap.size rfl 37 _ (0, 0) _ r.out Tryz.underlying37 rfl infoRule ?_)
              | (with_reducible refine at_op (some 85) (.load 37 (.tmp 2)) ?_
                 refine wpList_load_row (o := ⟨some 85, _, _, _, _, _⟩) rfl 37 (.tmp 2) rfl w.heap.size rfl 37 _ (0, 0) _ r.out Tryz.underlying37 rfl infoRule ?_)
              | (go_at_call 24; with_reducible refine (LC.out _).mono ?_; rintro e W ⟨rfl, hB⟩
                 replace r := hid (r.out.below hB r.out.lt)
                 replace b := hid (below_cat hB b.out)
                 replace hM := hid (hM.out.below hB)
                 replace hS := hid (hS.out.below hB)
                 clear hB
                 try clear k0 k1 k2 k3
                 have k0 := r.out.cell (j := 0) rfl
                 have k1 := r.out.cell (j := 1) rfl
                 have k2 := r.out.cell (j := 2) rfl
                 have k3 := r.out.cell (j := 3) rfl)
              | (go_at_call 59; with_reducible refine (LW.out _).mono ?_; rintro e W ⟨rfl, hB⟩
                 replace r := hid (r.out.below hB r.out.lt)
                 replace b := hid (below_cat hB b.out)
                 replace hM := hid (hM.out.below hB)
                 replace hS := hid (hS.out.below hB)
                 clear hB
                 try clear k0 k1 k2 k3
                 have k0 := r.out.cell (j := 0) rfl
                 have k1 := r.out.cell (j := 1) rfl
                 have k2 := r.out.cell (j := 2) rfl
                 have k3 := r.out.cell (j := 3) rfl)
              | (go_at_call 60; with_reducible refine (LN.out _).mono ?_; rintro e W ⟨rfl, hB⟩
                 replace r := hid (r.out.below hB r.out.lt)
                 replace b := hid (below_cat hB b.out)
                 replace hM := hid (hM.out.below hB)
                 replace hS := hid (hS.out.below hB)
                 clear hB
                 try clear k0 k1 k2 k3
                 have k0 := r.out.cell (j := 0) rfl
                 have k1 := r.out.cell (j := 1) rfl
                 have k2 := r.out.cell (j := 2) rfl
                 have k3 := r.out.cell (j := 3) rfl))
            go_ret
            exact ⟨rfl, b.out⟩
  · have hin' := Bool.eq_false_iff.2 hin
    rw [hin'] at LW
    have hf : kindB 8 mn mx ss s = false := by unfold kindB inB; rw [hin']; simp
    rw [hf]
    clear hf hin hin'
    go_enter Tryz.func22, Tryz.ntmps22
    go_wp2_with (first
      | (with_reducible refine at_op (some 9) (.load 37 (.tmp 2)) ?_
         refine wpList_load_row (o := ⟨some 9, _, _, _, _, _⟩) rfl 37 (.tmp 2) rfl w.heap.size rfl 37 _ (0, 0) _ r.out Tryz.underlying37 rfl infoRule ?_)
      | (with_reducible refine at_op (some 85) (.load 37 (.tmp 2)) ?_
         refine wpList_load_row (o := ⟨some 85, _, _, _, _, _⟩) rfl 37 (.tmp 2) rfl w.heap.size rfl 37 _ (0, 0) _ r.out Tryz.underlying37 rfl infoRule ?_)
      | (go_at_call 24; with_reducible refine (LC.out _).mono ?_; rintro e W ⟨rfl, hB⟩
         replace r := hid (r.out.below hB r.out.lt)
         replace b := hid (below_cat hB b.out)
         replace hM := hid (hM.out.below hB)
         replace hS := hid (hS.out.below hB)
         clear hB
         try clear k0 k1 k2 k3
         have k0 := r.out.cell (j := 0) rfl
         have k1 := r.out.cell (j := 1) rfl
         have k2 := r.out.cell (j := 2) rfl
         have k3 := r.out.cell (j := 3) rfl)
      | (go_at_call 59; with_reducible refine (LW.out _).mono ?_; rintro e W ⟨rfl, hB⟩
         replace r := hid (r.out.below hB r.out.lt)
         replace b := hid (below_cat hB b.out)
         replace hM := hid (hM.out.below hB)
         replace hS := hid (hS.out.below hB)
         clear hB
         try clear k0 k1 k2 k3
         have k0 := r.out.cell (j := 0) rfl
         have k1 := r.out.cell (j := 1) rfl
         have k2 := r.out.cell (j := 2) rfl
         have k3 := r.out.cell (j := 3) rfl))
    go_ret
    exact ⟨rfl, b.out⟩

set_option maxRecDepth 100000 in
set_option maxHeartbeats 4000000 in
theorem fitK2 (mn mx : Int) (a : Option Addr) (n c : Nat) (ss : List ByteArray) (s : ByteArray) (hs : s.size ≤ 1000) (w : World) (hS : IsStrs w a n ss) (hM : MaxVar w) (hc : chkN 2 mn mx n = 0) :
    Calls Tryz.prog 22 #[.agg (ruleA 2 mn mx (.slice a n c)), .string s] w fun e w' => e = .returned (.bool (kindB 2 mn mx ss s)) ∧ Below w.heap.size w w' := by
  have LS := fun w => shown_any s (by omega) w
  have LK := fun w => count_any s (by omega) w
  obtain ⟨u, hu⟩ : ∃ u, u = (runesN s.data.toList).length := ⟨_, rfl⟩
  rw [← hu] at LK
  have LW := fun w => ruleWithin_any 2 mn mx (.slice a n c) (u : Int) w
  have hk : kindB 2 mn mx ss s = (shownB s && (decide (mn ≤ (u : Int)) && decide ((u : Int) ≤ mx))) := by simp [kindB, inB, hu]
  rw [hk]
  obtain ⟨z, hz⟩ : ∃ z, z = (decide (mn ≤ (u : Int)) && decide ((u : Int) ≤ mx)) := ⟨_, rfl⟩
  obtain ⟨y, hy⟩ : ∃ z, z = shownB s := ⟨_, rfl⟩
  rw [← hz] at LW ⊢
  rw [← hy] at LS ⊢
  replace LS := hid LS
  replace LK := hid LK
  have r := hid (RowAt.new w #[.int .i64 2, .int .i64 mn, .int .i64 mx, .slice a n c] 37)
  have b := hid (below_al (Below.refl w.heap.size w) (.cells #[.int .i64 2, .int .i64 mn, .int .i64 mx, .slice a n c] 37))
  replace hM := hid (hM.alloc (.cells #[.int .i64 2, .int .i64 mn, .int .i64 mx, .slice a n c] 37))
  replace hS := hid (hS.alloc (.cells #[.int .i64 2, .int .i64 mn, .int .i64 mx, .slice a n c] 37))
  have LC := hid (fun w => ruleCheck_any 2 mn mx a n c w)
  unfold ruleA at LC
  unfold ruleA at LW
  replace LW := hid LW
  rw [hc] at LC
  clear hc hk hu hz hy
  unfold ruleA
  cases y
  all_goals
    go_enter Tryz.func22, Tryz.ntmps22
    go_wp2_with (first
      | (with_reducible refine at_op (some 9) (.load 37 (.tmp 2)) ?_
         refine wpList_load_row (o := ⟨some 9, _, _, _, _, _⟩) rfl 37 (.tmp 2) rfl w.heap.size rfl 37 _ (0, 0) _ r.out Tryz.underlying37 rfl infoRule ?_)
      | (go_at_call 24; with_reducible refine (LC.out _).mono ?_; rintro e W ⟨rfl, hB⟩
         replace r := hid (r.out.below hB r.out.lt)
         replace b := hid (below_cat hB b.out)
         replace hM := hid (hM.out.below hB)
         replace hS := hid (hS.out.below hB)
         clear hB
         try clear k0 k1 k2 k3
         have k0 := r.out.cell (j := 0) rfl
         have k1 := r.out.cell (j := 1) rfl
         have k2 := r.out.cell (j := 2) rfl
         have k3 := r.out.cell (j := 3) rfl))
    have q1 := fun q : Sub W => loadAt_row (r.out.below q.h r.out.lt) 37 _ Tryz.underlying37 rfl infoRule
    refine wp_region_sub (by kernel_rfl) (by kernel_rfl) ?_
    repeat (first
      | (go_big_quiet_want; refine quiet_load 37 (.tmp 2) rfl rfl q1 ?_; simp only [Act.put, List.setIfInBounds_toArray, List.set_cons_zero, List.set_cons_succ]; go_big_quiet_on)
      | go_big_quiet_step (first
      | (go_at_call 61; with_reducible refine Sub.call _ (LS.out _))
      | (go_at_call 62; with_reducible refine Sub.call _ (LK.out _))
      | (go_at_call 59; with_reducible refine Sub.call _ (LW.out _))))
    refine wpQuiet_nil ?_
    intro q
    go_wp2
    go_ret
    exact ⟨rfl, below_cat q.h b.out⟩

end Go.Proofs.YtdjlpmelmhhooaaGreatDoor
