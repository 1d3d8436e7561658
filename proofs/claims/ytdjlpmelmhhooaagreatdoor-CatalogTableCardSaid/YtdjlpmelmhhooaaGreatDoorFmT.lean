/- Format: Fits at any rule; the chapter's example. -/
import Derived.Test.YtdjlpmelmhhooaaGreatDoorFmS
import Derived.Test.YtdjlpmelmhhooaaGreatDoorFmD
import Derived.Test.YtdjlpmelmhhooaaGreatDoorIdsY
namespace Go.Proofs.YtdjlpmelmhhooaaGreatDoor
open Go Go.RowKit
set_option linter.unusedSimpArgs false
set_option linter.unusedVariables false

theorem fitsN_bad {k mn mx : Int} {ss : List ByteArray} {s : ByteArray} (h : chkN k mn mx ss.length ≠ 0) : fitsN k mn mx ss s = false := by
  unfold fitsN; rw [decide_eq_false h]; rfl
theorem fitsN_good {k mn mx : Int} {ss : List ByteArray} {s : ByteArray} (h : chkN k mn mx ss.length = 0) : fitsN k mn mx ss s = kindB k mn mx ss s := by
  unfold fitsN; rw [decide_eq_true h]; rfl
theorem ruleFits_any (k mn mx : Int) (a : Option Addr) (n c : Nat) (ss : List ByteArray) (hn : n ≤ 140737488351232) (s : ByteArray) (hs : s.size ≤ 1000) (w : World) (hS : IsStrs w a n ss) (hM : MaxVar w) :
    Calls Tryz.prog 22 #[.agg (ruleA k mn mx (.slice a n c)), .string s] w fun e w' => e = .returned (.bool (fitsN k mn mx ss s)) ∧ Below w.heap.size w w' := by
  have hl := hS.len
  by_cases h0 : chkN k mn mx n = 0
  · rw [fitsN_good (by rw [hl]; exact h0)]
    obtain ⟨h1, h2, _⟩ := chkN_kind h0
    have hk : k = 1 ∨ k = 2 ∨ k = 3 ∨ k = 4 ∨ k = 5 ∨ k = 6 ∨ k = 7 ∨ k = 8 := by omega
    rcases hk with rfl | rfl | rfl | rfl | rfl | rfl | rfl | rfl
    · exact fitK1 mn mx a n c ss s hs w hS hM h0
    · exact fitK2 mn mx a n c ss s hs w hS hM h0
    · exact fitK3 mn mx a n c ss s hs w hS hM h0
    · exact fitK4 mn mx a n c ss s hs w hS hM hn h0
    · exact fitK5 mn mx a n c ss s hs w hS hM h0
    · exact fitK6 mn mx a n c ss s hs w hS hM h0
    · exact fitK7 mn mx a n c ss s hs w hS hM h0
    · exact fitK8 mn mx a n c ss s hs w hS hM h0
  · rw [fitsN_bad (by rw [hl]; exact h0)]
    exact fits_bad k mn mx a n c ss s hs w hS hM _ rfl h0
theorem ruleRefFits_any (k mn mx : Int) (a : Option Addr) (n c : Nat) (ss : List ByteArray) (hn : n ≤ 140737488351232) (s : ByteArray) (hs : s.size ≤ 1000) (w : World) (hS : IsStrs w a n ss) :
    Calls Tryz.prog 23 #[.agg (ruleA k mn mx (.slice a n c)), .string s] w fun e w' => e = .returned (.bool (fitsN k mn mx ss s)) ∧ Below w.heap.size w w' := by
  have hl := hS.len
  by_cases h0 : chkN k mn mx n = 0
  · rw [fitsN_good (by rw [hl]; exact h0)]
    obtain ⟨h1, h2, _⟩ := chkN_kind h0
    have hk : k = 1 ∨ k = 2 ∨ k = 3 ∨ k = 4 ∨ k = 5 ∨ k = 6 ∨ k = 7 ∨ k = 8 := by omega
    rcases hk with rfl | rfl | rfl | rfl | rfl | rfl | rfl | rfl
    · exact rfits1 mn mx a n c ss s hs w hS h0
    · exact rfits2 mn mx a n c ss s hs w hS h0
    · exact rfits3 mn mx a n c ss s hs w hS h0
    · exact rfits4 mn mx a n c ss s hs w hS hn h0
    · exact rfits5 mn mx a n c ss s hs w hS h0
    · exact rfits6 mn mx a n c ss s hs w hS h0
    · exact rfits7 mn mx a n c ss s hs w hS h0
    · exact rfits8 mn mx a n c ss s hs w hS h0
  · rw [fitsN_bad (by rw [hl]; exact h0)]
    exact rfits_bad k mn mx a n c ss s hs w hS _ rfl h0

set_option maxRecDepth 100000 in
set_option maxHeartbeats 4000000 in
theorem fmAwake_any (w : World) (hM : MaxVar w) : Calls Tryz.prog 19 #[] w fun e w' => e = .returned (.bool true) ∧ Below w.heap.size w w' := by
  have f1 : fitsN 1 2 3 [] ⟨#[48, 55]⟩ = true := by simp [fitsN, chkN, cntB, kindB, inB, isNum, isDig, ByteArray.size]; decide
  have f2 : fitsN 1 2 3 [] ⟨#[55]⟩ = false := by simp [fitsN, chkN, cntB, kindB, inB, ByteArray.size]
  have LO := fun w => ruleOf_any 1 2 3 none 0 0 [] (by omega) w (.inl ⟨rfl, rfl, rfl⟩)
  have LF1 := fun a c w hS hM => ruleFits_any 1 2 3 a 0 c [] (by omega) ⟨#[48, 55]⟩ (by decide) w hS hM
  have LF2 := fun a c w hS hM => ruleFits_any 1 2 3 a 0 c [] (by omega) ⟨#[55]⟩ (by decide) w hS hM
  rw [f1] at LF1
  rw [f2] at LF2
  have L2 : ∀ w, Calls Tryz.prog 42 #[] w fun e w' => e = .returned (.bool true) ∧ Below w.heap.size w w' := fun w => by
    go_enter Tryz.func42, Tryz.ntmps42
    go_wp2_with (go_at_call 81; with_reducible refine (basAwake_any _).mono ?_; rintro e w1 ⟨rfl, hB⟩)
    go_ret
    exact ⟨rfl, hB⟩
  have L3 : ∀ w, Calls Tryz.prog 55 #[] w fun e w' => e = .returned (.bool true) ∧ Below w.heap.size w w' := fun w => by
    go_enter Tryz.func55, Tryz.ntmps55
    go_wp2_with (go_at_call 97; with_reducible refine (digAwake_any _).mono ?_; rintro e w1 ⟨rfl, hB⟩)
    go_ret
    exact ⟨rfl, hB⟩
  have L4 : ∀ w, Calls Tryz.prog 56 #[] w fun e w' => e = .returned (.bool true) ∧ Below w.heap.size w w' := fun w => by
    go_enter Tryz.func56, Tryz.ntmps56
    go_wp2_with (go_at_call 98; with_reducible refine (utfAwake_any _).mono ?_; rintro e w1 ⟨rfl, hB⟩)
    go_ret
    exact ⟨rfl, hB⟩
  have L10 : ∀ w, Calls Tryz.prog 57 #[] w fun e w' => e = .returned (.bool true) ∧ Below w.heap.size w w' := fun w => by
    go_enter Tryz.func57, Tryz.ntmps57
    go_wp2_with (go_at_call 11; with_reducible refine (idAwake_any _).mono ?_; rintro e w1 ⟨rfl, hB⟩)
    go_ret
    exact ⟨rfl, hB⟩
  replace LO := hid LO
  replace LF1 := hid LF1
  replace LF2 := hid LF2
  replace L2 := hid L2
  replace L3 := hid L3
  replace L4 := hid L4
  replace L10 := hid L10
  replace hM := hid hM
  clear f1 f2
  go_enter Tryz.func19, Tryz.ntmps19
  go_wp2_with (first
    | (go_at_call 21; with_reducible refine (LO.out _).mono ?_; rintro e w1 ⟨a', c', rfl, hS, hB⟩
       have hM1 := hid (hM.out.below hB)
       replace hS := hid hS
       replace hB := hid hB)
    | (with_reducible refine at_op none (.store 37 (.tmp 1) (.tmp 2)) ?_
       refine wpList_store_row (o := ⟨none, .store _ (.tmp 1) (.tmp 2), _, _, _, _⟩) rfl 37 (.tmp 1) (.tmp 2) rfl w1.heap.size (ruleA 1 2 3 (.slice a' 0 c')) rfl rfl 37 _ (RowAt.new w1 _ _) infoRule rfl (ruleA_one _ _ _ _ _ _) ?_
       generalize hY : World.setRow _ _ _ = Y
       have b0 : Below w1.heap.size w1 Y := by rw [← hY]; exact below_setRow (below_al (Below.refl _ _) _) (Nat.le_refl _) _
       have r := hid (show RowAt Y w1.heap.size 37 (ruleA 1 2 3 (.slice a' 0 c')) by rw [← hY]; exact (RowAt.new w1 _ _).setRow _)
       have b := hid (below_cat b0 hB.out)
       have hM2 := hid (hM1.out.below b0)
       have hS2 := hid (hS.out.below b0)
       generalize w1.heap.size = g at r ⊢
       clear hY b0 hM1 hM hS hB)
    | (with_reducible refine at_op (some 3) (.load 37 (.tmp 1)) ?_
       refine wpList_load_row (o := ⟨some 3, _, _, _, _, _⟩) rfl 37 (.tmp 1) rfl g rfl 37 _ (0, 0) _ r.out Tryz.underlying37 rfl infoRule ?_)
    | (with_reducible refine at_op (some 6) (.load 37 (.tmp 1)) ?_
       refine wpList_load_rowG rfl 37 (.tmp 1) rfl g rfl 37 _ _ r.out Tryz.underlying37 rfl infoRule ?_)
    | (go_at_call 22; with_reducible refine (LF1.out _ _ _ hS2.out hM2.out).mono ?_; rintro e W ⟨rfl, hB⟩
       have hM3 := hid (hM2.out.below hB)
       have hS3 := hid (hS2.out.below hB)
       replace r := hid (r.out.below hB r.out.lt)
       replace b := hid (below_cat hB b.out)
       clear hB LF1)
    | (go_at_call 22; with_reducible refine (LF2.out _ _ _ hS3.out hM3.out).mono ?_; rintro e W ⟨rfl, hB⟩
       replace b := hid (below_cat hB b.out)
       clear hB LF2)
    | (go_at_call 42; with_reducible refine (L2.out _).mono ?_; rintro e W ⟨rfl, hB⟩
       replace b := hid (below_cat hB b.out)
       clear hB)
    | (go_at_call 55; with_reducible refine (L3.out _).mono ?_; rintro e W ⟨rfl, hB⟩
       replace b := hid (below_cat hB b.out)
       clear hB)
    | (go_at_call 56; with_reducible refine (L4.out _).mono ?_; rintro e W ⟨rfl, hB⟩
       replace b := hid (below_cat hB b.out)
       clear hB)
    | (go_at_call 57; with_reducible refine (L10.out _).mono ?_; rintro e W ⟨rfl, hB⟩
       replace b := hid (below_cat hB b.out)
       clear hB))
  go_ret
  exact ⟨rfl, b.out⟩
end Go.Proofs.YtdjlpmelmhhooaaGreatDoor
