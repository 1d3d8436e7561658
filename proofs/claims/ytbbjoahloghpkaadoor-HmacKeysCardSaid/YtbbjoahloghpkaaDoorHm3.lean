/- The law HmacKeys: the walk. -/
import Derived.Test.YtbbjoahloghpkaaDoorHmA
namespace Go.Proofs.YtbbjoahloghpkaaDoor
open Go Go.RowKit
set_option linter.unusedSimpArgs false
set_option linter.unusedVariables false

set_option maxRecDepth 100000 in
set_option maxHeartbeats 8000000 in
theorem hmacKeys_walk (a0 a1 : ByteArray) (a2 : Int) (w0 : a0.size ≤ 140737488351232) (w1 : a1.size ≤ 140737488351232) (w2 : (Lit.int .u8 a2).wf = true) (w : World) :
    Calls Tryd.prog 5 #[.string a0, .string a1, .int .u8 a2] w fun e w' => e = .returned (.bool true) ∧ Below w.heap.size w w' := by
  have cA := hid hmacAwake_any
  have hmxA := fun ts t w => run_mx2 (P := Tryd.prog) ts t .i64 (a0.size : Int) (a1.size : Int) w
  by_cases h300 : max a0.size a1.size ≤ 300
  · have k1 : a0.size ≤ 300 := by omega
    have k2 : a1.size ≤ 300 := by omega
    obtain ⟨M, hM⟩ : ∃ M : Nat, max (a0.size : Int) (a1.size : Int) = (M : Int) := ⟨max a0.size a1.size, by omega⟩
    rw [hM] at hmxA
    have h1 : ¬ (300 : Int) < (M : Int) := by omega
    have h1' : decide ((300 : Int) < (M : Int)) = false := decide_eq_false h1
    obtain ⟨hn0, hn1⟩ := bounds_u8 w2
    obtain ⟨n, rfl⟩ : ∃ n : Nat, a2 = (n : Int) := ⟨a2.toNat, by omega⟩
    have hn255 : n ≤ 255 := by omega
    -- the long key
    have R65 : ∀ w, Calls Tryd.prog 23 #[.string ⟨#[107]⟩, .int .i64 65] w fun e w' => e = .returned (.string ⟨(Lib.repeatL [107] 65).toArray⟩) ∧ Below w.heap.size w w' := fun w => repeat_any ⟨#[107]⟩ 65 w (by decide) (by decide)
    obtain ⟨K65, hK65⟩ : ∃ Z : ByteArray, Z = ⟨(Lib.repeatL [107] 65).toArray⟩ := ⟨_, rfl⟩
    have hK65s : K65.size = 65 := by rw [hK65]; rfl
    simp only [← hK65] at R65
    obtain ⟨G, hG⟩ : ∃ G, a0 ++ K65 = G := ⟨_, rfl⟩
    have hGs : G.size = a0.size + 65 := by rw [← hG, ByteArray.size_append, hK65s]
    have cG := fun w => hsum_one G a1 (by omega) (by omega) w
    have cT := fun w => refText_any G (by omega) w
    have cGT := fun w => hsum_one (sumS G) a1 (by rw [sumS_size]; omega) (by omega) w
    have hGG : hmacS (sumS G) a1 = hmacS G a1 := (hmacS_of_block (block_long G (by omega)) a1).symm
    rw [hGG] at cGT
    obtain ⟨H2, hH2⟩ : ∃ H, H = hmacS G a1 := ⟨_, rfl⟩
    obtain ⟨TG, hTG⟩ : ∃ T, T = sumS G := ⟨_, rfl⟩
    simp only [← hH2] at cG cGT
    simp only [← hTG] at cT cGT
    -- noughts
    obtain ⟨q, hq⟩ : ∃ q : Nat, max ((64 : Int) - (a0.size : Int)) 0 = (q : Int) := ⟨(max ((64 : Int) - (a0.size : Int)) 0).toNat, by omega⟩
    obtain ⟨k, hk⟩ : ∃ k : Nat, min (n : Int) (q : Int) = (k : Int) := ⟨min n q, by omega⟩
    have hmxB := fun ts t w => run_mx2 (P := Tryd.prog) ts t .i64 ((64 : Int) - (a0.size : Int)) 0 w
    have hmnC := fun ts t w => run_mn2 (P := Tryd.prog) ts t .i64 (n : Int) (q : Int) w
    rw [hq] at hmxB
    rw [hk] at hmnC
    have hkb : k = 0 ∨ a0.size + k ≤ 64 := by omega
    have hk64 : k ≤ 64 := by omega
    have cR := fun w => repeat_any ⟨#[0]⟩ k w (by omega) (by show 1 * k ≤ _; omega)
    rw [show (⟨#[0]⟩ : ByteArray).data.toList = [0] from rfl, repeatL_rep] at cR
    obtain ⟨z, hzz⟩ : ∃ z : ByteArray, z = ⟨(List.replicate k (0 : UInt8)).toArray⟩ := ⟨_, rfl⟩
    have hzs : z.size = k := by rw [hzz]; show (List.replicate k (0 : UInt8)).toArray.size = k; simp
    have hzl : z.data.toList = List.replicate k 0 := by rw [hzz]
    rw [← hzz] at cR
    obtain ⟨Y, hY⟩ : ∃ Y, a0 ++ z = Y := ⟨_, rfl⟩
    have hYs : Y.size ≤ 1000 := by rw [← hY, ByteArray.size_append]; omega
    have hYb : blockL Y = blockL a0 := by rw [← hY]; exact block_zeros a0 z k hzl hkb
    have cY := fun w => hsum_one Y a1 (by omega) (by omega) w
    have c0 := fun w => hsum_one a0 a1 (by omega) (by omega) w
    have cS : ∀ w : World, Calls Tryd.prog 26 #[.string a0, .int .i64 40, .slice (some ⟨w.heap.size, 0, none⟩) 1 1] (w.alloc (.cells #[.string a1] 9)) fun e w' => e = .returned (.string ((hmacS a0 a1).extract 0 32)) ∧ Below w.heap.size w w' := fun w => short_one a0 a1 (by omega) (by omega) 40 w
    rw [hmacS_of_block hYb a1] at cY
    have hall : (hmacS a0 a1).extract 0 32 = hmacS a0 a1 := by
      have := hmacS_size a0 a1
      rw [← this]; exact ByteArray.extract_zero_size
    rw [hall] at cS
    obtain ⟨H1, hH1⟩ : ∃ H, H = hmacS a0 a1 := ⟨_, rfl⟩
    simp only [← hH1] at cY c0 cS
    have hcat1 : ¬ 9223372036854775807 < a0.size + 65 := by omega
    have hcat2 : ¬ 9223372036854775807 < a0.size + k := by omega
    replace cG := hid cG
    replace cT := hid cT
    replace cGT := hid cGT
    replace cR := hid cR
    replace cY := hid cY
    replace c0 := hid c0
    have c0b := c0
    replace cS := hid cS
    replace R65 := hid R65
    clear hM hK65 hGs hGG hH2 hTG hq hk hkb hzz hzl hYs hYb hall hH1 w2 hn0 hn1 h300
    go_enter Tryd.func5, Tryd.ntmps5
    go_wp2_with (first
      | (go_at_call 22; with_reducible refine (cA.out _).mono ?_; rintro e w1 ⟨rfl, hB1⟩)
      | (go_at_call 23; with_reducible refine (R65.out _).mono ?_; rintro e w2 ⟨rfl, hB2⟩)
      | (go_at_call 23; with_reducible refine (cR.out _).mono ?_; rintro e w4 ⟨rfl, hB4⟩)
      | (go_at_call 24; with_reducible refine (cY.out _).mono ?_; rintro e w5 ⟨rfl, hB5⟩)
      | (go_at_call 24; with_reducible refine (cG.out _).mono ?_; rintro e w6 ⟨rfl, hB6⟩)
      | (go_at_call 25; with_reducible refine (cT.out _).mono ?_; rintro e w7 ⟨rfl, hB7⟩)
      | (go_at_call 24; with_reducible refine (cGT.out _).mono ?_; rintro e w8 ⟨rfl, hB8⟩)
      | (go_at_call 26; with_reducible refine (cS.out _).mono ?_; rintro e w9 ⟨rfl, hB9⟩)
      | (go_at_call 24; with_reducible refine (c0.out _).mono ?_; clear c0; rintro e w3 ⟨rfl, hB3⟩)
      | (go_at_call 24; with_reducible refine (c0b.out _).mono ?_; rintro e w10 ⟨rfl, hB10⟩))
    go_ret
    exact ⟨rfl, below_cat hB10 (below_cat hB9 (below_cat hB8 (below_cat hB7 (below_cat hB6 (below_cat hB5 (below_cat hB4 (below_cat hB3 (below_cat hB2 hB1))))))))⟩
  · obtain ⟨M, hM⟩ : ∃ M : Nat, max (a0.size : Int) (a1.size : Int) = (M : Int) := ⟨max a0.size a1.size, by omega⟩
    rw [hM] at hmxA
    have h1 : (300 : Int) < (M : Int) := by omega
    have h1' : decide ((300 : Int) < (M : Int)) = true := decide_eq_true h1
    clear hM
    go_enter Tryd.func5, Tryd.ntmps5
    go_wp2_with (go_at_call 22; with_reducible refine (cA.out _).mono ?_; rintro e w1 ⟨rfl, hB1⟩)
    go_ret
    exact ⟨rfl, hB1⟩
end Go.Proofs.YtbbjoahloghpkaaDoor
