/- Format: the walk of FormatTight. -/
import Derived.Test.YtdjlpmelmhhooaaGreatDoorFmZ
namespace Go.Proofs.YtdjlpmelmhhooaaGreatDoor
open Go Go.RowKit
set_option linter.unusedSimpArgs false
set_option linter.unusedVariables false

set_option maxRecDepth 100000 in
set_option maxHeartbeats 16000000 in
theorem tight_core (la lb n : Nat) (s : ByteArray) (hla : la < 256) (hlb : lb < 256) (hn : n ≤ 100) (hs : s.size ≤ 300) (w : World) (hM : MaxVar w) :
    Calls Tryz.prog 5 #[.int .u8 (la : Nat), .int .u8 (lb : Nat), .int .u8 (n : Nat), .string s] w fun e w' => e = .returned (.bool true) ∧ Below w.heap.size w w' := by
  have LA := hid (fun w h => fmAwake_any w h)
  obtain ⟨a, ha⟩ : ∃ a : Nat, (la : Int) % 60 = (a : Int) := ⟨la % 60, by omega⟩
  obtain ⟨b, hb⟩ : ∃ a : Nat, (lb : Int) % 60 = (a : Int) := ⟨lb % 60, by omega⟩
  have ha60 : a < 60 := by omega
  have hb60 : b < 60 := by omega
  have g1 : ¬ (100 : Int) < (n : Int) := by omega
  have g1' : decide ((100 : Int) < (n : Int)) = false := decide_eq_false g1
  have g2 : ¬ (300 : Int) < (s.size : Int) := by omega
  have g2' : decide ((300 : Int) < (s.size : Int)) = false := decide_eq_false g2
  have LO1 := fun w => ruleOf_any 1 a b none 0 0 [] (by omega) w (.inl ⟨rfl, rfl, rfl⟩)
  have LO8 := fun w => ruleOf_any 8 a b none 0 0 [] (by omega) w (.inl ⟨rfl, rfl, rfl⟩)
  have LO2 := fun w => ruleOf_any 2 a b none 0 0 [] (by omega) w (.inl ⟨rfl, rfl, rfl⟩)
  have LO4 := fun w => ruleOf_any 2 0 4096 none 0 0 [] (by omega) w (.inl ⟨rfl, rfl, rfl⟩)
  have LF1 := fun x c w hS hM => ruleFits_any 1 a b x 0 c [] (by omega) (onesS n) (by rw [onesS_size]; omega) w hS hM
  have LF8 := fun x c w hS hM => ruleFits_any 8 a b x 0 c [] (by omega) (onesS n) (by rw [onesS_size]; omega) w hS hM
  have LF2 := fun x c w hS hM => ruleFits_any 2 a b x 0 c [] (by omega) (onesS n) (by rw [onesS_size]; omega) w hS hM
  have LF4 := fun x c w hS hM => ruleFits_any 2 0 4096 x 0 c [] (by omega) s (by omega) w hS hM
  rw [tight_fits 1 (.inl rfl) a b n ha60 hb60] at LF1
  rw [tight_fits 8 (.inr (.inr rfl)) a b n ha60 hb60] at LF8
  rw [tight_fits 2 (.inr (.inl rfl)) a b n ha60 hb60] at LF2
  obtain ⟨T, hT⟩ : ∃ T, tightB a b n = T := ⟨_, rfl⟩
  obtain ⟨f, hf⟩ : ∃ T, fitsN 2 0 4096 [] s = T := ⟨_, rfl⟩
  have hfb : f = true → ∀ b ∈ s.data.toList, ¬ b.toNat < 32 ∧ b.toNat ≠ 127 := fun h => shown_bytes s (fits2_shown s (by rw [hf, h]))
  simp only [hT] at LF1 LF8 LF2
  simp only [hf] at LF4
  obtain ⟨B1, h1⟩ : ∃ B, decide ((a : Int) ≤ (b : Int)) = B := ⟨_, rfl⟩
  have h1n : decide (a ≤ b) = B1 := by rw [← h1]; exact decide_eq_decide.2 (by omega)
  obtain ⟨B2, h2⟩ : ∃ B, decide ((a : Int) ≤ (n : Int)) = B := ⟨_, rfl⟩
  have h2n : decide (a ≤ n) = B2 := by rw [← h2]; exact decide_eq_decide.2 (by omega)
  obtain ⟨B3, h3⟩ : ∃ B, decide ((n : Int) ≤ (b : Int)) = B := ⟨_, rfl⟩
  have h3n : decide (n ≤ b) = B3 := by rw [← h3]; exact decide_eq_decide.2 (by omega)
  have hTB : T = (B1 && (B2 && B3)) := by
    rw [← hT, ← h1, ← h2, ← h3]
    unfold tightB
    congr 1
    · exact decide_eq_decide.2 (by omega)
    · congr 1 <;> exact decide_eq_decide.2 (by omega)
  replace LO1 := hid LO1
  replace LO8 := hid LO8
  replace LO2 := hid LO2
  replace LO4 := hid LO4
  replace LF1 := hid LF1
  replace LF8 := hid LF8
  replace LF2 := hid LF2
  replace LF4 := hid LF4
  replace hM := hid hM
  replace hfb := hid hfb
  have hget : ∀ k (h : k < s.size), s[k] ∈ s.data.toList := fun k h => by
    rw [Array.mem_toList_iff]
    exact Array.getElem_mem h
  replace hget := hid hget
  clear hT hf
  go_enter Tryz.func5, Tryz.ntmps5
  go_wp2_with (go_at_call 19; with_reducible refine (LA.out _ hM.out).mono ?_; rintro e w1 ⟨rfl, hB⟩
               have bl := hid hB
               have hM1 := hid (hM.out.below hB)
               clear hB hM)
  go_loop [11, 30] (fun o v => ∃ i : Nat, i ≤ n ∧ v = .int .u8 (i : Nat) ∧ o = .string (onesS i)) (fun _ v => n - (intOf v).toNat)
  case atStart => exact ⟨0, Nat.zero_le _, rfl, rfl⟩
  case round =>
    obtain ⟨i, hi, rfl, rfl⟩ := hrel
    by_cases hlt : i < n
    · have hd : decide ((i : Int) < (n : Int)) = true := by rw [decide_eq_true_iff]; omega
      have hsz := onesS_size i
      have hnx := onesS_next i
      have hi100 : (i : Int) + 1 < 256 := by omega
      obtain ⟨o, ho⟩ : ∃ o, o = onesS i := ⟨_, rfl⟩
      rw [← ho] at hsz hnx ⊢
      clear ho
      go_wp2
      go_round
      case rel => exact ⟨i + 1, by omega, by go_num, rfl⟩
      case measure => simp [intOf]; omega
    · obtain rfl : i = n := by omega
      have hd : decide ((i : Int) < (i : Int)) = false := by rw [decide_eq_false_iff_not]; omega
      obtain ⟨o, ho⟩ : ∃ o, o = onesS i := ⟨_, rfl⟩
      rw [← ho] at LF1 LF8 LF2 ⊢
      clear ho
      cases f with
      | false =>
        clear hfb
        cases B1 <;> cases B2 <;> cases B3
        all_goals
          simp only [Bool.and_self, Bool.and_true, Bool.true_and, Bool.false_and, Bool.and_false] at hTB
          subst hTB
          go_wp2_with (first
          | (go_at_call 21; with_reducible refine (LO1.out _).mono ?_; rintro e W ⟨x', c', rfl, hS, hB⟩
             try clear hS0
             have hS0 := hid hS
             clear hS
             replace hM1 := hid (hM1.out.below hB)
             replace bl := hid (below_cat hB bl.out)
             clear hB LO1)
          | (go_at_call 21; with_reducible refine (LO8.out _).mono ?_; rintro e W ⟨x', c', rfl, hS, hB⟩
             try clear hS0
             have hS0 := hid hS
             clear hS
             replace hM1 := hid (hM1.out.below hB)
             replace bl := hid (below_cat hB bl.out)
             clear hB LO8)
          | (go_at_call 21; with_reducible refine (LO2.out _).mono ?_; rintro e W ⟨x', c', rfl, hS, hB⟩
             try clear hS0
             have hS0 := hid hS
             clear hS
             replace hM1 := hid (hM1.out.below hB)
             replace bl := hid (below_cat hB bl.out)
             clear hB LO2)
          | (go_at_call 21; with_reducible refine (LO4.out _).mono ?_; rintro e W ⟨x', c', rfl, hS, hB⟩
             try clear hS0
             have hS0 := hid hS
             clear hS
             replace hM1 := hid (hM1.out.below hB)
             replace bl := hid (below_cat hB bl.out)
             clear hB LO4)
          | (go_at_call 22; with_reducible refine (LF1.out _ _ _ hS0.out hM1.out).mono ?_; rintro e W ⟨rfl, hB⟩
             replace hM1 := hid (hM1.out.below hB)
             replace bl := hid (below_cat hB bl.out)
             clear hB LF1)
          | (go_at_call 22; with_reducible refine (LF8.out _ _ _ hS0.out hM1.out).mono ?_; rintro e W ⟨rfl, hB⟩
             replace hM1 := hid (hM1.out.below hB)
             replace bl := hid (below_cat hB bl.out)
             clear hB LF8)
          | (go_at_call 22; with_reducible refine (LF2.out _ _ _ hS0.out hM1.out).mono ?_; rintro e W ⟨rfl, hB⟩
             replace hM1 := hid (hM1.out.below hB)
             replace bl := hid (below_cat hB bl.out)
             clear hB LF2)
          | (go_at_call 22; with_reducible refine (LF4.out _ _ _ hS0.out hM1.out).mono ?_; rintro e W ⟨rfl, hB⟩
             replace hM1 := hid (hM1.out.below hB)
             replace bl := hid (below_cat hB bl.out)
             clear hB LF4))
          go_ret
          exact ⟨rfl, bl.out⟩
      | true =>
        have hby := hfb.out rfl
        replace hby := hid hby
        clear hfb
        cases B1 <;> cases B2 <;> cases B3
        all_goals
          simp only [Bool.and_self, Bool.and_true, Bool.true_and, Bool.false_and, Bool.and_false] at hTB
          subst hTB
          go_wp2_with (first
          | (go_at_call 21; with_reducible refine (LO1.out _).mono ?_; rintro e W ⟨x', c', rfl, hS, hB⟩
             try clear hS0
             have hS0 := hid hS
             clear hS
             replace hM1 := hid (hM1.out.below hB)
             replace bl := hid (below_cat hB bl.out)
             clear hB LO1)
          | (go_at_call 21; with_reducible refine (LO8.out _).mono ?_; rintro e W ⟨x', c', rfl, hS, hB⟩
             try clear hS0
             have hS0 := hid hS
             clear hS
             replace hM1 := hid (hM1.out.below hB)
             replace bl := hid (below_cat hB bl.out)
             clear hB LO8)
          | (go_at_call 21; with_reducible refine (LO2.out _).mono ?_; rintro e W ⟨x', c', rfl, hS, hB⟩
             try clear hS0
             have hS0 := hid hS
             clear hS
             replace hM1 := hid (hM1.out.below hB)
             replace bl := hid (below_cat hB bl.out)
             clear hB LO2)
          | (go_at_call 21; with_reducible refine (LO4.out _).mono ?_; rintro e W ⟨x', c', rfl, hS, hB⟩
             try clear hS0
             have hS0 := hid hS
             clear hS
             replace hM1 := hid (hM1.out.below hB)
             replace bl := hid (below_cat hB bl.out)
             clear hB LO4)
          | (go_at_call 22; with_reducible refine (LF1.out _ _ _ hS0.out hM1.out).mono ?_; rintro e W ⟨rfl, hB⟩
             replace hM1 := hid (hM1.out.below hB)
             replace bl := hid (below_cat hB bl.out)
             clear hB LF1)
          | (go_at_call 22; with_reducible refine (LF8.out _ _ _ hS0.out hM1.out).mono ?_; rintro e W ⟨rfl, hB⟩
             replace hM1 := hid (hM1.out.below hB)
             replace bl := hid (below_cat hB bl.out)
             clear hB LF8)
          | (go_at_call 22; with_reducible refine (LF2.out _ _ _ hS0.out hM1.out).mono ?_; rintro e W ⟨rfl, hB⟩
             replace hM1 := hid (hM1.out.below hB)
             replace bl := hid (below_cat hB bl.out)
             clear hB LF2)
          | (go_at_call 22; with_reducible refine (LF4.out _ _ _ hS0.out hM1.out).mono ?_; rintro e W ⟨rfl, hB⟩
             replace hM1 := hid (hM1.out.below hB)
             replace bl := hid (below_cat hB bl.out)
             clear hB LF4))
          go_loop [81] (fun v => ∃ j : Nat, j ≤ s.size ∧ v = .int .i64 (j : Nat)) (fun v => s.size - (intOf v).toNat)
          case atStart => exact ⟨0, Nat.zero_le _, rfl⟩
          case round =>
            obtain ⟨j, hj, rfl⟩ := hrel
            by_cases hlt : j < s.size
            · have hd : decide ((j : Int) < (s.size : Int)) = true := by rw [decide_eq_true_iff]; omega
              have hji : (j : Int) < (s.size : Int) := by omega
              obtain ⟨q1, q2⟩ := hby.out _ (hget.out j hlt)
              obtain ⟨u, hu⟩ : ∃ u, s[j].toNat = u := ⟨_, rfl⟩
              rw [hu] at q1 q2
              have t1 : decide ((u : Int) < 32) = false := decide_eq_false (by omega)
              have t1' : ¬ (u : Int) < 32 := by omega
              have t2 : ((u : Int) == 127) = false := by rw [beq_eq_false_iff_ne]; omega
              clear q1 q2
              go_wp2
              go_round
              case rel => exact ⟨j + 1, by omega, by go_num⟩
              case measure => simp [intOf]; omega
            · obtain rfl : j = s.size := by omega
              have hd : decide ((s.size : Int) < (s.size : Int)) = false := by rw [decide_eq_false_iff_not]; omega
              go_wp2
              go_ret
              exact ⟨rfl, bl.out⟩

set_option maxRecDepth 100000 in
set_option maxHeartbeats 4000000 in
theorem formatTight_row (a0 a1 a2 : Int) (a3 : ByteArray) (w0 : (Lit.int .u8 a0).wf = true) (w1 : (Lit.int .u8 a1).wf = true) (w2 : (Lit.int .u8 a2).wf = true) (w3 : a3.size ≤ 140737488351232) (w : World) (hM : MaxVar w) :
    Calls Tryz.prog 5 #[.int .u8 a0, .int .u8 a1, .int .u8 a2, .string a3] w fun e w' => e = .returned (.bool true) ∧ Below w.heap.size w w' := by
  obtain ⟨p0, q0⟩ := bounds_u8 w0
  obtain ⟨p1, q1⟩ := bounds_u8 w1
  obtain ⟨p2, q2⟩ := bounds_u8 w2
  by_cases h1 : a2 ≤ 100
  · by_cases h2 : a3.size ≤ 300
    · obtain ⟨la, rfl⟩ : ∃ n : Nat, a0 = (n : Int) := ⟨a0.toNat, by omega⟩
      obtain ⟨lb, rfl⟩ : ∃ n : Nat, a1 = (n : Int) := ⟨a1.toNat, by omega⟩
      obtain ⟨n, rfl⟩ : ∃ n : Nat, a2 = (n : Int) := ⟨a2.toNat, by omega⟩
      exact tight_core la lb n a3 (by omega) (by omega) (by omega) h2 w hM
    · have LA := hid (fun w h => fmAwake_any w h)
      have g1 : ¬ (100 : Int) < a2 := by omega
      have g1' : decide ((100 : Int) < a2) = false := decide_eq_false g1
      have g2 : (300 : Int) < (a3.size : Int) := by omega
      have g2' : decide ((300 : Int) < (a3.size : Int)) = true := decide_eq_true g2
      replace hM := hid hM
      clear w0 w1 w2 h1 h2
      go_enter Tryz.func5, Tryz.ntmps5
      go_wp2_with (go_at_call 19; with_reducible refine (LA.out _ hM.out).mono ?_; rintro e w1 ⟨rfl, hB⟩)
      go_ret
      exact ⟨rfl, hB⟩
  · have LA := hid (fun w h => fmAwake_any w h)
    have g1 : (100 : Int) < a2 := by omega
    have g1' : decide ((100 : Int) < a2) = true := decide_eq_true g1
    replace hM := hid hM
    clear w0 w1 w2 h1
    go_enter Tryz.func5, Tryz.ntmps5
    go_wp2_with (go_at_call 19; with_reducible refine (LA.out _ hM.out).mono ?_; rintro e w1 ⟨rfl, hB⟩)
    go_ret
    exact ⟨rfl, hB⟩
end Go.Proofs.YtdjlpmelmhhooaaGreatDoor
