/- digits.small, digits.Date. -/
import Derived.Test.YtdjlpmelmhhooaaGreatDoorDig8
import Derived.Test.YtdjlpmelmhhooaaGreatDoorStcS
import Derived.Test.YtdjlpmelmhhooaaGreatDoorLibA
namespace Go.Proofs.YtdjlpmelmhhooaaGreatDoor
open Go Go.RowKit
set_option linter.unusedSimpArgs false

set_option maxRecDepth 100000 in
theorem dsmall_any (s : ByteArray) (n : Nat) (hs : s.size ≤ 18) (hd : isDig s.data.toList = true) (hne : 1 ≤ s.size) (hn : n = valF 0 s.data.toList) (w : World) :
    Calls Tryz.prog 102 #[.string s] w fun e w' => e = .returned (.int .i64 (n : Nat)) ∧ Below w.heap.size w w' := by
  have hl : s.data.toList.length = s.size := by simp
  have hA : Lib.atoi s.data.toList = some ((n : Nat) : Int) := by
    rw [hn]; exact atoi_dig _ hd (by intro h; rw [h] at hl; simp at hl; omega)
  have cA := fun w => stcs_strconv_Atoi s (n : Int) hs hA w
  replace cA := hid cA
  clear hA hn hd hl
  go_enter Tryz.func102, Tryz.ntmps102
  go_wp2_with (go_at_call 132; refine (cA.out _).mono ?_; rintro e w1 ⟨rfl, t, rfl⟩)
  go_ret
  exact ⟨rfl, rfl, rfl, rfl, by rw [Lib.bytesWorld_size]; omega, fun k hk => Lib.bytesWorld_at_old w 5 t k hk⟩

theorem part_list (s : ByteArray) (a b : Nat) : (s.extract a b).data.toList = (s.data.toList.drop a).take (b - a) := by rw [Lib.extract_data]
theorem small_part (s : ByteArray) (hs : s.size = 14) (hd : isDig s.data.toList = true) (a b n : Nat) (hab : a < b) (hb : b ≤ 14) (hn : n = datePart s.data.toList a (b - a)) (w : World) :
    Calls Tryz.prog 102 #[.string (s.extract a b)] w fun e w' => e = .returned (.int .i64 (n : Nat)) ∧ Below w.heap.size w w' := by
  have hz : (s.extract a b).size = b - a := by rw [ByteArray.size_extract]; omega
  exact dsmall_any (s.extract a b) n (by omega) (by rw [part_list]; exact isDig_part hd _ _) (by omega) (by rw [part_list, hn]; rfl) w

set_option maxRecDepth 100000 in
set_option maxHeartbeats 8000000 in
theorem date_any (s : ByteArray) (hs : s.size ≤ 140737488351232) (w : World) : Calls Tryz.prog 64 #[.string s] w fun e w' => e = .returned (.int .i64 (dateN s.data.toList : Nat)) ∧ Below w.heap.size w w' := by
  have cI := fun w => is_any s hs w
  have hlen : s.data.toList.length = s.size := by simp
  by_cases h14 : s.size = 14
  · cases hnum : isNum s.data.toList with
    | false =>
      simp only [hnum] at cI
      have hD : dateN s.data.toList = 4 := by rw [dateN, if_pos (.inr hnum)]
      replace cI := hid cI
      replace hD := hid hD
      have e1 : ((s.size : Int) != 14) = false := by rw [h14]; rfl
      clear hnum h14
      go_enter Tryz.func64, Tryz.ntmps64
      go_wp2_with (go_at_call 60; refine (cI.out _).mono ?_; rintro e w1 ⟨rfl, hB1⟩)
      go_ret
      exact ⟨by rw [hD.out]; rfl, hB1⟩
    | true =>
      simp only [hnum] at cI
      have hd := isNum_dig hnum
      have hD : dateN s.data.toList = if dateBad s.data.toList then 7 else 0 := by rw [dateN, if_neg (by rw [hlen, h14, hnum]; simp)]
      obtain ⟨Y, hY⟩ : ∃ n, n = datePart s.data.toList 0 4 := ⟨_, rfl⟩
      obtain ⟨M, hM⟩ : ∃ n, n = datePart s.data.toList 4 2 := ⟨_, rfl⟩
      obtain ⟨D, hDd⟩ : ∃ n, n = datePart s.data.toList 6 2 := ⟨_, rfl⟩
      obtain ⟨H, hH⟩ : ∃ n, n = datePart s.data.toList 8 2 := ⟨_, rfl⟩
      obtain ⟨I, hI⟩ : ∃ n, n = datePart s.data.toList 10 2 := ⟨_, rfl⟩
      obtain ⟨S, hS⟩ : ∃ n, n = datePart s.data.toList 12 2 := ⟨_, rfl⟩
      have c1 := fun w => small_part s h14 hd 0 4 Y (by omega) (by omega) hY w
      have c2 := fun w => small_part s h14 hd 4 6 M (by omega) (by omega) hM w
      have c3 := fun w => small_part s h14 hd 6 8 D (by omega) (by omega) hDd w
      have c4 := fun w => small_part s h14 hd 8 10 H (by omega) (by omega) hH w
      have c5 := fun w => small_part s h14 hd 10 12 I (by omega) (by omega) hI w
      have c6 := fun w => small_part s h14 hd 12 14 S (by omega) (by omega) hS w
      have hbad : dateBad s.data.toList = (decide (D < 1) || (decide (daysN (Y : Nat) (M : Nat) < D) || (decide (23 < H) || (decide (59 < I) || decide (59 < S))))) := by rw [dateBad, ← hY, ← hM, ← hDd, ← hH, ← hI, ← hS]
      obtain ⟨N, hN⟩ : ∃ n, n = daysN (Y : Nat) (M : Nat) := ⟨_, rfl⟩
      have cD := fun w => days_any (Y : Nat) (M : Nat) w
      rw [← hN] at hbad
      simp only [← hN] at cD
      rw [hbad] at hD
      clear hnum hd hY hM hDd hH hI hS hN hbad hlen
      replace cI := hid cI
      replace c1 := hid c1
      replace c2 := hid c2
      replace c3 := hid c3
      replace c4 := hid c4
      replace c5 := hid c5
      replace c6 := hid c6
      replace cD := hid cD
      obtain ⟨r, hr⟩ : ∃ r, r = dateN s.data.toList := ⟨_, rfl⟩
      rw [← hr] at hD ⊢
      clear hr
      have e1 : ((s.size : Int) != 14) = false := by rw [h14]; rfl
      go_enter Tryz.func64, Tryz.ntmps64
      go_wp2_with (first
        | (go_at_call 60; refine (cI.out _).mono ?_; rintro e w1 ⟨rfl, hB1⟩)
        | (go_at_call 102; with_reducible refine (c3.out _).mono ?_; rintro e w2 ⟨rfl, hB2⟩))
      by_cases a1 : D < 1
      case' pos =>
        have t1 : decide ((D : Int) < 1) = true := decide_eq_true (by omega)
        have t1' : (D : Int) < 1 := by omega
        have hD : r = 7 := by rw [hD]; simp [a1]
      case' neg =>
        have t1 : decide ((D : Int) < 1) = false := decide_eq_false (by omega)
        have t1' : ¬ (D : Int) < 1 := by omega
        by_cases a2 : N < D
        case' pos =>
          have t2 : decide ((N : Int) < (D : Int)) = true := decide_eq_true (by omega)
          have t2' : (N : Int) < (D : Int) := by omega
          have hD : r = 7 := by rw [hD]; simp [a2]
        case' neg =>
          have t2 : decide ((N : Int) < (D : Int)) = false := decide_eq_false (by omega)
          have t2' : ¬ (N : Int) < (D : Int) := by omega
          by_cases a3 : 23 < H
          case' pos =>
            have t3 : decide ((23 : Int) < (H : Int)) = true := decide_eq_true (by omega)
            have t3' : (23 : Int) < (H : Int) := by omega
            have hD : r = 7 := by rw [hD]; simp [a3]
          case' neg =>
            have t3 : decide ((23 : Int) < (H : Int)) = false := decide_eq_false (by omega)
            have t3' : ¬ (23 : Int) < (H : Int) := by omega
            by_cases a4 : 59 < I
            case' pos =>
              have t4 : decide ((59 : Int) < (I : Int)) = true := decide_eq_true (by omega)
              have t4' : (59 : Int) < (I : Int) := by omega
              have hD : r = 7 := by rw [hD]; simp [a4]
            case' neg =>
              have t4 : decide ((59 : Int) < (I : Int)) = false := decide_eq_false (by omega)
              have t4' : ¬ (59 : Int) < (I : Int) := by omega
              by_cases a5 : 59 < S
              case' pos =>
                have t5 : decide ((59 : Int) < (S : Int)) = true := decide_eq_true (by omega)
                have t5' : (59 : Int) < (S : Int) := by omega
                have hD : r = 7 := by rw [hD]; simp [a5]
              case' neg =>
                have t5 : decide ((59 : Int) < (S : Int)) = false := decide_eq_false (by omega)
                have t5' : ¬ (59 : Int) < (S : Int) := by omega
                have hD : r = 0 := by rw [hD]; simp [a1, a2, a3, a4, a5]
      all_goals
        replace hD := hid hD
        refine wp_region_sub (by kernel_rfl) (by kernel_rfl) ?_
        repeat (go_big_quiet_step (first
          | (go_at_call 102; with_reducible refine Sub.call _ (c1.out _))
          | (go_at_call 102; with_reducible refine Sub.call _ (c2.out _))
          | (go_at_call 102; with_reducible refine Sub.call _ (c4.out _))
          | (go_at_call 102; with_reducible refine Sub.call _ (c5.out _))
          | (go_at_call 102; with_reducible refine Sub.call _ (c6.out _))
          | (go_at_call 103; refine Sub.same _ (cD.out _))))
        refine wpQuiet_nil ?_
        intro q
        go_wp2
        go_ret
        exact ⟨by first | rfl | (rw [hD.out]; rfl), below_cat q.h (below_cat hB2 hB1)⟩
  · have hD : dateN s.data.toList = 4 := by rw [dateN, if_pos (.inl (by rw [hlen]; exact h14))]
    replace hD := hid hD
    have e1 : ((s.size : Int) != 14) = true := by rw [bne_iff_ne]; omega
    go_enter Tryz.func64, Tryz.ntmps64
    go_wp2
    go_ret
    exact ⟨by rw [hD.out]; rfl, Below.refl _ _⟩
end Go.Proofs.YtdjlpmelmhhooaaGreatDoor
