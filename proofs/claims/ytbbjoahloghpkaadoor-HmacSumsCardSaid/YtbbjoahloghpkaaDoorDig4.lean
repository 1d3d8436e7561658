/- The document's Is, Luhn, Card. -/
import Derived.Test.YtbbjoahloghpkaaDoorDig3
namespace Go.Proofs.YtbbjoahloghpkaaDoor
open Go Go.RowKit
set_option linter.unusedSimpArgs false

theorem weightsN_snoc : ∀ (a : List UInt8) (d : Bool) (c : UInt8), weightsN d (a ++ [c]) = weightsN d a ++ [weightN c (d != decide (a.length % 2 = 1))]
  | [], d, c => by simp [weightsN]
  | b :: a, d, c => by
    simp only [List.cons_append, weightsN, weightsN_snoc a (!d) c, List.length_cons, List.cons.injEq, true_and]
    congr 2
    congr 1
    rcases Nat.mod_two_eq_zero_or_one a.length with h | h
    · have : (a.length + 1) % 2 = 1 := by omega
      simp [h, this]
    · have : (a.length + 1) % 2 = 0 := by omega
      simp [h, this]

set_option maxRecDepth 100000 in
set_option maxHeartbeats 4000000 in
theorem refIs_any (s : ByteArray) (hs : s.size ≤ 140737488351232) (w : World) : Calls Tryd.prog 17 #[.string s] w fun e w' => e = .returned (.bool (isNum s.data.toList)) ∧ w = w' := by
  have hlen : s.data.toList.length = s.size := by simp
  replace hlen := hid hlen
  go_enter Tryd.func17, Tryd.ntmps17
  go_wp2
  go_loopw [3] (fun i wr => ∃ k : Nat, i = .int .i64 k ∧ k ≤ s.size ∧ Hid (isDig (s.data.toList.take k) = true) ∧ wr = w) (fun i _ => s.size - (intOf i).toNat)
  case atStart => exact ⟨0, rfl, Nat.zero_le _, hid (by simp [isDig]), rfl⟩
  case round =>
    obtain ⟨k, rfl, hk, hd, rfl⟩ := hrel
    by_cases hp : k < s.size
    · have hl : k < s.data.toList.length := by rw [hlen.out]; omega
      obtain ⟨c, hc⟩ : ∃ c, c = s.data.toList[k].toNat := ⟨_, rfl⟩
      have hidx := fun w => run_index_text (P := Tryd.prog) 9 s .i64 k c Tryd.underlying9 hp (by rw [hc]; rfl) w
      have hp' : (k : Int) < (s.size : Int) := by omega
      by_cases h1' : (c : Int) < 48
      · have hbad := hid (isNum_bad (isDig_of_bad _ k hl (.inl (by rw [← hc]; omega))))
        have h1 : decide ((c : Int) < 48) = true := decide_eq_true h1'
        clear hc
        go_wp2
        go_ret
        exact ⟨ret_bool hbad.out.symm, rfl⟩
      · have h1 : decide ((c : Int) < 48) = false := decide_eq_false h1'
        by_cases h2' : (57 : Int) < (c : Int)
        · have hbad := hid (isNum_bad (isDig_of_bad _ k hl (.inr (by rw [← hc]; omega))))
          have h2 : decide ((57 : Int) < (c : Int)) = true := decide_eq_true h2'
          clear hc
          go_wp2
          go_ret
          exact ⟨ret_bool hbad.out.symm, rfl⟩
        · have hgood := hid (show isDig (s.data.toList.take (k + 1)) = true by
            rw [isDig_take_succ _ _ hl, hd.out, ← hc]; simp; omega)
          have h2 : decide ((57 : Int) < (c : Int)) = false := decide_eq_false h2'
          clear hc
          go_wp2
          go_roundw
          case rel => exact ⟨k + 1, by go_num, by omega, hgood, trivial⟩
          case measure => simp [intOf]; omega
    · obtain rfl : k = s.size := by omega
      have hfin := hd.out
      rw [List.take_of_length_le (by simp)] at hfin
      have hN : isNum s.data.toList = decide (0 < s.size) := by
        rw [isNum, hfin, Bool.true_and]
        cases h2 : s.data.toList with
        | nil => have := hlen.out; rw [h2] at this; simp at this; simp [← this]
        | cons a l => have := hlen.out; rw [h2] at this; simp at this; simp; omega
      replace hN := hid hN
      clear hfin
      go_wp2
      go_ret
      exact ⟨ret_bool hN.out.symm, rfl⟩

set_option maxRecDepth 100000 in
set_option maxHeartbeats 8000000 in
theorem refLuhn_any (s : ByteArray) (hs : s.size ≤ 140737488351232) (w : World) : Calls Tryd.prog 14 #[.string s] w fun e w' => e = .returned (.bool (luhnN s.data.toList)) ∧ w = w' := by
  have cI := fun w => refIs_any s hs w
  have hlen : s.data.toList.length = s.size := by simp
  replace hlen := hid hlen
  go_enter Tryd.func14, Tryd.ntmps14
  cases h : isNum s.data.toList with
  | false =>
    simp only [h] at cI
    have hl : luhnN s.data.toList = false := by simp [luhnN, h]
    replace cI := hid cI
    replace hl := hid hl
    clear h
    go_wp2_with (go_at_call 17; refine (cI.out _).mono ?_; rintro e w1 ⟨rfl, rfl⟩)
    go_ret
    exact ⟨ret_bool hl.out.symm, rfl⟩
  | true =>
    simp only [h] at cI
    have hl : luhnN s.data.toList = decide ((weightsN false s.data.toList.reverse).sum % 10 = 0) := by rw [luhnN, h, Bool.true_and]; rfl
    have hd := isNum_dig h
    replace cI := hid cI
    replace hl := hid hl
    replace hd := hid hd
    clear h
    go_wp2_with (go_at_call 17; refine (cI.out _).mono ?_; rintro e w1 ⟨rfl, rfl⟩)
    go_loopw [3, 4] (fun t i wr => ∃ k m : Nat, i = .int .i64 k ∧ t = .int .i64 m ∧ k ≤ s.size ∧ m ≤ 9 * k ∧ Hid (m = (weightsN false (s.data.toList.reverse.take k)).sum) ∧ wr = w) (fun _ i _ => s.size - (intOf i).toNat)
    case atStart => exact ⟨0, 0, rfl, rfl, Nat.zero_le _, Nat.zero_le _, hid (by simp [weightsN]), rfl⟩
    case round =>
      obtain ⟨k, m, rfl, rfl, hk, hmk, hm, rfl⟩ := hrel
      by_cases hp : k < s.size
      · have hl2 : s.size - 1 - k < s.data.toList.length := by rw [hlen.out]; omega
        have hlr : k < s.data.toList.reverse.length := by rw [List.length_reverse, hlen.out]; omega
        have hdg := isDig_get hd.out hl2
        obtain ⟨u, hu⟩ : ∃ u, u = s.data.toList[s.size - 1 - k] := ⟨_, rfl⟩
        have hur : s.data.toList.reverse[k] = u := by rw [hu, List.getElem_reverse]; congr 1
        obtain ⟨c, hc⟩ : ∃ c, c = u.toNat := ⟨_, rfl⟩
        obtain ⟨j, hj⟩ : ∃ j, j = s.size - 1 - k := ⟨_, rfl⟩
        have hidx := fun w => run_index_text (P := Tryd.prog) 9 s .i64 j c Tryd.underlying9 (by omega) (by rw [hc, hu]; subst hj; rfl) w
        have hjz : ((s.size : Int) - 1) - (k : Int) = (j : Int) := by omega
        rw [← hu, ← hc] at hdg
        obtain ⟨hc1, hc2⟩ := hdg
        have hW : weightN u (decide (k % 2 = 1)) = if decide (k % 2 = 1) then (if 10 ≤ (c - 48) * 2 then (c - 48) * 2 - 9 else (c - 48) * 2) else c - 48 := by rw [hc]; rfl
        have hstep : (weightsN false (s.data.toList.reverse.take (k + 1))).sum = m + weightN u (decide (k % 2 = 1)) := by
          rw [List.take_succ_eq_append_getElem hlr, weightsN_snoc, hur, hm.out, List.length_take, Nat.min_eq_left (by omega)]
          simp
        rw [hW] at hstep
        replace hstep := hid hstep
        clear hu hur hc hW hj hl2 hlr
        obtain ⟨n, hn⟩ : ∃ n, n = c - 48 := ⟨_, rfl⟩
        have hsub : ((c : Int) - 48) = (n : Int) := by omega
        rw [← hn] at hstep
        have hn9 : n ≤ 9 := by omega
        clear hn
        have hp' : (k : Int) < (s.size : Int) := by omega
        rcases Nat.mod_two_eq_zero_or_one k with hpar | hpar
        · have hz : ((k : Int) % 2 == 1) = false := by rw [beq_eq_false_iff_ne]; omega
          have hst2 : (weightsN false (s.data.toList.reverse.take (k + 1))).sum = m + n := by rw [hstep.out]; simp [hpar]
          replace hst2 := hid hst2
          clear hpar
          go_wp2
          go_roundw
          case rel => exact ⟨k + 1, m + n, by go_num, by go_num, by omega, by omega, hid hst2.out.symm, trivial⟩
          case measure => simp [intOf]; omega
        · have hz : ((k : Int) % 2 == 1) = true := by rw [beq_iff_eq]; omega
          obtain ⟨q, hq⟩ : ∃ q, q = n * 2 / 10 + n * 2 % 10 := ⟨_, rfl⟩
          have hst2 : (weightsN false (s.data.toList.reverse.take (k + 1))).sum = m + q := by rw [hstep.out, hq]; simp only [hpar, decide_true, if_true]; split <;> omega
          have hqz : ((n : Int) * 2) / 10 + ((n : Int) * 2) % 10 = (q : Int) := by omega
          have hq9 : q ≤ 9 := by omega
          replace hst2 := hid hst2
          clear hpar hq
          go_wp2
          go_roundw
          case rel => exact ⟨k + 1, m + q, by go_num, by go_num, by omega, by omega, hid hst2.out.symm, trivial⟩
          case measure => simp [intOf]; omega
      · obtain rfl : k = s.size := by omega
        have hfin : luhnN s.data.toList = decide (m % 10 = 0) := by
          rw [hl.out, hm.out, List.take_of_length_le (by simp)]
        replace hfin := hid hfin
        go_wp2
        go_ret
        refine ⟨ret_bool ?_, rfl⟩
        rw [hfin.out, Bool.eq_iff_iff]
        simp
        omega

set_option maxRecDepth 100000 in
set_option maxHeartbeats 4000000 in
theorem refCard_any (s : ByteArray) (hs : s.size ≤ 140737488351232) (w : World) : Calls Tryd.prog 16 #[.string s] w fun e w' => e = .returned (.int .i64 (cardN s.data.toList : Nat)) ∧ w = w' := by
  have cI := fun w => refIs_any s hs w
  have cL := fun w => refLuhn_any s hs w
  have hlen : s.data.toList.length = s.size := by simp
  have hN : cardN s.data.toList = if !isNum s.data.toList then 4 else if s.size < 13 then 3 else if 19 < s.size then 5 else if !luhnN s.data.toList then 25 else 0 := by rw [cardN, hlen]
  obtain ⟨b, hb⟩ : ∃ b, b = isNum s.data.toList := ⟨_, rfl⟩
  obtain ⟨g, hg⟩ : ∃ b, b = luhnN s.data.toList := ⟨_, rfl⟩
  simp only [← hb] at cI hN
  simp only [← hg] at cL hN
  clear hb hg hlen
  go_enter Tryd.func16, Tryd.ntmps16
  replace cI := hid cI
  replace cL := hid cL
  cases b
  case' false =>
    have hN' := hid (show cardN s.data.toList = 4 by rw [hN]; rfl)
  case' true =>
    by_cases h1 : s.size < 13
    case' pos =>
      have hN' := hid (show cardN s.data.toList = 3 by rw [hN]; simp [h1])
      have h1' : (s.size : Int) < 13 := by omega
      have h1b : decide ((s.size : Int) < 13) = true := decide_eq_true h1'
    case' neg =>
      have h1' : ¬ (s.size : Int) < 13 := by omega
      have h1b : decide ((s.size : Int) < 13) = false := decide_eq_false h1'
      by_cases h2 : 19 < s.size
      case' pos =>
        have hN' := hid (show cardN s.data.toList = 5 by rw [hN]; simp [h1, h2])
        have h2' : (19 : Int) < (s.size : Int) := by omega
        have h2b : decide ((19 : Int) < (s.size : Int)) = true := decide_eq_true h2'
      case' neg =>
        have h2' : ¬ (19 : Int) < (s.size : Int) := by omega
        have h2b : decide ((19 : Int) < (s.size : Int)) = false := decide_eq_false h2'
        cases g
        case' false => have hN' := hid (show cardN s.data.toList = 25 by rw [hN]; simp [h1, h2])
        case' true => have hN' := hid (show cardN s.data.toList = 0 by rw [hN]; simp [h1, h2])
  all_goals
    clear hN
    go_wp2_with (first | (go_at_call 17; refine (cI.out _).mono ?_; rintro e w1 ⟨rfl, rfl⟩) | (go_at_call 14; refine (cL.out _).mono ?_; rintro e w2 ⟨rfl, rfl⟩))
    go_ret
    exact ⟨by rw [hN'.out]; rfl, rfl⟩
end Go.Proofs.YtbbjoahloghpkaaDoor
