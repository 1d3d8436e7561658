/- Catalog: the document's Names, Number. -/
import Derived.Test.YtdjlpmelmhhooaaGreatDoorCtX3
namespace Go.Proofs.YtdjlpmelmhhooaaGreatDoor
open Go Go.RowKit
set_option linter.unusedSimpArgs false
set_option linter.unusedVariables false

def namesT : ByteArray := ⟨#[65, 82, 101, 113, 32, 65, 82, 101, 115, 32, 67, 82, 101, 113, 32, 67, 82, 101, 115, 32, 82, 82, 101, 113, 32, 82, 82, 101, 115, 32, 69, 114, 114, 111, 32, 80, 82, 101, 113, 32, 80, 82, 101, 115]⟩
theorem namesT_blank : blankP namesT = msgL := by kernel_rfl
theorem refNames_any (w : World) : Calls Tryz.prog 37 #[] w fun e w' => ∃ a c, e = .returned (.slice a 9 c) ∧ IsStrs w' a 9 msgL ∧ Below w.heap.size w w' := by
  have LW : Hid (∀ w, Calls Tryz.prog 79 #[.string namesT] w fun e w' => ∃ a c, e = .returned (.slice a 9 c) ∧ IsStrs w' a 9 msgL ∧ Below w.heap.size w w') := hid (fun w => (words_any namesT (by decide) w).mono fun e w' ⟨v, he, ho, hB⟩ => by
    rw [namesT_blank] at ho
    obtain ⟨a, c, hv, hi⟩ := Strs.read ho (n := 9) rfl (fun s h => Nat.le_trans (msgL_small s h) (by unfold maxLen; omega))
    exact ⟨a, c, by rw [he, hv], hi, hB⟩)
  unfold namesT at LW
  go_enter Tryz.func37, Tryz.ntmps37
  go_wp2_with (go_at_call 79; with_reducible refine (LW.out _).mono ?_; rintro e w1 ⟨a, c, rfl, hi, hB⟩; replace hi := hid hi)
  go_ret
  exact ⟨a, c, rfl, hi.out, hB⟩
theorem msgL_at : ∀ i, i < 9 → msgL[i]? = some (msgS (i + 1))
  | 0, _ => rfl
  | 1, _ => rfl
  | 2, _ => rfl
  | 3, _ => rfl
  | 4, _ => rfl
  | 5, _ => rfl
  | 6, _ => rfl
  | 7, _ => rfl
  | 8, _ => rfl
set_option maxRecDepth 100000 in
set_option maxHeartbeats 4000000 in
theorem refNumber_any (s : ByteArray) (w : World) : Calls Tryz.prog 39 #[.string s] w fun e w' => e = .returned (.int .i64 (msgN s : Nat)) ∧ Below w.heap.size w w' := by
  have LM := hid (fun w => refNames_any w)
  go_enter Tryz.func39, Tryz.ntmps39
  go_wp2_with (go_at_call 37; with_reducible refine (LM.out _).mono ?_; rintro e w1 ⟨a, c, rfl, hS, hB⟩; replace hB := hid hB; replace hS := hid hS)
  go_loopw [7] (fun p wr => ∃ i : Nat, p = .int .i64 (i : Nat) ∧ i ≤ 9 ∧ Hid (∀ j, j < i + 1 → 1 ≤ j → msgS j ≠ s) ∧ Hid (Below w.heap.size w wr) ∧ Hid (IsStrs wr a 9 msgL)) (fun p _ => 10 - (intOf p).toNat)
  case atStart => exact ⟨0, rfl, by omega, hid (fun j hj => by omega), hB, hS⟩
  case round =>
    clear hB LM hS
    obtain ⟨i, rfl, hi, hn, hB, hS⟩ := hrel
    by_cases hlt : i < 9
    · obtain ⟨x, rfl, hx⟩ := hS.out.at (msgL_at i hlt)
      obtain ⟨t, ht⟩ : ∃ t, t = msgS (i + 1) := ⟨_, rfl⟩
      rw [← ht] at hx
      have g1 : decide ((i : Int) < 9) = true := decide_eq_true (by omega)
      have g1' : (i : Int) < 9 := by omega
      by_cases hd : (t.toList == s.toList) = true
      · have hfin := hid (msgN_at (s := s) (i := i + 1) (by omega) (by omega) (by rw [← ht]; rw [toList_beqB] at hd; exact of_decide_eq_true hd) hn.out)
        replace ht := hid ht
        go_wp2
        go_ret
        exact ⟨by rw [hfin.out]; rfl, hB.out⟩
      · have hd' : (t.toList == s.toList) = false := by simpa using hd
        have hfin := hid (show ∀ j, j < i + 1 + 1 → 1 ≤ j → msgS j ≠ s from fun j hj h1 => by
          by_cases q : j = i + 1
          · rw [q, ← ht]; rw [toList_beqB] at hd'; exact of_decide_eq_false hd'
          · exact hn.out j (by omega) h1)
        replace ht := hid ht
        clear hd
        go_wp2
        go_roundw
        case rel => exact ⟨i + 1, by go_num, by omega, hfin, hB, hS⟩
        case measure => simp [intOf]; omega
    · obtain rfl : i = 9 := by omega
      have g1 : decide (((9 : Nat) : Int) < 9) = false := by decide
      have hfin := hid (msgN_none hn.out)
      go_wp2
      go_ret
      exact ⟨by rw [hfin.out]; rfl, hB.out⟩
end Go.Proofs.YtdjlpmelmhhooaaGreatDoor
