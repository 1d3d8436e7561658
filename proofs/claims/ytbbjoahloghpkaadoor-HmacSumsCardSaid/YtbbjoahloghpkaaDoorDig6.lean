/- Cards' plain law: the check digit makes it right; a turned digit makes it wrong. -/
import Derived.Test.YtbbjoahloghpkaaDoorDig3
import Derived.Test.YtbbjoahloghpkaaDoorDig4
namespace Go.Proofs.YtbbjoahloghpkaaDoor
open Go

theorem luhnSum_snoc (l : List UInt8) (c : UInt8) (d : Bool) : luhnSum d (l ++ [c]) = weightN c d + luhnSum (!d) l := by
  simp [luhnSum, weightsN]
theorem isDig_append (a b : List UInt8) : isDig (a ++ b) = (isDig a && isDig b) := by simp [isDig]
theorem checkN_le (l : List UInt8) : 48 ≤ checkN l ∧ checkN l ≤ 57 := by unfold checkN; omega
theorem check_right (l : List UInt8) (h : isNum l = true) : luhnN (l ++ [UInt8.ofNat (checkN l)]) = true := by
  have hc := checkN_le l
  have hn : (UInt8.ofNat (checkN l)).toNat = checkN l := by simp; omega
  have h1 : isDig [UInt8.ofNat (checkN l)] = true := by simp only [isDig, List.all_cons, List.all_nil, hn]; simp; omega
  rw [luhnN, isNum, isDig_append, isNum_dig h, h1, luhnSum_snoc]
  have h2 : weightN (UInt8.ofNat (checkN l)) false = checkN l - 48 := by rw [weightN, hn]; simp
  rw [h2]
  simp [checkN]
  omega
/-- A digit's weight, out of its number. -/
def wgt (x : Nat) (p : Bool) : Nat := if p then (if 10 ≤ x * 2 then x * 2 - 9 else x * 2) else x
theorem weightN_wgt (c : UInt8) (p : Bool) : weightN c p = wgt (c.toNat - 48) p := rfl
theorem wgt_turn : ∀ x, x < 10 → ∀ y, y < 10 → ∀ p : Bool, (wgt ((x + y) % 10) p % 10 = wgt x p % 10) ↔ y = 0 := by decide +kernel
theorem weights_set : ∀ (L : List UInt8) (d : Bool) (j : Nat) (h : j < L.length) (c : UInt8), (weightsN d (L.set j c)).sum + weightN L[j] (d != decide (j % 2 = 1)) = (weightsN d L).sum + weightN c (d != decide (j % 2 = 1))
  | x :: L, d, 0, _, c => by simp [weightsN]; omega
  | x :: L, d, j + 1, h, c => by
    have ih := weights_set L (!d) j (by simpa using h) c
    have e : (d != decide ((j + 1) % 2 = 1)) = ((!d) != decide (j % 2 = 1)) := by
      rcases Nat.mod_two_eq_zero_or_one j with h | h
      · have : (j + 1) % 2 = 1 := by omega
        simp [h, this]
      · have : (j + 1) % 2 = 0 := by omega
        simp [h, this]
    simp only [List.set_cons_succ, weightsN, List.sum_cons, List.getElem_cons_succ]
    rw [e]
    omega
theorem weights_set_any (L : List UInt8) (d : Bool) (j : Nat) (h : j < L.length) (c : UInt8) : ∃ p : Bool, (weightsN d (L.set j c)).sum + weightN L[j] p = (weightsN d L).sum + weightN c p := ⟨_, weights_set L d j h c⟩
theorem isDig_set (l : List UInt8) (h : isDig l = true) (i : Nat) (c : UInt8) (hc : 48 ≤ c.toNat ∧ c.toNat ≤ 57) : isDig (l.set i c) = true := by
  unfold isDig at *
  rw [List.all_eq_true] at *
  intro x hx
  rcases List.mem_or_eq_of_mem_set hx with h2 | rfl
  · exact h x h2
  · simp; omega
/-- The digit turned by y. -/
def turnC (c : UInt8) (y : Nat) : Nat := 48 + (c.toNat - 48 + y) % 10
theorem turn_law (t : List UInt8) (ht : luhnN t = true) (i : Nat) (hi : i < t.length) (y : Nat) (hy : y < 10) : luhnN (t.set i (UInt8.ofNat (turnC t[i] y))) = decide (y = 0) := by
  unfold luhnN at ht
  rw [Bool.and_eq_true_iff] at ht
  obtain ⟨hn, hs⟩ := ht
  have hs := of_decide_eq_true hs
  have hd := isNum_dig hn
  have hg := isDig_get hd hi
  obtain ⟨c, hc⟩ : ∃ c, c = t[i] := ⟨_, rfl⟩
  rw [← hc] at hg ⊢
  have htc : 48 ≤ turnC c y ∧ turnC c y ≤ 57 := by unfold turnC; omega
  have hcn : (UInt8.ofNat (turnC c y)).toNat = turnC c y := by simp; omega
  have hd2 : isDig (t.set i (UInt8.ofNat (turnC c y))) = true := isDig_set t hd i _ (by rw [hcn]; exact htc)
  have hne : (t.set i (UInt8.ofNat (turnC c y))).isEmpty = false := by
    cases t with
    | nil => simp at hi
    | cons a l => cases i <;> rfl
  rw [luhnN, isNum, hd2, hne]
  have hj : t.length - 1 - i < t.reverse.length := by rw [List.length_reverse]; omega
  have hrev : (t.set i (UInt8.ofNat (turnC c y))).reverse = t.reverse.set (t.length - 1 - i) (UInt8.ofNat (turnC c y)) := by
    refine List.ext_getElem (by simp) fun k h1 h2 => ?_
    simp only [List.length_reverse, List.length_set] at h1 h2
    rw [List.getElem_reverse, List.getElem_set, List.getElem_set, List.getElem_reverse]
    simp only [List.length_set]
    by_cases h : i = t.length - 1 - k
    · rw [if_pos h, if_pos (by omega)]
    · rw [if_neg h, if_neg (by omega)]
  obtain ⟨p, hp⟩ := weights_set_any t.reverse false (t.length - 1 - i) hj (UInt8.ofNat (turnC c y))
  have hget : t.reverse[t.length - 1 - i] = c := by
    rw [List.getElem_reverse, hc]; congr 1; omega
  rw [hget, weightN_wgt, weightN_wgt, hcn] at hp
  have hx : turnC c y - 48 = (c.toNat - 48 + y) % 10 := by unfold turnC; omega
  rw [hx] at hp
  have hw := wgt_turn (c.toNat - 48) (by omega) y hy p
  have hs2 : (weightsN false t.reverse).sum % 10 = 0 := hs
  unfold luhnSum
  rw [hrev]
  simp only [Bool.not_false, Bool.and_self, Bool.true_and]
  rw [decide_eq_decide, ← hw]
  have h9 : wgt (c.toNat - 48) p ≤ 9 := by rw [← weightN_wgt]; exact weightN_le c (by omega) p
  omega
end Go.Proofs.YtbbjoahloghpkaaDoor
