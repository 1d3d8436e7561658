/- Format: plain words. -/
import Derived.Test.YtdjlpmelmhhooaaGreatDoorKit
namespace Go.Proofs.YtdjlpmelmhhooaaGreatDoor
open Go

def cntB (k : Int) : Bool := decide (k = 1) || decide (k = 2) || decide (k = 8)
/-- What is wrong with a rule. -/
def chkN (k mn mx : Int) (n : Nat) : Int :=
  if k < 1 ∨ 8 < k then 11 else if mn < 0 ∨ 4096 < max mn mx ∨ (cntB k = true ∧ mx < mn) then 7 else if k = 4 ∧ n = 0 then 16 else 0
theorem chkN_kind {k mn mx : Int} {n : Nat} (h : chkN k mn mx n = 0) : 1 ≤ k ∧ k ≤ 8 ∧ 0 ≤ mn ∧ mn ≤ 4096 ∧ mx ≤ 4096 ∧ (cntB k = true → mn ≤ mx) ∧ (k = 4 → n ≠ 0) := by
  unfold chkN at h
  by_cases h1 : k < 1 ∨ 8 < k
  · rw [if_pos h1] at h; omega
  · rw [if_neg h1] at h
    by_cases h2 : mn < 0 ∨ 4096 < max mn mx ∨ (cntB k = true ∧ mx < mn)
    · rw [if_pos h2] at h; omega
    · rw [if_neg h2] at h
      by_cases h3 : k = 4 ∧ n = 0
      · rw [if_pos h3] at h; omega
      · refine ⟨by omega, by omega, by omega, by omega, by omega, fun hc => ?_, fun h4 hn => h3 ⟨h4, hn⟩⟩
        by_cases h5 : mx < mn
        · exact absurd (.inr (.inr ⟨hc, h5⟩)) h2
        · omega
/-- The ways through a rule's check. -/
theorem chk_ways (k mn mx : Int) (n : Nat) :
    (k < 1 ∧ chkN k mn mx n = 11) ∨ (1 ≤ k ∧ 8 < k ∧ chkN k mn mx n = 11) ∨
    (1 ≤ k ∧ k ≤ 8 ∧ mn < 0 ∧ chkN k mn mx n = 7) ∨ (1 ≤ k ∧ k ≤ 8 ∧ 0 ≤ mn ∧ 4096 < max mn mx ∧ chkN k mn mx n = 7) ∨
    (0 ≤ mn ∧ max mn mx ≤ 4096 ∧ mx < mn ∧ (k = 1 ∨ k = 2 ∨ k = 8) ∧ chkN k mn mx n = 7) ∨
    (0 ≤ mn ∧ max mn mx ≤ 4096 ∧ mn ≤ mx ∧ (k = 1 ∨ k = 2 ∨ k = 8) ∧ chkN k mn mx n = 0) ∨
    (0 ≤ mn ∧ max mn mx ≤ 4096 ∧ k = 4 ∧ n = 0 ∧ chkN k mn mx n = 16) ∨ (0 ≤ mn ∧ max mn mx ≤ 4096 ∧ k = 4 ∧ n ≠ 0 ∧ chkN k mn mx n = 0) ∨
    (0 ≤ mn ∧ max mn mx ≤ 4096 ∧ (k = 3 ∨ k = 5 ∨ k = 6 ∨ k = 7) ∧ chkN k mn mx n = 0) := by
  unfold chkN
  by_cases h1 : k < 1
  · left; exact ⟨h1, if_pos (.inl h1)⟩
  · by_cases h2 : 8 < k
    · right; left; exact ⟨by omega, h2, if_pos (.inr h2)⟩
    · rw [if_neg (show ¬ (k < 1 ∨ 8 < k) by omega)]
      by_cases h3 : mn < 0
      · right; right; left; exact ⟨by omega, by omega, h3, if_pos (.inl h3)⟩
      · by_cases h4 : 4096 < max mn mx
        · right; right; right; left; exact ⟨by omega, by omega, by omega, h4, if_pos (.inr (.inl h4))⟩
        · have hm : max mn mx ≤ 4096 := by omega
          have hz : 0 ≤ mn := by omega
          have hk : k = 1 ∨ k = 2 ∨ k = 3 ∨ k = 4 ∨ k = 5 ∨ k = 6 ∨ k = 7 ∨ k = 8 := by omega
          have hn3 : ∀ {P : Prop}, ¬ P → ¬ (mn < 0 ∨ 4096 < max mn mx ∨ P) := fun hp hq => by rcases hq with q | q | q; exact h3 q; exact h4 q; exact hp q
          by_cases h5 : mx < mn
          · rcases hk with rfl | rfl | rfl | rfl | rfl | rfl | rfl | rfl
            all_goals simp [cntB, h3, h4, h5, hm, hz] <;> omega
          · rcases hk with rfl | rfl | rfl | rfl | rfl | rfl | rfl | rfl
            all_goals simp [cntB, h3, h4, h5, hm, hz] <;> omega
end Go.Proofs.YtdjlpmelmhhooaaGreatDoor
