/- Format: the document's Check. -/
import Derived.Test.YtdjlpmelmhhooaaGreatDoorFmX1
namespace Go.Proofs.YtdjlpmelmhhooaaGreatDoor
open Go Go.RowKit
set_option linter.unusedSimpArgs false
set_option linter.unusedVariables false

set_option maxRecDepth 100000 in
set_option maxHeartbeats 4000000 in
theorem ruleRefCheck_any (k mn mx : Int) (a : Option Addr) (n c : Nat) (w : World) : Calls Tryz.prog 25 #[.agg (ruleA k mn mx (.slice a n c))] w fun e w' => e = .returned (.int .i64 (chkN k mn mx n)) ∧ Below w.heap.size w w' := by
  unfold ruleA
  have hways := chk_ways k mn mx n
  obtain ⟨r, hr⟩ : ∃ r, r = chkN k mn mx n := ⟨_, rfl⟩
  simp only [← hr] at hways
  rw [← hr]
  clear hr
  rcases hways with ⟨h1, rfl⟩ | ⟨h1, h2, rfl⟩ | ⟨h1, h2, h3, rfl⟩ | ⟨h1, h2, h3, h4, rfl⟩ | ⟨h3, h4, h5, hk, rfl⟩ | ⟨h3, h4, h5, hk, rfl⟩ | ⟨h3, h4, rfl, hn, rfl⟩ | ⟨h3, h4, rfl, hn, rfl⟩ | ⟨h3, h4, hk, rfl⟩
  case' inr.inr.inr.inl =>
    have h6 : 4096 < mn ∨ (mn ≤ 4096 ∧ 4096 < mx) := by omega
    clear h4
    rcases h6 with h6 | ⟨h6, h7⟩
  case' inr.inr.inr.inr.inl =>
    have h6 : mn ≤ 4096 := by omega
    have h7 : mx ≤ 4096 := by omega
    clear h4
    rcases hk with rfl | rfl | rfl
  case' inr.inr.inr.inr.inr.inl =>
    have h6 : mn ≤ 4096 := by omega
    have h7 : mx ≤ 4096 := by omega
    clear h4
    rcases hk with rfl | rfl | rfl
  case' inr.inr.inr.inr.inr.inr.inl =>
    have h6 : mn ≤ 4096 := by omega
    have h7 : mx ≤ 4096 := by omega
    clear h4
    subst hn
  case' inr.inr.inr.inr.inr.inr.inr.inl =>
    have h6 : mn ≤ 4096 := by omega
    have h7 : mx ≤ 4096 := by omega
    have hn0 : ((n : Int) == 0) = false := by rw [beq_eq_false_iff_ne]; omega
    clear h4
  case' inr.inr.inr.inr.inr.inr.inr.inr =>
    have h6 : mn ≤ 4096 := by omega
    have h7 : mx ≤ 4096 := by omega
    clear h4
    rcases hk with rfl | rfl | rfl | rfl
  all_goals
    go_enter Tryz.func25, Tryz.ntmps25
    go_wp2
    go_ret
    exact ⟨rfl, below_al (Below.refl _ _) _⟩
end Go.Proofs.YtdjlpmelmhhooaaGreatDoor
