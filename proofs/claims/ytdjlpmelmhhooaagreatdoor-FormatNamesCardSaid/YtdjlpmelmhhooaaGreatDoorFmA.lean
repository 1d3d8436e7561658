/- Format: counted, Check, within. -/
import Derived.Test.YtdjlpmelmhhooaaGreatDoorFmP
import Derived.Test.YtdjlpmelmhhooaaGreatDoorLibA
import Derived.Test.YtdjlpmelmhhooaaGreatDoorProg
namespace Go.Proofs.YtdjlpmelmhhooaaGreatDoor
open Go Go.RowKit
set_option linter.unusedSimpArgs false
set_option linter.unusedVariables false

theorem infoRule : (Tryz.prog.info? 37).map (·.size) = some 4 := by kernel_rfl
/-- A rule, as it is handed over. -/
def ruleA (k mn mx : Int) (v : Value) : Array Value := #[.int .i64 k, .int .i64 mn, .int .i64 mx, v]
theorem ruleA_one (k mn mx : Int) (a : Option Addr) (n c : Nat) : (ruleA k mn mx (.slice a n c)).all (·.oneCell') = true := by simp [ruleA, Value.oneCell']

set_option maxRecDepth 100000 in
set_option maxHeartbeats 4000000 in
theorem ruleCheck_any (k mn mx : Int) (a : Option Addr) (n c : Nat) (w : World) : Calls Tryz.prog 24 #[.agg (ruleA k mn mx (.slice a n c))] w fun e w' => e = .returned (.int .i64 (chkN k mn mx n)) ∧ Below w.heap.size w w' := by
  unfold ruleA
  have hmx := fun ts t w => run_mx2 (P := Tryz.prog) ts t .i64 mn mx w
  have hways := chk_ways k mn mx n
  obtain ⟨r, hr⟩ : ∃ r, r = chkN k mn mx n := ⟨_, rfl⟩
  simp only [← hr] at hways
  rw [← hr]
  clear hr
  obtain ⟨M, hM⟩ : ∃ M, M = max mn mx := ⟨_, rfl⟩
  simp only [← hM] at hmx hways
  clear hM
  rcases hways with ⟨h1, rfl⟩ | ⟨h1, h2, rfl⟩ | ⟨h1, h2, h3, rfl⟩ | ⟨h1, h2, h3, h4, rfl⟩ | ⟨h3, h4, h5, hk, rfl⟩ | ⟨h3, h4, h5, hk, rfl⟩ | ⟨h3, h4, rfl, hn, rfl⟩ | ⟨h3, h4, rfl, hn, rfl⟩ | ⟨h3, h4, hk, rfl⟩
  case' inr.inr.inr.inr.inl => rcases hk with rfl | rfl | rfl
  case' inr.inr.inr.inr.inr.inl => rcases hk with rfl | rfl | rfl
  case' inr.inr.inr.inr.inr.inr.inl => subst hn
  case' inr.inr.inr.inr.inr.inr.inr.inl =>
    have hn0 : ((n : Int) == 0) = false := by rw [beq_eq_false_iff_ne]; omega
  case' inr.inr.inr.inr.inr.inr.inr.inr => rcases hk with rfl | rfl | rfl | rfl
  all_goals
    go_enter Tryz.func24, Tryz.ntmps24
    go_wp2
    go_ret
    exact ⟨rfl, below_al (Below.refl _ _) _⟩
set_option maxRecDepth 100000 in
set_option maxHeartbeats 4000000 in
theorem ruleWithin_any (k mn mx : Int) (v : Value) (n : Int) (w : World) : Calls Tryz.prog 59 #[.agg (ruleA k mn mx v), .int .i64 n] w fun e w' => e = .returned (.bool (decide (mn ≤ n) && decide (n ≤ mx))) ∧ Below w.heap.size w w' := by
  unfold ruleA
  by_cases h1 : mn ≤ n
  · by_cases h2 : n ≤ mx
    · rw [decide_eq_true h1, decide_eq_true h2]
      go_enter Tryz.func59, Tryz.ntmps59
      go_wp2
      go_ret
      exact ⟨rfl, below_al (Below.refl _ _) _⟩
    · rw [decide_eq_true h1, decide_eq_false h2]
      go_enter Tryz.func59, Tryz.ntmps59
      go_wp2
      go_ret
      exact ⟨rfl, below_al (Below.refl _ _) _⟩
  · rw [decide_eq_false h1]
    go_enter Tryz.func59, Tryz.ntmps59
    go_wp2
    go_ret
    exact ⟨rfl, below_al (Below.refl _ _) _⟩
end Go.Proofs.YtdjlpmelmhhooaaGreatDoor
