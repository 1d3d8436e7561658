/- The law DigitsDates: the walk. -/
import Derived.Test.YtbbjoahloghpkaaDoorDigB
namespace Go.Proofs.YtbbjoahloghpkaaDoor
open Go Go.RowKit
set_option linter.unusedSimpArgs false
set_option linter.unusedVariables false

set_option maxRecDepth 100000 in
set_option maxHeartbeats 4000000 in
theorem digitsDates_walk (a0 : ByteArray) (a1 a2 : Int) (w0 : a0.size ≤ 140737488351232) (w1 : (Lit.int .i64 a1).wf = true) (w2 : (Lit.int .i64 a2).wf = true) (w : World) :
    Calls Tryd.prog 4 #[.string a0, .int .i64 a1, .int .i64 a2] w fun e w' => e = .returned (.bool true) ∧ Below w.heap.size w w' := by
  have cA := hid digAwake_any
  clear w1 w2
  go_enter Tryd.func4, Tryd.ntmps4
  by_cases h : a0.size ≤ 100
  · have c1 := fun w => date_any a0 w0 w
    have c2 := fun w => refDate_any a0 w0 w
    have c3 := fun w => days_any a1 a2 w
    have c4 := fun w => refDays_any a1 a2 w
    obtain ⟨D, hD⟩ : ∃ D, D = dateN a0.data.toList := ⟨_, rfl⟩
    obtain ⟨N, hN⟩ : ∃ N, N = daysN a1 a2 := ⟨_, rfl⟩
    simp only [← hD] at c1 c2
    simp only [← hN] at c3 c4
    have h1 : ¬ (100 : Int) < (a0.size : Int) := by omega
    have h1' : decide ((100 : Int) < (a0.size : Int)) = false := decide_eq_false h1
    replace c1 := hid c1
    replace c2 := hid c2
    replace c3 := hid c3
    replace c4 := hid c4
    clear hD hN
    go_wp2_with (first
      | (go_at_call 11; refine (cA.out _).mono ?_; rintro e w1 ⟨rfl, hB1⟩)
      | (go_at_call 18; refine (c1.out _).mono ?_; rintro e w2 ⟨rfl, hB2⟩)
      | (go_at_call 19; refine (c2.out _).mono ?_; rintro e w3 ⟨rfl, hB3⟩)
      | (go_at_call 20; refine (c3.out _).mono ?_; rintro e w4 ⟨rfl, rfl⟩)
      | (go_at_call 21; refine (c4.out _).mono ?_; rintro e w5 ⟨rfl, hB5⟩))
    go_ret
    exact ⟨ret_true (by simp), below_cat hB5 (below_cat hB3 (below_cat hB2 hB1))⟩
  · have h1 : (100 : Int) < (a0.size : Int) := by omega
    have h1' : decide ((100 : Int) < (a0.size : Int)) = true := decide_eq_true h1
    go_wp2_with (go_at_call 11; refine (cA.out _).mono ?_; rintro e w1 ⟨rfl, hB1⟩)
    go_ret
    exact ⟨rfl, hB1⟩
end Go.Proofs.YtbbjoahloghpkaaDoor
