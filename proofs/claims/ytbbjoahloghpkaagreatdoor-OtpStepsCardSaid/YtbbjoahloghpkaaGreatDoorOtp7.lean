/- The law OtpSteps: the walk. -/
import Derived.Test.YtbbjoahloghpkaaGreatDoorOtp5
namespace Go.Proofs.YtbbjoahloghpkaaGreatDoor
open Go Go.RowKit
set_option linter.unusedSimpArgs false
set_option linter.unusedVariables false

set_option maxRecDepth 100000 in
set_option maxHeartbeats 8000000 in
theorem otpSteps_walk (a0_0 a0_1 a0_2 : Int) (a1 a2 : ByteArray) (a3 : List UInt8) (a4 a5 : Int) (a6 : Bool) (w0_0 : (Lit.int .i64 a0_0).wf = true) (w0_1 : (Lit.int .u64 a0_1).wf = true) (w0_2 : (Lit.int .i64 a0_2).wf = true)
    (w1 : a1.size ≤ 140737488351232) (w2 : a2.size ≤ 140737488351232) (w3 : a3.length = 16) (w4 : (Lit.int .u64 a4).wf = true) (w5 : (Lit.int .u64 a5).wf = true) (w : World) (ht : PowTab w) :
    Calls Tryz.prog 3 #[.agg #[.int .i64 a0_0, .int .u64 a0_1, .int .i64 a0_2], .string a1, .string a2, .agg (idA a3), .int .u64 a4, .int .u64 a5, .bool a6] w fun e w' => e = .returned (.bool true) ∧ Below w.heap.size w w' := by
  obtain ⟨d, rfl, hd⟩ := u64_of_wf w0_1
  obtain ⟨now, rfl, hn⟩ := u64_of_wf w4
  obtain ⟨wait, rfl, hw⟩ := u64_of_wf w5
  obtain ⟨t1, t2⟩ := bounds_i64 w0_0
  clear w0_0 w0_1 w0_2 w4 w5
  have cA := hid otpAwake_any
  obtain ⟨M, hM⟩ : ∃ M : Nat, M = max a1.size a2.size := ⟨_, rfl⟩
  by_cases hbig : M ≤ 200
  · by_cases hmin : -9223372036854775808 < a0_0
    · exact otpSteps_small a0_0 d a0_2 a1 a2 a3 now wait a6 (by omega) (by omega) hmin (by omega) w3 hn hw w ht
    · have hmx := fun ts t w => run_mx2 (P := Tryz.prog) ts t .i64 (a1.size : Int) (a2.size : Int) w
      rw [show max (a1.size : Int) (a2.size : Int) = (M : Int) by omega] at hmx
      have h1 : ¬ (200 : Int) < (M : Int) := by omega
      have h1' : decide ((200 : Int) < (M : Int)) = false := decide_eq_false h1
      have cS := hid (fun w => small_any ⟨a0_0, d, a0_2⟩ false (decide_eq_false hmin) w)
      dsimp only at cS
      clear hM hmin ht t1 t2
      go_enter Tryz.func3, Tryz.ntmps3
      go_wp2_with (first
        | (go_at_call 4; with_reducible refine (cA.out _).mono ?_; rintro e w1 ⟨rfl, hB1⟩
           have r0 := hid (RowAt.below (RowAt.alloc (RowAt.new w _ _) _) hB1 (RowAt.lt (RowAt.alloc (RowAt.new w _ _) _)))
           have hb := hid (below_cat hB1 (below_al (below_al (Below.refl w.heap.size w) _) _))
           obtain ⟨c0, c1, c2⟩ := readT r0.out
           have cz := r0.out.lt)
        | (go_at_call 5; with_reducible refine (cS.out _).mono ?_; rintro e w2 ⟨rfl, hB2⟩))
      go_ret
      exact ⟨rfl, below_cat hB2 hb.out⟩
  · have hmx := fun ts t w => run_mx2 (P := Tryz.prog) ts t .i64 (a1.size : Int) (a2.size : Int) w
    rw [show max (a1.size : Int) (a2.size : Int) = (M : Int) by omega] at hmx
    have h1 : (200 : Int) < (M : Int) := by omega
    have h1' : decide ((200 : Int) < (M : Int)) = true := decide_eq_true h1
    clear hM ht t1 t2
    go_enter Tryz.func3, Tryz.ntmps3
    go_wp2_with (go_at_call 4; with_reducible refine (cA.out _).mono ?_; rintro e w1 ⟨rfl, hB1⟩)
    go_ret
    exact ⟨rfl, below_cat hB1 (below_al (below_al (Below.refl _ _) _) _)⟩
end Go.Proofs.YtbbjoahloghpkaaGreatDoor
