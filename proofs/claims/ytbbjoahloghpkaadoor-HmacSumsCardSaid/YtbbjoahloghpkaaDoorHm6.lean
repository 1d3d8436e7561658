/- The law HmacSums: the walk. Printed by mkHm6.py (this project's own). -/
import Derived.Test.YtbbjoahloghpkaaDoorHmA
import Derived.Test.YtbbjoahloghpkaaDoorSlots
namespace Go.Proofs.YtbbjoahloghpkaaDoor
open Go Go.RowKit
set_option linter.unusedSimpArgs false
set_option linter.unusedVariables false

theorem run_mx3 {P : Program} (ts : Array TypeId) (t : TypeId) (k : IntKind) (x y z : Int) (w : World) : (Builtin.max_ ts t #[.int k x, .int k y, .int k z]).run P w = .ok (.int k (max (max x y) z)) w := by
  have e : ∀ a b : Int, (if b > a then b else a) = max a b := fun a b => by omega
  simp only [Builtin.max_, List.foldlM_cons, List.foldlM_nil, Builtin.max2, Sem.run_bind, Sem.run_pure, Result.andThen, e]

set_option maxRecDepth 100000 in
set_option maxHeartbeats 8000000 in
theorem hmacSums_walk (key s t : ByteArray) (m : Int) (w0 : key.size ≤ 140737488351232) (w1 : s.size ≤ 140737488351232) (w2 : t.size ≤ 140737488351232) (w3 : (Lit.int .i64 m).wf = true) (w : World) :
    Calls Tryd.prog 6 #[.string key, .string s, .string t, .int .i64 m] w fun e w' => e = .returned (.bool true) ∧ Below w.heap.size w w' := by
  have cA := hid hmacAwake_any
  have hmxA := fun ts t' w => run_mx3 (P := Tryd.prog) ts t' .i64 (key.size : Int) (s.size : Int) (t.size : Int) w
  obtain ⟨M, hM⟩ : ∃ M : Nat, max (max (key.size : Int) (s.size : Int)) (t.size : Int) = (M : Int) := ⟨max (max key.size s.size) t.size, by omega⟩
  rw [hM] at hmxA
  by_cases h500 : M ≤ 500
  · have k1 : key.size ≤ 500 := by omega
    have k2 : s.size ≤ 500 := by omega
    have k3 : t.size ≤ 500 := by omega
    have h1 : ¬ (500 : Int) < (M : Int) := by omega
    have h1' : decide ((500 : Int) < (M : Int)) = false := decide_eq_false h1
    obtain ⟨st, hst⟩ : ∃ X, s ++ t = X := ⟨_, rfl⟩
    have hsts : st.size ≤ 1000 := by rw [← hst, ByteArray.size_append]; omega
    have cW := fun w => refHmac_any key st (by omega) (by omega) w
    have hcat : ¬ 9223372036854775807 < s.size + t.size := by omega
    have hmx := fun ts t' w => run_mx2 (P := Tryd.prog) ts t' .i64 m 0 w
    have hmn := fun ts t' w => run_mn2 (P := Tryd.prog) ts t' .i64 (max m 0) 32 w
    obtain ⟨k, hk⟩ : ∃ k : Nat, min (max m 0) 32 = (k : Int) := ⟨(min (max m 0) 32).toNat, by omega⟩
    have hk32 : k ≤ 32 := by omega
    have hk32i : (k : Int) ≤ 32 := by omega
    rw [hk] at hmn
    obtain ⟨H, hH⟩ : ∃ H, H = hmacS key st := ⟨_, rfl⟩
    have hHs : H.size = 32 := by rw [hH]; exact hmacS_size _ _
    simp only [← hH] at cW
    obtain ⟨Xs, hX⟩ : ∃ Xs, H.extract 0 k = Xs := ⟨_, rfl⟩
    have L2 : ∀ (V : World) (b : Nat), b < V.heap.size → (∀ (j : Nat) x, [s, t][j]? = some x → V.cell? ⟨b, 0 + j, none⟩ = some (.string x)) → Calls Tryd.prog 24 #[.string key, .slice (some ⟨b, 0, none⟩) 2 2] V fun e w' => e = .returned (.string H) ∧ Below V.heap.size V w' := fun V b h1 h2 => by
      have := hsum_any key (by omega) (some ⟨b, 0, none⟩) 2 2 [s, t] V (.inr ⟨b, 0, rfl, rfl, Nat.le_refl _, h1, h2⟩) (by simp) (by rw [joinS_two, hst]; omega)
      rwa [joinS_two, hst, ← hH] at this
    have L1 : ∀ (V : World) (b : Nat), b < V.heap.size → (∀ (j : Nat) x, [st][j]? = some x → V.cell? ⟨b, 0 + j, none⟩ = some (.string x)) → Calls Tryd.prog 24 #[.string key, .slice (some ⟨b, 0, none⟩) 1 1] V fun e w' => e = .returned (.string H) ∧ Below V.heap.size V w' := fun V b h1 h2 => by
      have := hsum_any key (by omega) (some ⟨b, 0, none⟩) 1 1 [st] V (.inr ⟨b, 0, rfl, rfl, Nat.le_refl _, h1, h2⟩) (by simp) (by rw [joinS_one]; omega)
      rwa [joinS_one, ← hH] at this
    have L3 : ∀ (V : World) (b : Nat), b < V.heap.size → (∀ (j : Nat) x, [s, t][j]? = some x → V.cell? ⟨b, 0 + j, none⟩ = some (.string x)) → Calls Tryd.prog 26 #[.string key, .int .i64 m, .slice (some ⟨b, 0, none⟩) 2 2] V fun e w' => e = .returned (.string Xs) ∧ Below V.heap.size V w' := fun V b h1 h2 => by
      have := short_any key (by omega) m (some ⟨b, 0, none⟩) 2 2 [s, t] V (.inr ⟨b, 0, rfl, rfl, Nat.le_refl _, h1, h2⟩) (by simp) (by rw [joinS_two, hst]; omega)
      rw [joinS_two, hst, ← hH, hk, Int.toNat_natCast, hX] at this
      exact this
    obtain ⟨D, hDd⟩ : ∃ D, D = decide (s = t) := ⟨_, rfl⟩
    have hD : (s.toList == t.toList) = D := by rw [ByteArray.toList_eq, ByteArray.toList_eq, hDd, Bool.eq_iff_iff, beq_iff_eq, decide_eq_true_iff]; exact (same_eq s t).symm
    have S1 := fun w => same_any s t (by omega) (by omega) w
    have S2 := fun w => same_any s s (by omega) (by omega) w
    simp only [← hDd] at S1
    simp only [decide_true] at S2
    have hs0 : s ++ (⟨#[]⟩ : ByteArray) = s := ByteArray.ext (by simp)
    have hcat0 : ¬ 9223372036854775807 < s.size := by omega
    replace cW := hid cW
    replace L1 := hid L1
    replace L2 := hid L2
    replace L3 := hid L3
    replace S1 := hid S1
    replace S2 := hid S2
    clear hM hk hH hDd w3
    go_enter Tryd.func6, Tryd.ntmps6
    go_wp2_with (first
      | (go_at_call 22; with_reducible refine (cA.out _).mono ?_; rintro e w1 ⟨rfl, hB1⟩)
      | (go_at_call 27; with_reducible refine (cW.out _).mono ?_; rintro e W ⟨rfl, hBW⟩))
    have hB0 := below_cat hBW hB1
    replace hB0 := hid hB0
    clear hB1 hBW
    refine wp_region_each 46 71 (phiOf [QV (.string key), QV (.string s), QV (.string t), SV [s, t], QV (.string H), QV (.string H), QV (.bool true), QV (.bool true), QV (.string key), QV (.string s), QV (.string t), QV (.string st), SV [st], QV (.string H), QV (.string H), QV (.bool true), QV (.bool true), QV (.bool true), QV (.string key), QV (.int .i64 m), QV (.string s), QV (.string t), SV [s, t], QV (.string Xs), QV (.string H), QV (.int .i64 m), QV (.int .i64 (max m 0)), QV (.int .i64 (k : Int)), QV (.string Xs), QV (.bool true), QV (.bool true), QV (.bool true), QV (.string s), QV (.string t), QV (.bool D), QV (.string s), QV (.string t), QV (.bool D), QV (.bool true), QV (.bool true), QV (.bool true), QV (.string s), QV (.string s), QV (.string s), QV (.bool true), QV (.bool true)]) (by kernel_rfl) (by kernel_rfl) (by kernel_rfl) (by kernel_rfl) (by kernel_rfl) rfl (phi_stays ?c6_st) ?c6_g ?c6_op ?c6_fin
    case c6_st => simp only [List.forall_mem_cons]; exact ⟨stays_qv _, stays_qv _, stays_qv _, stays_sv _, stays_qv _, stays_qv _, stays_qv _, stays_qv _, stays_qv _, stays_qv _, stays_qv _, stays_qv _, stays_sv _, stays_qv _, stays_qv _, stays_qv _, stays_qv _, stays_qv _, stays_qv _, stays_qv _, stays_qv _, stays_qv _, stays_sv _, stays_qv _, stays_qv _, stays_qv _, stays_qv _, stays_qv _, stays_qv _, stays_qv _, stays_qv _, stays_qv _, stays_qv _, stays_qv _, stays_qv _, stays_qv _, stays_qv _, stays_qv _, stays_qv _, stays_qv _, stays_qv _, stays_qv _, stays_qv _, stays_qv _, stays_qv _, stays_qv _, fun _ h => by cases h⟩
    case c6_g =>
      change ∀ p ∈ ([(7, true), (17, true), (31, true), (40, true)] : List (Nat × Bool)), _
      intro p hp
      simp only [List.mem_cons, List.not_mem_nil, or_false] at hp
      rcases hp with rfl | rfl | rfl | rfl <;> (intro v W h; exact h)
    case c6_op =>
      simp only [List.take_succ_cons, List.take_zero]
      refine ⟨fun a V hB hold hdep => ?_, ?_⟩
      · have h0 : a.tmps.getD 0 undef = .string key := (hold 0 (by kernel_rfl)).trans rfl
        unfold OpOk
        simp [execOp, go_sem, eval_tmp, eval_const, eval_func, h0]
        exact ⟨Below.refl _ _, rfl⟩
      refine ⟨fun a V hB hold hdep => ?_, ?_⟩
      · have h1 : a.tmps.getD 1 undef = .string s := (hold 1 (by kernel_rfl)).trans rfl
        unfold OpOk
        simp [execOp, go_sem, eval_tmp, eval_const, eval_func, h1]
        exact ⟨Below.refl _ _, rfl⟩
      refine ⟨fun a V hB hold hdep => ?_, ?_⟩
      · have h2 : a.tmps.getD 2 undef = .string t := (hold 2 (by kernel_rfl)).trans rfl
        unfold OpOk
        simp [execOp, go_sem, eval_tmp, eval_const, eval_func, h2]
        exact ⟨Below.refl _ _, rfl⟩
      refine ⟨fun a V hB hold hdep => ?_, ?_⟩
      · have h26 : a.tmps.getD 26 undef = .string s := hdep 1 26 (by kernel_rfl) rfl
        have h27 : a.tmps.getD 27 undef = .string t := hdep 2 27 (by kernel_rfl) rfl
        have g26 := (Array.getD_eq_getD_getElem? (xs := a.tmps) (i := 26) (d := undef)).symm.trans h26
        have g27 := (Array.getD_eq_getD_getElem? (xs := a.tmps) (i := 27) (d := undef)).symm.trans h27
        unfold OpOk
        simp [execOp, go_sem, eval_tmp, eval_const, eval_func, g26, g27]
        exact ⟨below_al (Below.refl _ _) _, sv_new _ _ [s, t] _ rfl⟩
      refine ⟨fun a V hB hold hdep => ?_, ?_⟩
      · have h25 : a.tmps.getD 25 undef = .string key := hdep 0 25 (by kernel_rfl) rfl
        obtain ⟨s28, h28, hl28, hc28⟩ := hdep 3 28 (by kernel_rfl) rfl
        unfold OpOk
        simp [execOp, go_sem, eval_tmp, eval_const, eval_func, h25, h28]
        refine (L2.out _ s28 hl28 hc28).mono ?_
        rintro e W2 ⟨rfl, hb⟩
        exact ⟨_, rfl, hb, rfl⟩
      refine ⟨fun a V hB hold hdep => ?_, ?_⟩
      · have h9 : a.tmps.getD 9 undef = .string H := (hold 9 (by kernel_rfl)).trans rfl
        unfold OpOk
        simp [execOp, go_sem, eval_tmp, eval_const, eval_func, h9]
        exact ⟨Below.refl _ _, rfl⟩
      refine ⟨fun a V hB hold hdep => ?_, ?_⟩
      · have h29 : a.tmps.getD 29 undef = .string H := hdep 4 29 (by kernel_rfl) rfl
        have h30 : a.tmps.getD 30 undef = .string H := hdep 5 30 (by kernel_rfl) rfl
        unfold OpOk
        simp [execOp, go_sem, eval_tmp, eval_const, eval_func, h29, h30]
        exact ⟨Below.refl _ _, rfl⟩
      refine ⟨fun a V hB hold hdep => ?_, ?_⟩
      · have h31 : a.tmps.getD 31 undef = .bool true := hdep 6 31 (by kernel_rfl) rfl
        unfold OpOk
        simp [execOp, go_sem, eval_tmp, eval_const, eval_func, h31]
        exact ⟨Below.refl _ _, rfl⟩
      refine ⟨fun a V hB hold hdep => ?_, ?_⟩
      · have h0 : a.tmps.getD 0 undef = .string key := (hold 0 (by kernel_rfl)).trans rfl
        unfold OpOk
        simp [execOp, go_sem, eval_tmp, eval_const, eval_func, h0]
        exact ⟨Below.refl _ _, rfl⟩
      refine ⟨fun a V hB hold hdep => ?_, ?_⟩
      · have h1 : a.tmps.getD 1 undef = .string s := (hold 1 (by kernel_rfl)).trans rfl
        unfold OpOk
        simp [execOp, go_sem, eval_tmp, eval_const, eval_func, h1]
        exact ⟨Below.refl _ _, rfl⟩
      refine ⟨fun a V hB hold hdep => ?_, ?_⟩
      · have h2 : a.tmps.getD 2 undef = .string t := (hold 2 (by kernel_rfl)).trans rfl
        unfold OpOk
        simp [execOp, go_sem, eval_tmp, eval_const, eval_func, h2]
        exact ⟨Below.refl _ _, rfl⟩
      refine ⟨fun a V hB hold hdep => ?_, ?_⟩
      · have h34 : a.tmps.getD 34 undef = .string s := hdep 9 34 (by kernel_rfl) rfl
        have h35 : a.tmps.getD 35 undef = .string t := hdep 10 35 (by kernel_rfl) rfl
        unfold OpOk
        simp [execOp, go_sem, eval_tmp, eval_const, eval_func, h34, h35, hst, hcat]
        exact ⟨Below.refl _ _, rfl⟩
      refine ⟨fun a V hB hold hdep => ?_, ?_⟩
      · have h36 : a.tmps.getD 36 undef = .string st := hdep 11 36 (by kernel_rfl) rfl
        have g36 := (Array.getD_eq_getD_getElem? (xs := a.tmps) (i := 36) (d := undef)).symm.trans h36
        unfold OpOk
        simp [execOp, go_sem, eval_tmp, eval_const, eval_func, g36]
        exact ⟨below_al (Below.refl _ _) _, sv_new _ _ [st] _ rfl⟩
      refine ⟨fun a V hB hold hdep => ?_, ?_⟩
      · have h33 : a.tmps.getD 33 undef = .string key := hdep 8 33 (by kernel_rfl) rfl
        obtain ⟨s37, h37, hl37, hc37⟩ := hdep 12 37 (by kernel_rfl) rfl
        unfold OpOk
        simp [execOp, go_sem, eval_tmp, eval_const, eval_func, h33, h37]
        refine (L1.out _ s37 hl37 hc37).mono ?_
        rintro e W2 ⟨rfl, hb⟩
        exact ⟨_, rfl, hb, rfl⟩
      refine ⟨fun a V hB hold hdep => ?_, ?_⟩
      · have h9 : a.tmps.getD 9 undef = .string H := (hold 9 (by kernel_rfl)).trans rfl
        unfold OpOk
        simp [execOp, go_sem, eval_tmp, eval_const, eval_func, h9]
        exact ⟨Below.refl _ _, rfl⟩
      refine ⟨fun a V hB hold hdep => ?_, ?_⟩
      · have h38 : a.tmps.getD 38 undef = .string H := hdep 13 38 (by kernel_rfl) rfl
        have h39 : a.tmps.getD 39 undef = .string H := hdep 14 39 (by kernel_rfl) rfl
        unfold OpOk
        simp [execOp, go_sem, eval_tmp, eval_const, eval_func, h38, h39]
        exact ⟨Below.refl _ _, rfl⟩
      refine ⟨fun a V hB hold hdep => ?_, ?_⟩
      · have h32 : a.tmps.getD 32 undef = .bool true := hdep 7 32 (by kernel_rfl) rfl
        have h40 : a.tmps.getD 40 undef = .bool true := hdep 15 40 (by kernel_rfl) rfl
        unfold OpOk
        simp [execOp, go_sem, eval_tmp, eval_const, eval_func, h32, h40]
        exact ⟨Below.refl _ _, rfl⟩
      refine ⟨fun a V hB hold hdep => ?_, ?_⟩
      · have h41 : a.tmps.getD 41 undef = .bool true := hdep 16 41 (by kernel_rfl) rfl
        unfold OpOk
        simp [execOp, go_sem, eval_tmp, eval_const, eval_func, h41]
        exact ⟨Below.refl _ _, rfl⟩
      refine ⟨fun a V hB hold hdep => ?_, ?_⟩
      · have h0 : a.tmps.getD 0 undef = .string key := (hold 0 (by kernel_rfl)).trans rfl
        unfold OpOk
        simp [execOp, go_sem, eval_tmp, eval_const, eval_func, h0]
        exact ⟨Below.refl _ _, rfl⟩
      refine ⟨fun a V hB hold hdep => ?_, ?_⟩
      · have h3 : a.tmps.getD 3 undef = .int .i64 m := (hold 3 (by kernel_rfl)).trans rfl
        unfold OpOk
        simp [execOp, go_sem, eval_tmp, eval_const, eval_func, h3]
        exact ⟨Below.refl _ _, rfl⟩
      refine ⟨fun a V hB hold hdep => ?_, ?_⟩
      · have h1 : a.tmps.getD 1 undef = .string s := (hold 1 (by kernel_rfl)).trans rfl
        unfold OpOk
        simp [execOp, go_sem, eval_tmp, eval_const, eval_func, h1]
        exact ⟨Below.refl _ _, rfl⟩
      refine ⟨fun a V hB hold hdep => ?_, ?_⟩
      · have h2 : a.tmps.getD 2 undef = .string t := (hold 2 (by kernel_rfl)).trans rfl
        unfold OpOk
        simp [execOp, go_sem, eval_tmp, eval_const, eval_func, h2]
        exact ⟨Below.refl _ _, rfl⟩
      refine ⟨fun a V hB hold hdep => ?_, ?_⟩
      · have h45 : a.tmps.getD 45 undef = .string s := hdep 20 45 (by kernel_rfl) rfl
        have h46 : a.tmps.getD 46 undef = .string t := hdep 21 46 (by kernel_rfl) rfl
        have g45 := (Array.getD_eq_getD_getElem? (xs := a.tmps) (i := 45) (d := undef)).symm.trans h45
        have g46 := (Array.getD_eq_getD_getElem? (xs := a.tmps) (i := 46) (d := undef)).symm.trans h46
        unfold OpOk
        simp [execOp, go_sem, eval_tmp, eval_const, eval_func, g45, g46]
        exact ⟨below_al (Below.refl _ _) _, sv_new _ _ [s, t] _ rfl⟩
      refine ⟨fun a V hB hold hdep => ?_, ?_⟩
      · have h43 : a.tmps.getD 43 undef = .string key := hdep 18 43 (by kernel_rfl) rfl
        have h44 : a.tmps.getD 44 undef = .int .i64 m := hdep 19 44 (by kernel_rfl) rfl
        obtain ⟨s47, h47, hl47, hc47⟩ := hdep 22 47 (by kernel_rfl) rfl
        unfold OpOk
        simp [execOp, go_sem, eval_tmp, eval_const, eval_func, h43, h44, h47]
        refine (L3.out _ s47 hl47 hc47).mono ?_
        rintro e W2 ⟨rfl, hb⟩
        exact ⟨_, rfl, hb, rfl⟩
      refine ⟨fun a V hB hold hdep => ?_, ?_⟩
      · have h9 : a.tmps.getD 9 undef = .string H := (hold 9 (by kernel_rfl)).trans rfl
        unfold OpOk
        simp [execOp, go_sem, eval_tmp, eval_const, eval_func, h9]
        exact ⟨Below.refl _ _, rfl⟩
      refine ⟨fun a V hB hold hdep => ?_, ?_⟩
      · have h3 : a.tmps.getD 3 undef = .int .i64 m := (hold 3 (by kernel_rfl)).trans rfl
        unfold OpOk
        simp [execOp, go_sem, eval_tmp, eval_const, eval_func, h3]
        exact ⟨Below.refl _ _, rfl⟩
      refine ⟨fun a V hB hold hdep => ?_, ?_⟩
      · have h50 : a.tmps.getD 50 undef = .int .i64 m := hdep 25 50 (by kernel_rfl) rfl
        unfold OpOk
        simp [execOp, go_sem, eval_tmp, eval_const, eval_func, h50, hmx]
        exact ⟨Below.refl _ _, rfl⟩
      refine ⟨fun a V hB hold hdep => ?_, ?_⟩
      · have h51 : a.tmps.getD 51 undef = .int .i64 (max m 0) := hdep 26 51 (by kernel_rfl) rfl
        unfold OpOk
        simp [execOp, go_sem, eval_tmp, eval_const, eval_func, h51, hmn]
        exact ⟨Below.refl _ _, rfl⟩
      refine ⟨fun a V hB hold hdep => ?_, ?_⟩
      · have h49 : a.tmps.getD 49 undef = .string H := hdep 24 49 (by kernel_rfl) rfl
        have h52 : a.tmps.getD 52 undef = .int .i64 (k : Int) := hdep 27 52 (by kernel_rfl) rfl
        unfold OpOk
        simp [execOp, go_sem, eval_tmp, eval_const, eval_func, h49, h52, hX, hk32i, hHs]
        exact ⟨Below.refl _ _, rfl⟩
      refine ⟨fun a V hB hold hdep => ?_, ?_⟩
      · have h48 : a.tmps.getD 48 undef = .string Xs := hdep 23 48 (by kernel_rfl) rfl
        have h53 : a.tmps.getD 53 undef = .string Xs := hdep 28 53 (by kernel_rfl) rfl
        unfold OpOk
        simp [execOp, go_sem, eval_tmp, eval_const, eval_func, h48, h53]
        exact ⟨Below.refl _ _, rfl⟩
      refine ⟨fun a V hB hold hdep => ?_, ?_⟩
      · have h42 : a.tmps.getD 42 undef = .bool true := hdep 17 42 (by kernel_rfl) rfl
        have h54 : a.tmps.getD 54 undef = .bool true := hdep 29 54 (by kernel_rfl) rfl
        unfold OpOk
        simp [execOp, go_sem, eval_tmp, eval_const, eval_func, h42, h54]
        exact ⟨Below.refl _ _, rfl⟩
      refine ⟨fun a V hB hold hdep => ?_, ?_⟩
      · have h55 : a.tmps.getD 55 undef = .bool true := hdep 30 55 (by kernel_rfl) rfl
        unfold OpOk
        simp [execOp, go_sem, eval_tmp, eval_const, eval_func, h55]
        exact ⟨Below.refl _ _, rfl⟩
      refine ⟨fun a V hB hold hdep => ?_, ?_⟩
      · have h1 : a.tmps.getD 1 undef = .string s := (hold 1 (by kernel_rfl)).trans rfl
        unfold OpOk
        simp [execOp, go_sem, eval_tmp, eval_const, eval_func, h1]
        exact ⟨Below.refl _ _, rfl⟩
      refine ⟨fun a V hB hold hdep => ?_, ?_⟩
      · have h2 : a.tmps.getD 2 undef = .string t := (hold 2 (by kernel_rfl)).trans rfl
        unfold OpOk
        simp [execOp, go_sem, eval_tmp, eval_const, eval_func, h2]
        exact ⟨Below.refl _ _, rfl⟩
      refine ⟨fun a V hB hold hdep => ?_, ?_⟩
      · have h57 : a.tmps.getD 57 undef = .string s := hdep 32 57 (by kernel_rfl) rfl
        have h58 : a.tmps.getD 58 undef = .string t := hdep 33 58 (by kernel_rfl) rfl
        unfold OpOk
        simp [execOp, go_sem, eval_tmp, eval_const, eval_func, h57, h58]
        first | ((with_reducible refine (S1.out _).mono ?_); rintro e W2 ⟨rfl, hb⟩; exact ⟨_, rfl, hb, rfl⟩) | ((with_reducible refine (S2.out _).mono ?_); rintro e W2 ⟨rfl, hb⟩; exact ⟨_, rfl, hb, rfl⟩)
      refine ⟨fun a V hB hold hdep => ?_, ?_⟩
      · have h1 : a.tmps.getD 1 undef = .string s := (hold 1 (by kernel_rfl)).trans rfl
        unfold OpOk
        simp [execOp, go_sem, eval_tmp, eval_const, eval_func, h1]
        exact ⟨Below.refl _ _, rfl⟩
      refine ⟨fun a V hB hold hdep => ?_, ?_⟩
      · have h2 : a.tmps.getD 2 undef = .string t := (hold 2 (by kernel_rfl)).trans rfl
        unfold OpOk
        simp [execOp, go_sem, eval_tmp, eval_const, eval_func, h2]
        exact ⟨Below.refl _ _, rfl⟩
      refine ⟨fun a V hB hold hdep => ?_, ?_⟩
      · have h60 : a.tmps.getD 60 undef = .string s := hdep 35 60 (by kernel_rfl) rfl
        have h61 : a.tmps.getD 61 undef = .string t := hdep 36 61 (by kernel_rfl) rfl
        unfold OpOk
        simp [execOp, go_sem, eval_tmp, eval_const, eval_func, h60, h61, hD]
        exact ⟨Below.refl _ _, rfl⟩
      refine ⟨fun a V hB hold hdep => ?_, ?_⟩
      · have h59 : a.tmps.getD 59 undef = .bool D := hdep 34 59 (by kernel_rfl) rfl
        have h62 : a.tmps.getD 62 undef = .bool D := hdep 37 62 (by kernel_rfl) rfl
        unfold OpOk
        simp [execOp, go_sem, eval_tmp, eval_const, eval_func, h59, h62]
        exact ⟨Below.refl _ _, rfl⟩
      refine ⟨fun a V hB hold hdep => ?_, ?_⟩
      · have h56 : a.tmps.getD 56 undef = .bool true := hdep 31 56 (by kernel_rfl) rfl
        have h63 : a.tmps.getD 63 undef = .bool true := hdep 38 63 (by kernel_rfl) rfl
        unfold OpOk
        simp [execOp, go_sem, eval_tmp, eval_const, eval_func, h56, h63]
        exact ⟨Below.refl _ _, rfl⟩
      refine ⟨fun a V hB hold hdep => ?_, ?_⟩
      · have h64 : a.tmps.getD 64 undef = .bool true := hdep 39 64 (by kernel_rfl) rfl
        unfold OpOk
        simp [execOp, go_sem, eval_tmp, eval_const, eval_func, h64]
        exact ⟨Below.refl _ _, rfl⟩
      refine ⟨fun a V hB hold hdep => ?_, ?_⟩
      · have h1 : a.tmps.getD 1 undef = .string s := (hold 1 (by kernel_rfl)).trans rfl
        unfold OpOk
        simp [execOp, go_sem, eval_tmp, eval_const, eval_func, h1]
        exact ⟨Below.refl _ _, rfl⟩
      refine ⟨fun a V hB hold hdep => ?_, ?_⟩
      · have h1 : a.tmps.getD 1 undef = .string s := (hold 1 (by kernel_rfl)).trans rfl
        unfold OpOk
        simp [execOp, go_sem, eval_tmp, eval_const, eval_func, h1]
        exact ⟨Below.refl _ _, rfl⟩
      refine ⟨fun a V hB hold hdep => ?_, ?_⟩
      · have h67 : a.tmps.getD 67 undef = .string s := hdep 42 67 (by kernel_rfl) rfl
        unfold OpOk
        simp [execOp, go_sem, eval_tmp, eval_const, eval_func, h67, hs0, hcat0]
        exact ⟨Below.refl _ _, rfl⟩
      refine ⟨fun a V hB hold hdep => ?_, ?_⟩
      · have h66 : a.tmps.getD 66 undef = .string s := hdep 41 66 (by kernel_rfl) rfl
        have h68 : a.tmps.getD 68 undef = .string s := hdep 43 68 (by kernel_rfl) rfl
        unfold OpOk
        simp [execOp, go_sem, eval_tmp, eval_const, eval_func, h66, h68]
        first | ((with_reducible refine (S1.out _).mono ?_); rintro e W2 ⟨rfl, hb⟩; exact ⟨_, rfl, hb, rfl⟩) | ((with_reducible refine (S2.out _).mono ?_); rintro e W2 ⟨rfl, hb⟩; exact ⟨_, rfl, hb, rfl⟩)
      refine ⟨fun a V hB hold hdep => ?_, ?_⟩
      · have h65 : a.tmps.getD 65 undef = .bool true := hdep 40 65 (by kernel_rfl) rfl
        have h69 : a.tmps.getD 69 undef = .bool true := hdep 44 69 (by kernel_rfl) rfl
        unfold OpOk
        simp [execOp, go_sem, eval_tmp, eval_const, eval_func, h65, h69]
        exact ⟨Below.refl _ _, rfl⟩
      trivial
    case c6_fin =>
      intro X V hB hX
      have e25 : X 25 = .string key := hX 0 25 (by decide) rfl
      have e26 : X 26 = .string s := hX 1 26 (by decide) rfl
      have e27 : X 27 = .string t := hX 2 27 (by decide) rfl
      obtain ⟨s28, e28, hl28, hc28⟩ := hX 3 28 (by decide) rfl
      have e29 : X 29 = .string H := hX 4 29 (by decide) rfl
      have e30 : X 30 = .string H := hX 5 30 (by decide) rfl
      have e31 : X 31 = .bool true := hX 6 31 (by decide) rfl
      have e32 : X 32 = .bool true := hX 7 32 (by decide) rfl
      have e33 : X 33 = .string key := hX 8 33 (by decide) rfl
      have e34 : X 34 = .string s := hX 9 34 (by decide) rfl
      have e35 : X 35 = .string t := hX 10 35 (by decide) rfl
      have e36 : X 36 = .string st := hX 11 36 (by decide) rfl
      obtain ⟨s37, e37, hl37, hc37⟩ := hX 12 37 (by decide) rfl
      have e38 : X 38 = .string H := hX 13 38 (by decide) rfl
      have e39 : X 39 = .string H := hX 14 39 (by decide) rfl
      have e40 : X 40 = .bool true := hX 15 40 (by decide) rfl
      have e41 : X 41 = .bool true := hX 16 41 (by decide) rfl
      have e42 : X 42 = .bool true := hX 17 42 (by decide) rfl
      have e43 : X 43 = .string key := hX 18 43 (by decide) rfl
      have e44 : X 44 = .int .i64 m := hX 19 44 (by decide) rfl
      have e45 : X 45 = .string s := hX 20 45 (by decide) rfl
      have e46 : X 46 = .string t := hX 21 46 (by decide) rfl
      obtain ⟨s47, e47, hl47, hc47⟩ := hX 22 47 (by decide) rfl
      have e48 : X 48 = .string Xs := hX 23 48 (by decide) rfl
      have e49 : X 49 = .string H := hX 24 49 (by decide) rfl
      have e50 : X 50 = .int .i64 m := hX 25 50 (by decide) rfl
      have e51 : X 51 = .int .i64 (max m 0) := hX 26 51 (by decide) rfl
      have e52 : X 52 = .int .i64 (k : Int) := hX 27 52 (by decide) rfl
      have e53 : X 53 = .string Xs := hX 28 53 (by decide) rfl
      have e54 : X 54 = .bool true := hX 29 54 (by decide) rfl
      have e55 : X 55 = .bool true := hX 30 55 (by decide) rfl
      have e56 : X 56 = .bool true := hX 31 56 (by decide) rfl
      have e57 : X 57 = .string s := hX 32 57 (by decide) rfl
      have e58 : X 58 = .string t := hX 33 58 (by decide) rfl
      have e59 : X 59 = .bool D := hX 34 59 (by decide) rfl
      have e60 : X 60 = .string s := hX 35 60 (by decide) rfl
      have e61 : X 61 = .string t := hX 36 61 (by decide) rfl
      have e62 : X 62 = .bool D := hX 37 62 (by decide) rfl
      have e63 : X 63 = .bool true := hX 38 63 (by decide) rfl
      have e64 : X 64 = .bool true := hX 39 64 (by decide) rfl
      have e65 : X 65 = .bool true := hX 40 65 (by decide) rfl
      have e66 : X 66 = .string s := hX 41 66 (by decide) rfl
      have e67 : X 67 = .string s := hX 42 67 (by decide) rfl
      have e68 : X 68 = .string s := hX 43 68 (by decide) rfl
      have e69 : X 69 = .bool true := hX 44 69 (by decide) rfl
      have e70 : X 70 = .bool true := hX 45 70 (by decide) rfl
      clear hX
      change wpList Tryd.prog _ _ _ { tmps := putAll [(25, X 25), (26, X 26), (27, X 27), (28, X 28), (29, X 29), (30, X 30), (31, X 31), (32, X 32), (33, X 33), (34, X 34), (35, X 35), (36, X 36), (37, X 37), (38, X 38), (39, X 39), (40, X 40), (41, X 41), (42, X 42), (43, X 43), (44, X 44), (45, X 45), (46, X 46), (47, X 47), (48, X 48), (49, X 49), (50, X 50), (51, X 51), (52, X 52), (53, X 53), (54, X 54), (55, X 55), (56, X 56), (57, X 57), (58, X 58), (59, X 59), (60, X 60), (61, X 61), (62, X 62), (63, X 63), (64, X 64), (65, X 65), (66, X 66), (67, X 67), (68, X 68), (69, X 69), (70, X 70)] _, defers := _ } V
      simp only [Act.put, putAll, List.foldl_cons, List.foldl_nil, List.setIfInBounds_toArray, List.set_cons_zero, List.set_cons_succ, List.drop_succ_cons, List.drop_zero, e25, e26, e27, e28, e29, e30, e31, e32, e33, e34, e35, e36, e37, e38, e39, e40, e41, e42, e43, e44, e45, e46, e47, e48, e49, e50, e51, e52, e53, e54, e55, e56, e57, e58, e59, e60, e61, e62, e63, e64, e65, e66, e67, e68, e69, e70]
      clear e25 e26 e27 e28 e29 e30 e31 e32 e33 e34 e35 e36 e37 e38 e39 e40 e41 e42 e43 e44 e45 e46 e47 e48 e49 e50 e51 e52 e53 e54 e55 e56 e57 e58 e59 e60 e61 e62 e63 e64 e65 e66 e67 e68 e69 e70
      go_wp2
      go_ret
      exact ⟨rfl, below_cat hB hB0.out⟩
  · have h1 : (500 : Int) < (M : Int) := by omega
    have h1' : decide ((500 : Int) < (M : Int)) = true := decide_eq_true h1
    clear hM
    go_enter Tryd.func6, Tryd.ntmps6
    go_wp2_with (go_at_call 22; refine (cA.out _).mono ?_; rintro e w1 ⟨rfl, hB1⟩)
    go_ret
    exact ⟨rfl, hB1⟩
end Go.Proofs.YtbbjoahloghpkaaDoor
