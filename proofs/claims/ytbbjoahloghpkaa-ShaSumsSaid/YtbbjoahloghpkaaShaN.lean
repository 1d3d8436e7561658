/- The law ShaSums: the walk. -/
import Derived.Test.YtbbjoahloghpkaaShaH
import Derived.Test.YtbbjoahloghpkaaShaI
import Derived.Test.YtbbjoahloghpkaaLeav
import Derived.Test.YtbbjoahloghpkaaSlots
import Derived.Stop.BytesEq
import Derived.Laws.StructEq
namespace Go.Proofs.Ytbbjoahloghpkaa
open Go Go.RowKit
set_option linter.unusedSimpArgs false
open Go.Extern.Stop (cell)

theorem SV.strs {xs : List ByteArray} {v : Value} {W : World} (h : SV xs v W) : ∃ b, v = .slice (some ⟨b, 0, none⟩) xs.length xs.length ∧ StrsAt W (some ⟨b, 0, none⟩) xs.length xs.length xs := by
  obtain ⟨b, h1, h2, h3⟩ := h
  exact ⟨b, h1, .inr ⟨b, 0, rfl, rfl, Nat.le_refl _, h2, h3⟩⟩
theorem sum_eql (s : ByteArray) (W : World) : (binOp .eql 26 (.agg (sumA s)) (.agg (sumA s))).run Try.prog W = .ok (.bool true) W := by
  have e : sumA s = ((sumL s).map cell).toArray := by
    symm
    refine rowA_of (by simp [sumL]) fun j hj => ?_
    simp [sumL, cell, hj]
  have h := run_eql_bytes (P := Try.prog) W 26 5 32 Try.underlying26 Try.underlying5 (fun w => by kernel_rfl) (sumL s) (sumL s) (by simp [sumL]) (by simp [sumL])
  rw [e, h]; simp
theorem sum_guard (x y : Operand) (s t : ByteArray) (W : World) : (eqGuard .eql 26 x y (.agg (sumA s)) (.agg (sumA t))).run Try.prog W = .ok () W := run_eqGuard_agg W .eql 26 x y _ _ (by kernel_rfl)
theorem join_one (t : ByteArray) : joinS [t] = t := ByteArray.ext (by simp [joinS, Lib.join])
theorem join_three (a b : ByteArray) : joinS [a, ⟨#[]⟩, b] = a ++ b := ByteArray.ext (by simp [joinS, Lib.join])
set_option maxRecDepth 100000 in
theorem sums_big (s : ByteArray) (hbig : decide ((1000 : Int) < (s.size : Int)) = true) (n : Nat) (k : Nat) (w : World) :
    Calls Try.prog 3 #[.string s, .int .u8 (n : Int), .int .u16 (k : Int)] w fun e w' => e = .returned (.bool true) ∧ Below w.heap.size w w' := by
  have hbig' : decide (1000 < s.size) = true := by rw [decide_eq_true_iff] at hbig ⊢; omega
  go_enter Try.func3, Try.ntmps3
  go_wp2_with (go_at_call 6; refine (shaAwake_any _).mono ?_; rintro e w1 ⟨rfl, hB1⟩)
  go_ret
  exact ⟨rfl, hB1⟩
set_option maxRecDepth 100000 in
set_option maxHeartbeats 4000000 in
theorem sums_small (s : ByteArray) (hs : s.size ≤ 1000) (n : Nat) (hn : n ≤ 255) (m : Nat) (hm : m ≤ 65535) (w : World) :
    Calls Try.prog 3 #[.string s, .int .u8 (n : Int), .int .u16 (m : Int)] w fun e w' => e = .returned (.bool true) ∧ Below w.heap.size w w' := by
  have hsm : decide ((1000 : Int) < (s.size : Int)) = false := by rw [decide_eq_false_iff_not]; omega
  have hsm' : decide (1000 < s.size) = false := by rw [decide_eq_false_iff_not]; omega
  have LR := fun w => repeat_any ⟨#[97]⟩ n w (by omega) (by show 1 * n ≤ _; omega)
  obtain ⟨R, hR⟩ : ∃ R : ByteArray, R = ⟨(Lib.repeatL (⟨#[97]⟩ : ByteArray).data.toList n).toArray⟩ := ⟨_, rfl⟩
  rw [← hR] at LR
  have hRs : R.size = n := by
    rw [hR]; show (Lib.repeatL (⟨#[97]⟩ : ByteArray).data.toList n).toArray.size = n
    rw [List.size_toArray, repeatL_len]; show 1 * n = n; omega
  obtain ⟨t, ht⟩ : ∃ t, t = s ++ R := ⟨_, rfl⟩
  have hts : t.size = s.size + n := by rw [ht, ByteArray.size_append, hRs]
  have hRs2 : R.size ≤ 255 := by omega
  obtain ⟨k, hk⟩ : ∃ k, k = m % (t.size + 1) := ⟨_, rfl⟩
  have hkt : k ≤ t.size := by rw [hk]; have := Nat.mod_lt m (show 0 < t.size + 1 by omega); omega
  have hki : (m : Int) % ((t.size : Int) + 1) = (k : Int) := by rw [hk]; simp
  have ht1255 : t.size ≤ 1255 := by omega
  have hst : s ++ R = t := ht.symm
  have LS := fun w => refSum_any t (by omega) w
  replace LR := hid LR
  replace LS := hid LS
  have hti : (t.size : Int) ≤ 1255 := by omega
  have hti0 : (0 : Int) ≤ (t.size : Int) := by omega
  have hki2 : (k : Int) ≤ (t.size : Int) := by omega
  obtain ⟨x, hx⟩ : ∃ x, x = lastS ⟨#[]⟩ := ⟨_, rfl⟩
  have hz := zero32 x
  clear hx hk ht hR hts hRs
  go_enter Try.func3, Try.ntmps3
  go_wp2_with (first
    | (go_at_call 6; refine (shaAwake_any _).mono ?_; rintro e w1 ⟨rfl, hB1⟩)
    | (go_at_call 7; with_reducible refine (LR.out _).mono ?_; rintro e w2 ⟨rfl, hB2⟩)
    | (go_at_call 8; with_reducible refine (LS.out _).mono ?_; rintro e w3 ⟨rfl, hB3⟩
       have hB := below_cat hB3 (below_cat hB2 hB1)
       replace hB := hid hB
       clear hB1 hB2 hB3
       clear w1 w2)
    | (refine wpList_store_row rfl 26 _ _ rfl w3.heap.size (sumA t) rfl rfl 26 (rowA 32 (outV x 0)) (RowAt.new _ _ _) (by rw [info32]; simp [sumA, rowA_size]) (by simp [sumA, rowA_size]) (sumA_one _) ?_
       have r0 := (RowAt.new w3 (rowA 32 (outV x 0)) 26).setRow (sumA t)
       have hB4 := below_setRow (below_al hB.out (.cells (rowA 32 (outV x 0)) 26)) hB.out.size (sumA t)
       obtain ⟨A, hA⟩ : ∃ A, A = w3.heap.size := ⟨_, rfl⟩
       rw [← hA] at r0 hB4 ⊢
       obtain ⟨W, hW⟩ : ∃ W, W = (w3.alloc (.cells (rowA 32 (outV x 0)) 26)).setRow A (sumA t) := ⟨_, rfl⟩
       rw [← hW] at r0 hB4 ⊢
       clear hA hW hB
       clear w3
       replace r0 := hid r0
       replace hB4 := hid hB4))
  have LN := fun w => new_any w
  have LA1 := fun w => add_any ⟨#[]⟩ (t.extract 0 k) (by decide) (by rw [ByteArray.size_extract]; omega) w
  have LA2 := fun w => add_any (t.extract 0 k) (t.extract k t.size) (by rw [ByteArray.size_extract]; omega) (by rw [ByteArray.size_extract]; omega) w
  have hcat : t.extract 0 k ++ t.extract k t.size = t := by
    rw [ByteArray.extract_append_extract]
    rw [show min 0 k = 0 by omega, show max k t.size = t.size by omega]; exact ByteArray.extract_zero_size
  rw [hcat] at LA2
  obtain ⟨t1, ht1⟩ : ∃ t1, t1 = t.extract 0 k := ⟨_, rfl⟩
  have he1 : (⟨#[]⟩ : ByteArray) ++ t1 = t1 := ByteArray.ext (by simp)
  have ht1s : t1.size ≤ 1255 := by rw [ht1, ByteArray.size_extract]; omega
  rw [← ht1, he1] at LA1
  rw [← ht1] at LA2 hcat
  have hex1 : t.extract 0 k = t1 := ht1.symm
  obtain ⟨t2, ht2⟩ : ∃ t2, t2 = t.extract k t.size := ⟨_, rfl⟩
  have ht2s : t2.size ≤ 1255 := by rw [ht2, ByteArray.size_extract]; omega
  rw [← ht2] at LA2 hcat
  have hex2 : t.extract k t.size = t2 := ht2.symm
  have hex2' : t.extract k (k + (t.size - k)) = t2 := by rw [ht2]; congr 1; omega
  have L1 : ∀ (V : World) (b : Nat), b < V.heap.size → (∀ (j : Nat) x, [t][j]? = some x → V.cell? ⟨b, 0 + j, none⟩ = some (.string x)) → Calls Try.prog 11 #[.slice (some ⟨b, 0, none⟩) 1 1] V fun e w' => e = .returned (.agg (sumA t)) ∧ Below V.heap.size V w' := fun V b h1 h2 => by
    have := sum_any (some ⟨b, 0, none⟩) 1 1 [t] V (.inr ⟨b, 0, rfl, rfl, Nat.le_refl _, h1, h2⟩) (by simp) (by rw [join_one]; omega)
    rwa [join_one] at this
  have LT : ∀ (V : World) (b : Nat), b < V.heap.size → (∀ (j : Nat) x, [t][j]? = some x → V.cell? ⟨b, 0 + j, none⟩ = some (.string x)) → Calls Try.prog 13 #[.slice (some ⟨b, 0, none⟩) 1 1] V fun e w' => e = .returned (.string (sumS t)) ∧ Below V.heap.size V w' := fun V b h1 h2 => by
    have := text_any (some ⟨b, 0, none⟩) 1 1 [t] V (.inr ⟨b, 0, rfl, rfl, Nat.le_refl _, h1, h2⟩) (by simp) (by rw [join_one]; omega)
    rwa [join_one] at this
  have L3 : ∀ (V : World) (b : Nat), b < V.heap.size → (∀ (j : Nat) x, [t1, ⟨#[]⟩, t2][j]? = some x → V.cell? ⟨b, 0 + j, none⟩ = some (.string x)) → Calls Try.prog 11 #[.slice (some ⟨b, 0, none⟩) 3 3] V fun e w' => e = .returned (.agg (sumA t)) ∧ Below V.heap.size V w' := fun V b h1 h2 => by
    have := sum_any (some ⟨b, 0, none⟩) 3 3 [t1, ⟨#[]⟩, t2] V (.inr ⟨b, 0, rfl, rfl, Nat.le_refl _, h1, h2⟩) (by simp) (by rw [join_three, hcat]; omega)
    rwa [join_three, hcat] at this
  have HS1 := fun w => hash_sum t (by omega) w
  have HS2 := fun w => hash_sum t1 (by omega) w
  have HS3 := fun w => hash_sum ⟨#[]⟩ (by decide) w
  have RS1 := fun w => refSum_any t1 (by omega) w
  have RS2 := fun w => refSum_any ⟨#[]⟩ (by decide) w
  have RT := fun w => refText_any t (by omega) w
  replace L1 := hid L1
  replace LT := hid LT
  replace L3 := hid L3
  replace HS1 := hid HS1
  replace HS2 := hid HS2
  replace HS3 := hid HS3
  replace RS1 := hid RS1
  replace RS2 := hid RS2
  replace RT := hid RT
  replace LN := hid LN
  replace LA1 := hid LA1
  replace LA2 := hid LA2
  replace hcat := hid hcat
  clear he1 ht1 ht2
  go_wp2
  refine wp_region_each 6 87 (phiOf [QV (.agg #[.string ⟨#[]⟩]), QV (.string t), QV (.int .i64 (k : Int)), QV (.string t1), QV (.agg #[.string t1]), PV 29 #[.string ⟨#[]⟩] W.heap.size]) (by kernel_rfl) (by kernel_rfl) (by kernel_rfl) (by kernel_rfl) (by kernel_rfl) rfl (phi_stays ?c8_st) ?c8_g ?c8_op ?c8_fin
  case c8_st => simp only [List.forall_mem_cons]; exact ⟨stays_qv _, stays_qv _, stays_qv _, stays_qv _, stays_qv _, stays_pv _ _ _, fun _ h => by cases h⟩
  case c8_g =>
    change ∀ p ∈ ([] : List (Nat × Bool)), _
    intro p hp
    cases hp
  case c8_op =>
    simp only [List.take_succ_cons, List.take_zero]
    refine ⟨fun a V hB hold hdep => ?_, ?_⟩
    · unfold OpOk
      simp [execOp, go_sem, eval_tmp, eval_const, eval_func]
      (with_reducible refine (LN.out _).mono ?_); rintro e W2 ⟨rfl, hb⟩; exact ⟨_, rfl, hb, rfl⟩
    refine ⟨fun a V hB hold hdep => ?_, ?_⟩
    · have h7 : a.tmps.getD 7 undef = .string t := (hold 7 (by kernel_rfl)).trans rfl
      unfold OpOk
      simp [execOp, go_sem, eval_tmp, eval_const, eval_func, h7]
      exact ⟨Below.refl _ _, rfl⟩
    refine ⟨fun a V hB hold hdep => ?_, ?_⟩
    · have h8 : a.tmps.getD 8 undef = .int .i64 (k : Int) := (hold 8 (by kernel_rfl)).trans rfl
      unfold OpOk
      simp [execOp, go_sem, eval_tmp, eval_const, eval_func, h8]
      exact ⟨Below.refl _ _, rfl⟩
    refine ⟨fun a V hB hold hdep => ?_, ?_⟩
    · have h32 : a.tmps.getD 32 undef = .string t := hdep 1 32 (by kernel_rfl) rfl
      have h33 : a.tmps.getD 33 undef = .int .i64 (k : Int) := hdep 2 33 (by kernel_rfl) rfl
      unfold OpOk
      simp [execOp, go_sem, eval_tmp, eval_const, eval_func, h32, h33, hex1, hkt]
      exact ⟨Below.refl _ _, rfl⟩
    refine ⟨fun a V hB hold hdep => ?_, ?_⟩
    · have h31 : a.tmps.getD 31 undef = .agg #[.string ⟨#[]⟩] := hdep 0 31 (by kernel_rfl) rfl
      have h34 : a.tmps.getD 34 undef = .string t1 := hdep 3 34 (by kernel_rfl) rfl
      unfold OpOk
      simp [execOp, go_sem, eval_tmp, eval_const, eval_func, h31, h34]
      (with_reducible refine (LA1.out _).mono ?_); rintro e W2 ⟨rfl, hb⟩; exact ⟨_, rfl, hb, rfl⟩
    refine ⟨fun a V hB hold hdep => ?_, ?_⟩
    · unfold OpOk
      simp [execOp, go_sem, eval_tmp, eval_const, eval_func]
      exact ⟨below_al (Below.refl _ _) _, _, rfl, RowAt.new _ _ _, hB.size⟩
    trivial
  case c8_fin =>
    intro X V hB hX
    have e31 : X 31 = .agg #[.string ⟨#[]⟩] := hX 0 31 (by decide) rfl
    have e32 : X 32 = .string t := hX 1 32 (by decide) rfl
    have e33 : X 33 = .int .i64 (k : Int) := hX 2 33 (by decide) rfl
    have e34 : X 34 = .string t1 := hX 3 34 (by decide) rfl
    have e35 : X 35 = .agg #[.string t1] := hX 4 35 (by decide) rfl
    obtain ⟨b10, e10, hb10, hw10⟩ := hX 5 10 (by decide) rfl
    clear hX
    change wpList Try.prog _ _ _ { tmps := putAll [(31, X 31), (32, X 32), (33, X 33), (34, X 34), (35, X 35), (10, X 10)] _, defers := _ } V
    simp only [Act.put, putAll, List.foldl_cons, List.foldl_nil, List.setIfInBounds_toArray, List.set_cons_zero, List.set_cons_succ, List.drop_succ_cons, List.drop_zero, e31, e32, e33, e34, e35, e10]
    clear e31 e32 e33 e34 e35 e10
    have r0' := r0.out.below hB r0.out.lt
    have hB4' := below_cat hB hB4.out
    have hAb : A < b10 := Nat.lt_of_lt_of_le r0.out.lt hw10
    have hwb : w.heap.size ≤ b10 := Nat.le_trans hB4.out.size hw10
    have c10 : V.cell? ⟨b10, 0, none⟩ = some (.string ⟨#[]⟩) := hb10.cell rfl
    have f10 := hb10.free 0
    have n10 := hb10.set 0 (.string t1)
    have n0 := r0'.other ⟨b10, 0, none⟩ (.string t1) (by simp <;> omega)
    have nB := hB4'.setCell (p := ⟨b10, 0, none⟩) (by simp <;> omega) (.string t1)
    replace n10 := hid n10
    replace n0 := hid n0
    replace nB := hid nB
    clear hB r0 hB4 hw10 r0' hB4' hb10
    go_wp2
    clear c10 f10
    clear W
    obtain ⟨W, hW⟩ : ∃ W, W = V.setCell ⟨b10, 0, none⟩ (.string t1) := ⟨_, rfl⟩
    have r10 := n10.out.eqA (A' := #[.string t1]) rfl
    have r0 := n0.out
    have hB4 := nB.out
    rw [← hW] at r10 r0 hB4 ⊢
    clear hW n10 n0 nB
    clear X V
    replace r10 := hid r10
    replace r0 := hid r0
    replace hB4 := hid hB4
    refine wp_region_each 6 87 (phiOf [QV (.agg #[.string t1]), QV (.string t), QV (.int .i64 (k : Int)), QV (.string t2), QV (.agg #[.string t]), PV 29 #[.string ⟨#[]⟩] W.heap.size]) (by kernel_rfl) (by kernel_rfl) (by kernel_rfl) (by kernel_rfl) (by kernel_rfl) rfl (phi_stays ?c9_st) ?c9_g ?c9_op ?c9_fin
    case c9_st => simp only [List.forall_mem_cons]; exact ⟨stays_qv _, stays_qv _, stays_qv _, stays_qv _, stays_qv _, stays_pv _ _ _, fun _ h => by cases h⟩
    case c9_g =>
      change ∀ p ∈ ([] : List (Nat × Bool)), _
      intro p hp
      cases hp
    case c9_op =>
      simp only [List.take_succ_cons, List.take_zero]
      refine ⟨fun a V hB hold hdep => ?_, ?_⟩
      · have h10 : a.tmps.getD 10 undef = .pointer (some ⟨b10, 0, none⟩) := (hold 10 (by kernel_rfl)).trans rfl
        exact opOk_load 29 _ rfl b10 (by rw [eval_tmp, h10]) 29 (#[.string t1]) _ (r10.out.below hB r10.out.lt) Try.underlying29 rfl (by rw [infoH]; rfl) rfl
      refine ⟨fun a V hB hold hdep => ?_, ?_⟩
      · have h7 : a.tmps.getD 7 undef = .string t := (hold 7 (by kernel_rfl)).trans rfl
        unfold OpOk
        simp [execOp, go_sem, eval_tmp, eval_const, eval_func, h7]
        exact ⟨Below.refl _ _, rfl⟩
      refine ⟨fun a V hB hold hdep => ?_, ?_⟩
      · have h8 : a.tmps.getD 8 undef = .int .i64 (k : Int) := (hold 8 (by kernel_rfl)).trans rfl
        unfold OpOk
        simp [execOp, go_sem, eval_tmp, eval_const, eval_func, h8]
        exact ⟨Below.refl _ _, rfl⟩
      refine ⟨fun a V hB hold hdep => ?_, ?_⟩
      · have h37 : a.tmps.getD 37 undef = .string t := hdep 1 37 (by kernel_rfl) rfl
        have h38 : a.tmps.getD 38 undef = .int .i64 (k : Int) := hdep 2 38 (by kernel_rfl) rfl
        unfold OpOk
        simp [execOp, go_sem, eval_tmp, eval_const, eval_func, h37, h38, hex2, hkt, hex2']
        exact ⟨Below.refl _ _, rfl⟩
      refine ⟨fun a V hB hold hdep => ?_, ?_⟩
      · have h36 : a.tmps.getD 36 undef = .agg #[.string t1] := hdep 0 36 (by kernel_rfl) rfl
        have h39 : a.tmps.getD 39 undef = .string t2 := hdep 3 39 (by kernel_rfl) rfl
        unfold OpOk
        simp [execOp, go_sem, eval_tmp, eval_const, eval_func, h36, h39]
        (with_reducible refine (LA2.out _).mono ?_); rintro e W2 ⟨rfl, hb⟩; exact ⟨_, rfl, hb, rfl⟩
      refine ⟨fun a V hB hold hdep => ?_, ?_⟩
      · unfold OpOk
        simp [execOp, go_sem, eval_tmp, eval_const, eval_func]
        exact ⟨below_al (Below.refl _ _) _, _, rfl, RowAt.new _ _ _, hB.size⟩
      trivial
    case c9_fin =>
      intro X V hB hX
      have e36 : X 36 = .agg #[.string t1] := hX 0 36 (by decide) rfl
      have e37 : X 37 = .string t := hX 1 37 (by decide) rfl
      have e38 : X 38 = .int .i64 (k : Int) := hX 2 38 (by decide) rfl
      have e39 : X 39 = .string t2 := hX 3 39 (by decide) rfl
      have e40 : X 40 = .agg #[.string t] := hX 4 40 (by decide) rfl
      obtain ⟨b11, e11, hb11, hw11⟩ := hX 5 11 (by decide) rfl
      clear hX
      change wpList Try.prog _ _ _ { tmps := putAll [(36, X 36), (37, X 37), (38, X 38), (39, X 39), (40, X 40), (11, X 11)] _, defers := _ } V
      simp only [Act.put, putAll, List.foldl_cons, List.foldl_nil, List.setIfInBounds_toArray, List.set_cons_zero, List.set_cons_succ, List.drop_succ_cons, List.drop_zero, e36, e37, e38, e39, e40, e11]
      clear e36 e37 e38 e39 e40 e11
      have r0' := r0.out.below hB r0.out.lt
      have r10' := r10.out.below hB r10.out.lt
      have hB4' := below_cat hB hB4.out
      have hAb : A < b11 := Nat.lt_of_lt_of_le r0.out.lt hw11
      have hbb : b10 < b11 := Nat.lt_of_lt_of_le r10.out.lt hw11
      have hwb1 : w.heap.size ≤ b11 := Nat.le_trans hB4.out.size hw11
      have c11 : V.cell? ⟨b11, 0, none⟩ = some (.string ⟨#[]⟩) := hb11.cell rfl
      have f11 := hb11.free 0
      have n11 := hb11.set 0 (.string t)
      have n0 := r0'.other ⟨b11, 0, none⟩ (.string t) (by simp <;> omega)
      have n10 := r10'.other ⟨b11, 0, none⟩ (.string t) (by simp <;> omega)
      have nB := hB4'.setCell (p := ⟨b11, 0, none⟩) (by simp <;> omega) (.string t)
      replace n11 := hid n11
      replace n10 := hid n10
      replace n0 := hid n0
      replace nB := hid nB
      clear hB r0 r10 hB4 hw11 r0' r10' hB4' hb11
      go_wp2
      clear c11 f11
      clear W
      obtain ⟨U, hU⟩ : ∃ U, U = V.setCell ⟨b11, 0, none⟩ (.string t) := ⟨_, rfl⟩
      have r12 := RowAt.new U #[.string ⟨#[]⟩] 29
      have r11 := (n11.out.eqA (A' := #[.string t]) rfl)
      have r10 := n10.out
      have r0 := n0.out
      have hB4 := nB.out
      have hUV : V.heap.size = U.heap.size := by rw [hU, World.size_setCell]
      rw [← hU] at r11 r10 r0 hB4 ⊢
      rw [hUV]
      clear hUV
      replace r11 := r11.alloc (.cells #[.string ⟨#[]⟩] 29)
      replace r10 := r10.alloc (.cells #[.string ⟨#[]⟩] 29)
      replace r0 := r0.alloc (.cells #[.string ⟨#[]⟩] 29)
      replace hB4 := below_al hB4 (.cells #[.string ⟨#[]⟩] 29)
      obtain ⟨b12, hb12⟩ : ∃ b, b = U.heap.size := ⟨_, rfl⟩
      rw [← hb12] at r12 ⊢
      obtain ⟨W, hW⟩ : ∃ W, W = U.alloc (.cells #[.string ⟨#[]⟩] 29) := ⟨_, rfl⟩
      rw [← hW] at r12 r11 r10 r0 hB4 ⊢
      clear hW hU hb12 n11 n10 n0 nB
      clear X V U
      replace r12 := hid r12
      replace r11 := hid r11
      replace r10 := hid r10
      replace r0 := hid r0
      replace hB4 := hid hB4
      refine wp_region_each 46 87 (phiOf [QV (.string t), SV [t], QV (.agg (sumA t)), QV (.agg (sumA t)), QV (.bool true), QV (.bool true), QV (.string t), QV (.int .i64 (k : Int)), QV (.string t1), QV (.string t), QV (.int .i64 (k : Int)), QV (.string t2), SV [t1, ⟨#[]⟩, t2], QV (.agg (sumA t)), QV (.agg (sumA t)), QV (.bool true), QV (.bool true), QV (.bool true), QV (.agg #[.string t]), QV (.agg (sumA t)), QV (.agg (sumA t)), QV (.bool true), QV (.bool true), QV (.bool true), QV (.agg #[.string t1]), QV (.agg (sumA t1)), QV (.string t), QV (.int .i64 (k : Int)), QV (.string t1), QV (.agg (sumA t1)), QV (.bool true), QV (.bool true), QV (.bool true), QV (.string t), SV [t], QV (.string (sumS t)), QV (.string t), QV (.string (sumS t)), QV (.bool true), QV (.bool true), QV (.bool true), QV (.agg #[.string ⟨#[]⟩]), QV (.agg (sumA ⟨#[]⟩)), QV (.agg (sumA ⟨#[]⟩)), QV (.bool true), QV (.bool true)]) (by kernel_rfl) (by kernel_rfl) (by kernel_rfl) (by kernel_rfl) (by kernel_rfl) rfl (phi_stays ?c11_st) ?c11_g ?c11_op ?c11_fin
      case c11_st => simp only [List.forall_mem_cons]; exact ⟨stays_qv _, stays_sv _, stays_qv _, stays_qv _, stays_qv _, stays_qv _, stays_qv _, stays_qv _, stays_qv _, stays_qv _, stays_qv _, stays_qv _, stays_sv _, stays_qv _, stays_qv _, stays_qv _, stays_qv _, stays_qv _, stays_qv _, stays_qv _, stays_qv _, stays_qv _, stays_qv _, stays_qv _, stays_qv _, stays_qv _, stays_qv _, stays_qv _, stays_qv _, stays_qv _, stays_qv _, stays_qv _, stays_qv _, stays_qv _, stays_sv _, stays_qv _, stays_qv _, stays_qv _, stays_qv _, stays_qv _, stays_qv _, stays_qv _, stays_qv _, stays_qv _, stays_qv _, stays_qv _, fun _ h => by cases h⟩
      case c11_g =>
        change ∀ p ∈ ([(5, true), (17, true), (23, true), (32, true), (40, true)] : List (Nat × Bool)), _
        intro p hp
        simp only [List.mem_cons, List.not_mem_nil, or_false] at hp
        rcases hp with rfl | rfl | rfl | rfl | rfl <;> (intro v W h; exact h)
      case c11_op =>
        simp only [List.take_succ_cons, List.take_zero]
        refine ⟨fun a V hB hold hdep => ?_, ?_⟩
        · have h7 : a.tmps.getD 7 undef = .string t := (hold 7 (by kernel_rfl)).trans rfl
          unfold OpOk
          simp [execOp, go_sem, eval_tmp, eval_const, eval_func, h7]
          exact ⟨Below.refl _ _, rfl⟩
        refine ⟨fun a V hB hold hdep => ?_, ?_⟩
        · have h41 : a.tmps.getD 41 undef = .string t := hdep 0 41 (by kernel_rfl) rfl
          have g41 := (Array.getD_eq_getD_getElem? (xs := a.tmps) (i := 41) (d := undef)).symm.trans h41
          unfold OpOk
          simp [execOp, go_sem, eval_tmp, eval_const, eval_func, g41]
          exact ⟨below_al (Below.refl _ _) _, sv_new _ _ [t] _ rfl⟩
        refine ⟨fun a V hB hold hdep => ?_, ?_⟩
        · obtain ⟨s42, h42, hl42, hc42⟩ := hdep 1 42 (by kernel_rfl) rfl
          unfold OpOk
          simp [execOp, go_sem, eval_tmp, eval_const, eval_func, h42]
          refine (L1.out _ s42 hl42 hc42).mono ?_
          rintro e W2 ⟨rfl, hb⟩
          exact ⟨_, rfl, hb, rfl⟩
        refine ⟨fun a V hB hold hdep => ?_, ?_⟩
        · have h9 : a.tmps.getD 9 undef = .pointer (some ⟨A, 0, none⟩) := (hold 9 (by kernel_rfl)).trans rfl
          exact opOk_load 26 _ rfl A (by rw [eval_tmp, h9]) 26 (sumA t) _ (r0.out.below hB r0.out.lt) Try.underlying26 rfl (by rw [info32]; simp [sumA, rowA_size]) rfl
        refine ⟨fun a V hB hold hdep => ?_, ?_⟩
        · have h43 : a.tmps.getD 43 undef = .agg (sumA t) := hdep 2 43 (by kernel_rfl) rfl
          have h44 : a.tmps.getD 44 undef = .agg (sumA t) := hdep 3 44 (by kernel_rfl) rfl
          unfold OpOk
          simp [execOp, go_sem, eval_tmp, eval_const, eval_func, h43, h44, sum_eql, sum_guard]
          exact ⟨Below.refl _ _, rfl⟩
        refine ⟨fun a V hB hold hdep => ?_, ?_⟩
        · have h45 : a.tmps.getD 45 undef = .bool true := hdep 4 45 (by kernel_rfl) rfl
          unfold OpOk
          simp [execOp, go_sem, eval_tmp, eval_const, eval_func, h45]
          exact ⟨Below.refl _ _, rfl⟩
        refine ⟨fun a V hB hold hdep => ?_, ?_⟩
        · have h7 : a.tmps.getD 7 undef = .string t := (hold 7 (by kernel_rfl)).trans rfl
          unfold OpOk
          simp [execOp, go_sem, eval_tmp, eval_const, eval_func, h7]
          exact ⟨Below.refl _ _, rfl⟩
        refine ⟨fun a V hB hold hdep => ?_, ?_⟩
        · have h8 : a.tmps.getD 8 undef = .int .i64 (k : Int) := (hold 8 (by kernel_rfl)).trans rfl
          unfold OpOk
          simp [execOp, go_sem, eval_tmp, eval_const, eval_func, h8]
          exact ⟨Below.refl _ _, rfl⟩
        refine ⟨fun a V hB hold hdep => ?_, ?_⟩
        · have h47 : a.tmps.getD 47 undef = .string t := hdep 6 47 (by kernel_rfl) rfl
          have h48 : a.tmps.getD 48 undef = .int .i64 (k : Int) := hdep 7 48 (by kernel_rfl) rfl
          unfold OpOk
          simp [execOp, go_sem, eval_tmp, eval_const, eval_func, h47, h48, hex1, hkt]
          exact ⟨Below.refl _ _, rfl⟩
        refine ⟨fun a V hB hold hdep => ?_, ?_⟩
        · have h7 : a.tmps.getD 7 undef = .string t := (hold 7 (by kernel_rfl)).trans rfl
          unfold OpOk
          simp [execOp, go_sem, eval_tmp, eval_const, eval_func, h7]
          exact ⟨Below.refl _ _, rfl⟩
        refine ⟨fun a V hB hold hdep => ?_, ?_⟩
        · have h8 : a.tmps.getD 8 undef = .int .i64 (k : Int) := (hold 8 (by kernel_rfl)).trans rfl
          unfold OpOk
          simp [execOp, go_sem, eval_tmp, eval_const, eval_func, h8]
          exact ⟨Below.refl _ _, rfl⟩
        refine ⟨fun a V hB hold hdep => ?_, ?_⟩
        · have h50 : a.tmps.getD 50 undef = .string t := hdep 9 50 (by kernel_rfl) rfl
          have h51 : a.tmps.getD 51 undef = .int .i64 (k : Int) := hdep 10 51 (by kernel_rfl) rfl
          unfold OpOk
          simp [execOp, go_sem, eval_tmp, eval_const, eval_func, h50, h51, hex2, hkt, hex2']
          exact ⟨Below.refl _ _, rfl⟩
        refine ⟨fun a V hB hold hdep => ?_, ?_⟩
        · have h49 : a.tmps.getD 49 undef = .string t1 := hdep 8 49 (by kernel_rfl) rfl
          have h52 : a.tmps.getD 52 undef = .string t2 := hdep 11 52 (by kernel_rfl) rfl
          have g49 := (Array.getD_eq_getD_getElem? (xs := a.tmps) (i := 49) (d := undef)).symm.trans h49
          have g52 := (Array.getD_eq_getD_getElem? (xs := a.tmps) (i := 52) (d := undef)).symm.trans h52
          unfold OpOk
          simp [execOp, go_sem, eval_tmp, eval_const, eval_func, g49, g52]
          exact ⟨below_al (Below.refl _ _) _, sv_new _ _ [t1, ⟨#[]⟩, t2] _ rfl⟩
        refine ⟨fun a V hB hold hdep => ?_, ?_⟩
        · obtain ⟨s53, h53, hl53, hc53⟩ := hdep 12 53 (by kernel_rfl) rfl
          unfold OpOk
          simp [execOp, go_sem, eval_tmp, eval_const, eval_func, h53]
          refine (L3.out _ s53 hl53 hc53).mono ?_
          rintro e W2 ⟨rfl, hb⟩
          exact ⟨_, rfl, hb, rfl⟩
        refine ⟨fun a V hB hold hdep => ?_, ?_⟩
        · have h9 : a.tmps.getD 9 undef = .pointer (some ⟨A, 0, none⟩) := (hold 9 (by kernel_rfl)).trans rfl
          exact opOk_load 26 _ rfl A (by rw [eval_tmp, h9]) 26 (sumA t) _ (r0.out.below hB r0.out.lt) Try.underlying26 rfl (by rw [info32]; simp [sumA, rowA_size]) rfl
        refine ⟨fun a V hB hold hdep => ?_, ?_⟩
        · have h54 : a.tmps.getD 54 undef = .agg (sumA t) := hdep 13 54 (by kernel_rfl) rfl
          have h55 : a.tmps.getD 55 undef = .agg (sumA t) := hdep 14 55 (by kernel_rfl) rfl
          unfold OpOk
          simp [execOp, go_sem, eval_tmp, eval_const, eval_func, h54, h55, sum_eql, sum_guard]
          exact ⟨Below.refl _ _, rfl⟩
        refine ⟨fun a V hB hold hdep => ?_, ?_⟩
        · have h46 : a.tmps.getD 46 undef = .bool true := hdep 5 46 (by kernel_rfl) rfl
          have h56 : a.tmps.getD 56 undef = .bool true := hdep 15 56 (by kernel_rfl) rfl
          unfold OpOk
          simp [execOp, go_sem, eval_tmp, eval_const, eval_func, h46, h56]
          exact ⟨Below.refl _ _, rfl⟩
        refine ⟨fun a V hB hold hdep => ?_, ?_⟩
        · have h57 : a.tmps.getD 57 undef = .bool true := hdep 16 57 (by kernel_rfl) rfl
          unfold OpOk
          simp [execOp, go_sem, eval_tmp, eval_const, eval_func, h57]
          exact ⟨Below.refl _ _, rfl⟩
        refine ⟨fun a V hB hold hdep => ?_, ?_⟩
        · have h11 : a.tmps.getD 11 undef = .pointer (some ⟨b11, 0, none⟩) := (hold 11 (by kernel_rfl)).trans rfl
          exact opOk_load 29 _ rfl b11 (by rw [eval_tmp, h11]) 29 (#[.string t]) _ (r11.out.below hB r11.out.lt) Try.underlying29 rfl (by rw [infoH]; rfl) rfl
        refine ⟨fun a V hB hold hdep => ?_, ?_⟩
        · have h59 : a.tmps.getD 59 undef = .agg #[.string t] := hdep 18 59 (by kernel_rfl) rfl
          unfold OpOk
          simp [execOp, go_sem, eval_tmp, eval_const, eval_func, h59]
          first | ((with_reducible refine (HS1.out _).mono ?_); rintro e W2 ⟨rfl, hb⟩; exact ⟨_, rfl, hb, rfl⟩) | ((with_reducible refine (HS2.out _).mono ?_); rintro e W2 ⟨rfl, hb⟩; exact ⟨_, rfl, hb, rfl⟩) | ((with_reducible refine (HS3.out _).mono ?_); rintro e W2 ⟨rfl, hb⟩; exact ⟨_, rfl, hb, rfl⟩)
        refine ⟨fun a V hB hold hdep => ?_, ?_⟩
        · have h9 : a.tmps.getD 9 undef = .pointer (some ⟨A, 0, none⟩) := (hold 9 (by kernel_rfl)).trans rfl
          exact opOk_load 26 _ rfl A (by rw [eval_tmp, h9]) 26 (sumA t) _ (r0.out.below hB r0.out.lt) Try.underlying26 rfl (by rw [info32]; simp [sumA, rowA_size]) rfl
        refine ⟨fun a V hB hold hdep => ?_, ?_⟩
        · have h60 : a.tmps.getD 60 undef = .agg (sumA t) := hdep 19 60 (by kernel_rfl) rfl
          have h61 : a.tmps.getD 61 undef = .agg (sumA t) := hdep 20 61 (by kernel_rfl) rfl
          unfold OpOk
          simp [execOp, go_sem, eval_tmp, eval_const, eval_func, h60, h61, sum_eql, sum_guard]
          exact ⟨Below.refl _ _, rfl⟩
        refine ⟨fun a V hB hold hdep => ?_, ?_⟩
        · have h58 : a.tmps.getD 58 undef = .bool true := hdep 17 58 (by kernel_rfl) rfl
          have h62 : a.tmps.getD 62 undef = .bool true := hdep 21 62 (by kernel_rfl) rfl
          unfold OpOk
          simp [execOp, go_sem, eval_tmp, eval_const, eval_func, h58, h62]
          exact ⟨Below.refl _ _, rfl⟩
        refine ⟨fun a V hB hold hdep => ?_, ?_⟩
        · have h63 : a.tmps.getD 63 undef = .bool true := hdep 22 63 (by kernel_rfl) rfl
          unfold OpOk
          simp [execOp, go_sem, eval_tmp, eval_const, eval_func, h63]
          exact ⟨Below.refl _ _, rfl⟩
        refine ⟨fun a V hB hold hdep => ?_, ?_⟩
        · have h10 : a.tmps.getD 10 undef = .pointer (some ⟨b10, 0, none⟩) := (hold 10 (by kernel_rfl)).trans rfl
          exact opOk_load 29 _ rfl b10 (by rw [eval_tmp, h10]) 29 (#[.string t1]) _ (r10.out.below hB r10.out.lt) Try.underlying29 rfl (by rw [infoH]; rfl) rfl
        refine ⟨fun a V hB hold hdep => ?_, ?_⟩
        · have h65 : a.tmps.getD 65 undef = .agg #[.string t1] := hdep 24 65 (by kernel_rfl) rfl
          unfold OpOk
          simp [execOp, go_sem, eval_tmp, eval_const, eval_func, h65]
          first | ((with_reducible refine (HS1.out _).mono ?_); rintro e W2 ⟨rfl, hb⟩; exact ⟨_, rfl, hb, rfl⟩) | ((with_reducible refine (HS2.out _).mono ?_); rintro e W2 ⟨rfl, hb⟩; exact ⟨_, rfl, hb, rfl⟩) | ((with_reducible refine (HS3.out _).mono ?_); rintro e W2 ⟨rfl, hb⟩; exact ⟨_, rfl, hb, rfl⟩)
        refine ⟨fun a V hB hold hdep => ?_, ?_⟩
        · have h7 : a.tmps.getD 7 undef = .string t := (hold 7 (by kernel_rfl)).trans rfl
          unfold OpOk
          simp [execOp, go_sem, eval_tmp, eval_const, eval_func, h7]
          exact ⟨Below.refl _ _, rfl⟩
        refine ⟨fun a V hB hold hdep => ?_, ?_⟩
        · have h8 : a.tmps.getD 8 undef = .int .i64 (k : Int) := (hold 8 (by kernel_rfl)).trans rfl
          unfold OpOk
          simp [execOp, go_sem, eval_tmp, eval_const, eval_func, h8]
          exact ⟨Below.refl _ _, rfl⟩
        refine ⟨fun a V hB hold hdep => ?_, ?_⟩
        · have h67 : a.tmps.getD 67 undef = .string t := hdep 26 67 (by kernel_rfl) rfl
          have h68 : a.tmps.getD 68 undef = .int .i64 (k : Int) := hdep 27 68 (by kernel_rfl) rfl
          unfold OpOk
          simp [execOp, go_sem, eval_tmp, eval_const, eval_func, h67, h68, hex1, hkt]
          exact ⟨Below.refl _ _, rfl⟩
        refine ⟨fun a V hB hold hdep => ?_, ?_⟩
        · have h69 : a.tmps.getD 69 undef = .string t1 := hdep 28 69 (by kernel_rfl) rfl
          unfold OpOk
          simp [execOp, go_sem, eval_tmp, eval_const, eval_func, h69]
          first | ((with_reducible refine (RS1.out _).mono ?_); rintro e W2 ⟨rfl, hb⟩; exact ⟨_, rfl, hb, rfl⟩) | ((with_reducible refine (RS2.out _).mono ?_); rintro e W2 ⟨rfl, hb⟩; exact ⟨_, rfl, hb, rfl⟩)
        refine ⟨fun a V hB hold hdep => ?_, ?_⟩
        · have h66 : a.tmps.getD 66 undef = .agg (sumA t1) := hdep 25 66 (by kernel_rfl) rfl
          have h70 : a.tmps.getD 70 undef = .agg (sumA t1) := hdep 29 70 (by kernel_rfl) rfl
          unfold OpOk
          simp [execOp, go_sem, eval_tmp, eval_const, eval_func, h66, h70, sum_eql, sum_guard]
          exact ⟨Below.refl _ _, rfl⟩
        refine ⟨fun a V hB hold hdep => ?_, ?_⟩
        · have h64 : a.tmps.getD 64 undef = .bool true := hdep 23 64 (by kernel_rfl) rfl
          have h71 : a.tmps.getD 71 undef = .bool true := hdep 30 71 (by kernel_rfl) rfl
          unfold OpOk
          simp [execOp, go_sem, eval_tmp, eval_const, eval_func, h64, h71]
          exact ⟨Below.refl _ _, rfl⟩
        refine ⟨fun a V hB hold hdep => ?_, ?_⟩
        · have h72 : a.tmps.getD 72 undef = .bool true := hdep 31 72 (by kernel_rfl) rfl
          unfold OpOk
          simp [execOp, go_sem, eval_tmp, eval_const, eval_func, h72]
          exact ⟨Below.refl _ _, rfl⟩
        refine ⟨fun a V hB hold hdep => ?_, ?_⟩
        · have h7 : a.tmps.getD 7 undef = .string t := (hold 7 (by kernel_rfl)).trans rfl
          unfold OpOk
          simp [execOp, go_sem, eval_tmp, eval_const, eval_func, h7]
          exact ⟨Below.refl _ _, rfl⟩
        refine ⟨fun a V hB hold hdep => ?_, ?_⟩
        · have h74 : a.tmps.getD 74 undef = .string t := hdep 33 74 (by kernel_rfl) rfl
          have g74 := (Array.getD_eq_getD_getElem? (xs := a.tmps) (i := 74) (d := undef)).symm.trans h74
          unfold OpOk
          simp [execOp, go_sem, eval_tmp, eval_const, eval_func, g74]
          exact ⟨below_al (Below.refl _ _) _, sv_new _ _ [t] _ rfl⟩
        refine ⟨fun a V hB hold hdep => ?_, ?_⟩
        · obtain ⟨s75, h75, hl75, hc75⟩ := hdep 34 75 (by kernel_rfl) rfl
          unfold OpOk
          simp [execOp, go_sem, eval_tmp, eval_const, eval_func, h75]
          refine (LT.out _ s75 hl75 hc75).mono ?_
          rintro e W2 ⟨rfl, hb⟩
          exact ⟨_, rfl, hb, rfl⟩
        refine ⟨fun a V hB hold hdep => ?_, ?_⟩
        · have h7 : a.tmps.getD 7 undef = .string t := (hold 7 (by kernel_rfl)).trans rfl
          unfold OpOk
          simp [execOp, go_sem, eval_tmp, eval_const, eval_func, h7]
          exact ⟨Below.refl _ _, rfl⟩
        refine ⟨fun a V hB hold hdep => ?_, ?_⟩
        · have h77 : a.tmps.getD 77 undef = .string t := hdep 36 77 (by kernel_rfl) rfl
          unfold OpOk
          simp [execOp, go_sem, eval_tmp, eval_const, eval_func, h77]
          (with_reducible refine (RT.out _).mono ?_); rintro e W2 ⟨rfl, hb⟩; exact ⟨_, rfl, hb, rfl⟩
        refine ⟨fun a V hB hold hdep => ?_, ?_⟩
        · have h76 : a.tmps.getD 76 undef = .string (sumS t) := hdep 35 76 (by kernel_rfl) rfl
          have h78 : a.tmps.getD 78 undef = .string (sumS t) := hdep 37 78 (by kernel_rfl) rfl
          unfold OpOk
          simp [execOp, go_sem, eval_tmp, eval_const, eval_func, h76, h78]
          exact ⟨Below.refl _ _, rfl⟩
        refine ⟨fun a V hB hold hdep => ?_, ?_⟩
        · have h73 : a.tmps.getD 73 undef = .bool true := hdep 32 73 (by kernel_rfl) rfl
          have h79 : a.tmps.getD 79 undef = .bool true := hdep 38 79 (by kernel_rfl) rfl
          unfold OpOk
          simp [execOp, go_sem, eval_tmp, eval_const, eval_func, h73, h79]
          exact ⟨Below.refl _ _, rfl⟩
        refine ⟨fun a V hB hold hdep => ?_, ?_⟩
        · have h80 : a.tmps.getD 80 undef = .bool true := hdep 39 80 (by kernel_rfl) rfl
          unfold OpOk
          simp [execOp, go_sem, eval_tmp, eval_const, eval_func, h80]
          exact ⟨Below.refl _ _, rfl⟩
        refine ⟨fun a V hB hold hdep => ?_, ?_⟩
        · have h12 : a.tmps.getD 12 undef = .pointer (some ⟨b12, 0, none⟩) := (hold 12 (by kernel_rfl)).trans rfl
          exact opOk_load 29 _ rfl b12 (by rw [eval_tmp, h12]) 29 (#[.string ⟨#[]⟩]) _ (r12.out.below hB r12.out.lt) Try.underlying29 rfl (by rw [infoH]; rfl) rfl
        refine ⟨fun a V hB hold hdep => ?_, ?_⟩
        · have h82 : a.tmps.getD 82 undef = .agg #[.string ⟨#[]⟩] := hdep 41 82 (by kernel_rfl) rfl
          unfold OpOk
          simp [execOp, go_sem, eval_tmp, eval_const, eval_func, h82]
          first | ((with_reducible refine (HS1.out _).mono ?_); rintro e W2 ⟨rfl, hb⟩; exact ⟨_, rfl, hb, rfl⟩) | ((with_reducible refine (HS2.out _).mono ?_); rintro e W2 ⟨rfl, hb⟩; exact ⟨_, rfl, hb, rfl⟩) | ((with_reducible refine (HS3.out _).mono ?_); rintro e W2 ⟨rfl, hb⟩; exact ⟨_, rfl, hb, rfl⟩)
        refine ⟨fun a V hB hold hdep => ?_, ?_⟩
        · unfold OpOk
          simp [execOp, go_sem, eval_tmp, eval_const, eval_func]
          first | ((with_reducible refine (RS1.out _).mono ?_); rintro e W2 ⟨rfl, hb⟩; exact ⟨_, rfl, hb, rfl⟩) | ((with_reducible refine (RS2.out _).mono ?_); rintro e W2 ⟨rfl, hb⟩; exact ⟨_, rfl, hb, rfl⟩)
        refine ⟨fun a V hB hold hdep => ?_, ?_⟩
        · have h83 : a.tmps.getD 83 undef = .agg (sumA ⟨#[]⟩) := hdep 42 83 (by kernel_rfl) rfl
          have h84 : a.tmps.getD 84 undef = .agg (sumA ⟨#[]⟩) := hdep 43 84 (by kernel_rfl) rfl
          unfold OpOk
          simp [execOp, go_sem, eval_tmp, eval_const, eval_func, h83, h84, sum_eql, sum_guard]
          exact ⟨Below.refl _ _, rfl⟩
        refine ⟨fun a V hB hold hdep => ?_, ?_⟩
        · have h81 : a.tmps.getD 81 undef = .bool true := hdep 40 81 (by kernel_rfl) rfl
          have h85 : a.tmps.getD 85 undef = .bool true := hdep 44 85 (by kernel_rfl) rfl
          unfold OpOk
          simp [execOp, go_sem, eval_tmp, eval_const, eval_func, h81, h85]
          exact ⟨Below.refl _ _, rfl⟩
        trivial
      case c11_fin =>
        intro X V hB hX
        have e41 : X 41 = .string t := hX 0 41 (by decide) rfl
        obtain ⟨s42, e42, hl42, hc42⟩ := hX 1 42 (by decide) rfl
        have e43 : X 43 = .agg (sumA t) := hX 2 43 (by decide) rfl
        have e44 : X 44 = .agg (sumA t) := hX 3 44 (by decide) rfl
        have e45 : X 45 = .bool true := hX 4 45 (by decide) rfl
        have e46 : X 46 = .bool true := hX 5 46 (by decide) rfl
        have e47 : X 47 = .string t := hX 6 47 (by decide) rfl
        have e48 : X 48 = .int .i64 (k : Int) := hX 7 48 (by decide) rfl
        have e49 : X 49 = .string t1 := hX 8 49 (by decide) rfl
        have e50 : X 50 = .string t := hX 9 50 (by decide) rfl
        have e51 : X 51 = .int .i64 (k : Int) := hX 10 51 (by decide) rfl
        have e52 : X 52 = .string t2 := hX 11 52 (by decide) rfl
        obtain ⟨s53, e53, hl53, hc53⟩ := hX 12 53 (by decide) rfl
        have e54 : X 54 = .agg (sumA t) := hX 13 54 (by decide) rfl
        have e55 : X 55 = .agg (sumA t) := hX 14 55 (by decide) rfl
        have e56 : X 56 = .bool true := hX 15 56 (by decide) rfl
        have e57 : X 57 = .bool true := hX 16 57 (by decide) rfl
        have e58 : X 58 = .bool true := hX 17 58 (by decide) rfl
        have e59 : X 59 = .agg #[.string t] := hX 18 59 (by decide) rfl
        have e60 : X 60 = .agg (sumA t) := hX 19 60 (by decide) rfl
        have e61 : X 61 = .agg (sumA t) := hX 20 61 (by decide) rfl
        have e62 : X 62 = .bool true := hX 21 62 (by decide) rfl
        have e63 : X 63 = .bool true := hX 22 63 (by decide) rfl
        have e64 : X 64 = .bool true := hX 23 64 (by decide) rfl
        have e65 : X 65 = .agg #[.string t1] := hX 24 65 (by decide) rfl
        have e66 : X 66 = .agg (sumA t1) := hX 25 66 (by decide) rfl
        have e67 : X 67 = .string t := hX 26 67 (by decide) rfl
        have e68 : X 68 = .int .i64 (k : Int) := hX 27 68 (by decide) rfl
        have e69 : X 69 = .string t1 := hX 28 69 (by decide) rfl
        have e70 : X 70 = .agg (sumA t1) := hX 29 70 (by decide) rfl
        have e71 : X 71 = .bool true := hX 30 71 (by decide) rfl
        have e72 : X 72 = .bool true := hX 31 72 (by decide) rfl
        have e73 : X 73 = .bool true := hX 32 73 (by decide) rfl
        have e74 : X 74 = .string t := hX 33 74 (by decide) rfl
        obtain ⟨s75, e75, hl75, hc75⟩ := hX 34 75 (by decide) rfl
        have e76 : X 76 = .string (sumS t) := hX 35 76 (by decide) rfl
        have e77 : X 77 = .string t := hX 36 77 (by decide) rfl
        have e78 : X 78 = .string (sumS t) := hX 37 78 (by decide) rfl
        have e79 : X 79 = .bool true := hX 38 79 (by decide) rfl
        have e80 : X 80 = .bool true := hX 39 80 (by decide) rfl
        have e81 : X 81 = .bool true := hX 40 81 (by decide) rfl
        have e82 : X 82 = .agg #[.string ⟨#[]⟩] := hX 41 82 (by decide) rfl
        have e83 : X 83 = .agg (sumA ⟨#[]⟩) := hX 42 83 (by decide) rfl
        have e84 : X 84 = .agg (sumA ⟨#[]⟩) := hX 43 84 (by decide) rfl
        have e85 : X 85 = .bool true := hX 44 85 (by decide) rfl
        have e86 : X 86 = .bool true := hX 45 86 (by decide) rfl
        clear hX
        change wpList Try.prog _ _ _ { tmps := putAll [(41, X 41), (42, X 42), (43, X 43), (44, X 44), (45, X 45), (46, X 46), (47, X 47), (48, X 48), (49, X 49), (50, X 50), (51, X 51), (52, X 52), (53, X 53), (54, X 54), (55, X 55), (56, X 56), (57, X 57), (58, X 58), (59, X 59), (60, X 60), (61, X 61), (62, X 62), (63, X 63), (64, X 64), (65, X 65), (66, X 66), (67, X 67), (68, X 68), (69, X 69), (70, X 70), (71, X 71), (72, X 72), (73, X 73), (74, X 74), (75, X 75), (76, X 76), (77, X 77), (78, X 78), (79, X 79), (80, X 80), (81, X 81), (82, X 82), (83, X 83), (84, X 84), (85, X 85), (86, X 86)] _, defers := _ } V
        simp only [Act.put, putAll, List.foldl_cons, List.foldl_nil, List.setIfInBounds_toArray, List.set_cons_zero, List.set_cons_succ, List.drop_succ_cons, List.drop_zero, e41, e42, e43, e44, e45, e46, e47, e48, e49, e50, e51, e52, e53, e54, e55, e56, e57, e58, e59, e60, e61, e62, e63, e64, e65, e66, e67, e68, e69, e70, e71, e72, e73, e74, e75, e76, e77, e78, e79, e80, e81, e82, e83, e84, e85, e86]
        clear e41 e42 e43 e44 e45 e46 e47 e48 e49 e50 e51 e52 e53 e54 e55 e56 e57 e58 e59 e60 e61 e62 e63 e64 e65 e66 e67 e68 e69 e70 e71 e72 e73 e74 e75 e76 e77 e78 e79 e80 e81 e82 e83 e84 e85 e86
        go_wp2
        go_ret
        exact ⟨rfl, below_cat hB hB4.out⟩
theorem shaSums_walk (s : ByteArray) (c d : Int) (_hs : s.size ≤ 140737488351232) (wc : (Lit.int .u8 c).wf = true) (wd : (Lit.int .u16 d).wf = true) (w : World) :
    Calls Try.prog 3 #[.string s, .int .u8 c, .int .u16 d] w fun e w' => e = .returned (.bool true) ∧ Below w.heap.size w w' := by
  have hb := bounds_u8 wc
  have hd := bounds_u16 wd
  obtain ⟨m, rfl⟩ := Int.eq_ofNat_of_zero_le hb.1
  obtain ⟨k, rfl⟩ := Int.eq_ofNat_of_zero_le hd.1
  by_cases h : s.size ≤ 1000
  · exact sums_small s h m (by omega) k (by omega) w
  · exact sums_big s (by rw [decide_eq_true_iff]; omega) m k w
end Go.Proofs.Ytbbjoahloghpkaa
