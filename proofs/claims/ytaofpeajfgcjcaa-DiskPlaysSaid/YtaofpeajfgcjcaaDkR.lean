/- Disk: awake. Printed by wip/tools/mkDkR.py. -/
import Derived.Test.YtaofpeajfgcjcaaDkQ
namespace Go.Proofs.Ytaofpeajfgcjcaa
open Go Go.RowKit Go.Maps
set_option linter.unusedSimpArgs false
set_option linter.unusedVariables false

/-- A disk made since w0. -/
structure Own (w0 w : World) (F : Nat → Prop) (d : Nat) (S : DS) : Prop where
  dk : Dk w F d S
  bel : Below w0.heap.size w0 w
  ge : ∀ k, F k → w0.heap.size ≤ k
theorem Own.to {w0 w w' : World} {F : Nat → Prop} {d : Nat} {S S' : DS} (h : Own w0 w F d S) (ht : DkTo w F d S' w') : ∃ F', Own w0 w' F' d S' ∧ Kept F w w' ∧ ∀ k, F' k → F k ∨ w.heap.size ≤ k := by
  obtain ⟨F', h1, h2, h3⟩ := ht
  refine ⟨F', ⟨h1, below_kept h.bel h2 (Nat.le_refl _) h.ge, fun k hk => ?_⟩, h2, h3⟩
  rcases h3 k hk with h4 | h4
  · exact h.ge k h4
  · exact Nat.le_trans h.bel.size h4
theorem Own.below {w0 w w' : World} {F : Nat → Prop} {d : Nat} {S : DS} (h : Own w0 w F d S) (hb : Below w.heap.size w w') : Own w0 w' F d S := ⟨h.dk.below hb, below_cat hb h.bel, h.ge⟩
theorem Own.kept {w0 w w' : World} {F T : Nat → Prop} {d : Nat} {S : DS} (h : Own w0 w F d S) (hk : Kept T w w') (hT : ∀ k, F k → ¬ T k) (hge : ∀ k, T k → w0.heap.size ≤ k) : Own w0 w' F d S := ⟨h.dk.kept hk hT, below_kept h.bel hk (Nat.le_refl _) hge, h.ge⟩
/-- The example's sector. -/
def b78 : Blk := fun j => if j = 0 then 7 else if j = 1 then 8 else 0
theorem build_78 (w : World) : (Instr.build 32 #[(0, .int .u8 7), (1, .int .u8 8)]).run Try.prog w = .ok (.agg (blkA b78)) w := run_build w _ _ _ (by kernel_rfl)
def dsA1 : DS := (((DS.new 16).stepped).push (3, b78))
def dsA2 : DS := dsA1.crash 1
def blkA3 : Blk := secOf dsA2.lasts 3
theorem new_ok (n : Nat) : (DS.new n).Ok := ⟨by simp [DS.new], by simp [DS.new], by simp [DS.new], by simp [DS.new], by simp [DS.new]⟩
theorem dsA1_eq : (DS.new 16).write 3 b78 = (0, dsA1) := rfl
theorem dsA1_ok : dsA1.Ok := ⟨by decide, by decide, by decide, by decide, by decide⟩
theorem dsA2_read : dsA2.read 3 = (blkA3, 0) := rfl
theorem dsA2_last : dsA2.last 3 = blkA3 := rfl
theorem blkA3_0 : u8c (blkA3 0) = .int .u8 7 := rfl
theorem blkA3_1 : u8c (blkA3 1) = .int .u8 0 := rfl
theorem keep_1 : keepOk 1 := ⟨by decide, by decide⟩
attribute [irreducible] dsA2 blkA3 dsA1

set_option maxRecDepth 1000000 in
set_option maxHeartbeats 4000000 in
theorem awake_r7 {F : Nat → Prop} {d b : Nat} {w : World} (hdk : Hid (Dk w F d dsA2)) (rb : Hid (RowAt w b 32 (blkA blkA3))) {Q : Exit → Act → World → Prop} (u0 u2 u6 u7 u8 u9 u10 u11 u12 u13 u14 u15 u16 u17 u18 u19 u20 u21 u22 u23 u24 u25 u26 u27 u28 u29 u30 u31 u32 u33 u34 u35 u36 u37 u38 u39 u40 u41 u42 u43 u44 u45 u46 u47 : Value)
    (hK : ∀ (v26 v27 v28 v29 v30 v31 v32 v33 v34 v35 v36 v37 v38 v39 v40 v41 v42 v43 v44 v45 v46 v47 : Value) (W : World), Below w.heap.size w W → Q .normal { tmps := #[.bool true, .pointer (some ⟨d, 0, none⟩), u2, .int .i64 0, .pointer (some ⟨b, 0, none⟩), .int .i64 0, u6, u7, u8, u9, u10, u11, u12, u13, u14, u15, u16, u17, u18, u19, u20, u21, u22, u23, u24, u25, v26, v27, v28, v29, v30, v31, v32, v33, v34, v35, v36, v37, v38, v39, v40, v41, v42, v43, v44, v45, v46, v47], defers := [] } W) :
    (fragR Try.f7 7).wp Try.prog Q { tmps := #[u0, .pointer (some ⟨d, 0, none⟩), u2, .int .i64 0, .pointer (some ⟨b, 0, none⟩), .int .i64 0, u6, u7, u8, u9, u10, u11, u12, u13, u14, u15, u16, u17, u18, u19, u20, u21, u22, u23, u24, u25, u26, u27, u28, u29, u30, u31, u32, u33, u34, u35, u36, u37, u38, u39, u40, u41, u42, u43, u44, u45, u46, u47], defers := [] } w := by
  dsimp only at hK ⊢
  rw [show fragR Try.f7 7 = Code.region _ (List.toArray _) true from rfl]
  refine wp_region_st 48 [] [26, 27, 28, 29, 30, 31, 32, 33, 34, 35, 36, 37, 38, 39, 40, 41, 42, 43, 44, 45, 46, 47, 0] (phiOf [QV (.int .i64 0), QV (.bool true), QV (.bool true), QV (.int .i64 0), QV (.bool true), QV (.bool true), QV (.bool true), QV (.pointer (some ⟨b, 0, none⟩)), QV (.int .u8 7), QV (.bool true), QV (.bool true), QV (.bool true), QV (.pointer (some ⟨b, 1, none⟩)), QV (.int .u8 0), QV (.bool true), QV (.bool true), QV (.bool true), QV (.pointer (some ⟨d, 0, none⟩)), QV (.agg (blkA blkA3)), QV (.agg (blkA blkA3)), QV (.bool true), QV (.bool true), QV (.bool true)]) (gOf [fun W => Below w.heap.size w W]) (tOf []) (fun _ => False) (by kernel_rfl) (by kernel_rfl) (by kernel_rfl) rfl ?r7TT (phi_st ?r7st) (gOf_stays ?r7G) ?r7G0 ?r7g ?r7op ?r7fin
  case r7TT =>
    refine tOf_in ?_
    intro p hp; cases hp
  case r7st => exact ⟨stq _ _ _ _, stq _ _ _ _, stq _ _ _ _, stq _ _ _ _, stq _ _ _ _, stq _ _ _ _, stq _ _ _ _, stq _ _ _ _, stq _ _ _ _, stq _ _ _ _, stq _ _ _ _, stq _ _ _ _, stq _ _ _ _, stq _ _ _ _, stq _ _ _ _, stq _ _ _ _, stq _ _ _ _, stq _ _ _ _, stq _ _ _ _, stq _ _ _ _, stq _ _ _ _, stq _ _ _ _, stq _ _ _ _, trivial⟩
  case r7G => simp only [List.forall_mem_cons]; exact ⟨fun W W' h hb => below_cat hb h, fun _ h => by cases h⟩
  case r7G0 => exact (Below.refl _ _).drew
  case r7g =>
    refine guards_on [(2, true), (6, true), (11, true), (16, true)] (by kernel_rfl) ?_
    intro p hp
    simp only [List.mem_cons, List.not_mem_nil, or_false] at hp
    rcases hp with rfl | rfl | rfl | rfl <;> (intro v W h; exact .inl h)
  case r7op =>
    refine ⟨fun s a W hlo hhi hG hkT hold hdep hgv => ?_, ?_⟩
    · show OpOk _ _ _ _ _
      have h3 : a.tmps.getD 3 undef = .int .i64 0 := (hold 3 (by kernel_rfl)).trans rfl
      unfold OpOk
      simp [execOp, go_sem, eval_tmp, eval_const, eval_func, h3]
      exact ⟨Below.refl _ _, rfl⟩
    refine ⟨fun s a W hlo hhi hG hkT hold hdep hgv => ?_, ?_⟩
    · show OpOk _ _ _ _ _
      have h26 : a.tmps.getD 26 undef = .int .i64 0 := hdep 0 26 (by kernel_rfl) rfl
      unfold OpOk
      simp [execOp, go_sem, eval_tmp, eval_const, eval_func, h26]
      exact ⟨Below.refl _ _, rfl⟩
    refine ⟨fun s a W hlo hhi hG hkT hold hdep hgv => ?_, ?_⟩
    · show OpOk _ _ _ _ _
      have h27 : a.tmps.getD 27 undef = .bool true := hdep 1 27 (by kernel_rfl) rfl
      unfold OpOk
      simp [execOp, go_sem, eval_tmp, eval_const, eval_func, h27]
      exact ⟨Below.refl _ _, rfl⟩
    refine ⟨fun s a W hlo hhi hG hkT hold hdep hgv => ?_, ?_⟩
    · show OpOk _ _ _ _ _
      have h5 : a.tmps.getD 5 undef = .int .i64 0 := (hold 5 (by kernel_rfl)).trans rfl
      unfold OpOk
      simp [execOp, go_sem, eval_tmp, eval_const, eval_func, h5]
      exact ⟨Below.refl _ _, rfl⟩
    refine ⟨fun s a W hlo hhi hG hkT hold hdep hgv => ?_, ?_⟩
    · show OpOk _ _ _ _ _
      have h29 : a.tmps.getD 29 undef = .int .i64 0 := hdep 3 29 (by kernel_rfl) rfl
      unfold OpOk
      simp [execOp, go_sem, eval_tmp, eval_const, eval_func, h29]
      exact ⟨Below.refl _ _, rfl⟩
    refine ⟨fun s a W hlo hhi hG hkT hold hdep hgv => ?_, ?_⟩
    · show OpOk _ _ _ _ _
      have h28 : a.tmps.getD 28 undef = .bool true := hdep 2 28 (by kernel_rfl) rfl
      have h30 : a.tmps.getD 30 undef = .bool true := hdep 4 30 (by kernel_rfl) rfl
      unfold OpOk
      simp [execOp, go_sem, eval_tmp, eval_const, eval_func, h28, h30]
      exact ⟨Below.refl _ _, rfl⟩
    refine ⟨fun s a W hlo hhi hG hkT hold hdep hgv => ?_, ?_⟩
    · show OpOk _ _ _ _ _
      have h31 : a.tmps.getD 31 undef = .bool true := hdep 5 31 (by kernel_rfl) rfl
      unfold OpOk
      simp [execOp, go_sem, eval_tmp, eval_const, eval_func, h31]
      exact ⟨Below.refl _ _, rfl⟩
    refine ⟨fun s a W hlo hhi hG hkT hold hdep hgv => ?_, ?_⟩
    · show OpOk _ _ _ _ _
      have h4 : a.tmps.getD 4 undef = .pointer (some ⟨b, 0, none⟩) := (hold 4 (by kernel_rfl)).trans rfl
      unfold OpOk
      simp [execOp, go_sem, eval_tmp, eval_const, eval_func, h4]
      exact ⟨Below.refl _ _, rfl⟩
    refine ⟨fun s a W hlo hhi hG hkT hold hdep hgv => ?_, ?_⟩
    · obtain rfl : s = 0 := Nat.le_zero.1 (Nat.le_trans hhi (Nat.le_of_eq (by kernel_rfl)))
      show OpOk _ _ _ _ _
      replace hG : Below w.heap.size w W := hG
      have h33 : a.tmps.getD 33 undef = .pointer (some ⟨b, 0, none⟩) := hdep 7 33 (by kernel_rfl) rfl
      have hc : W.cell? ⟨b, 0, none⟩ = some (.int .u8 7) := by have := (rb.out.below hG rb.out.lt).cell (blkA_get blkA3 0 (by decide)); rwa [blkA3_0] at this
      unfold OpOk
      simp [execOp, go_sem, eval_tmp, eval_const, eval_func, h33, hc]
      exact ⟨Below.refl _ _, rfl⟩
    refine ⟨fun s a W hlo hhi hG hkT hold hdep hgv => ?_, ?_⟩
    · show OpOk _ _ _ _ _
      have h34 : a.tmps.getD 34 undef = .int .u8 7 := hdep 8 34 (by kernel_rfl) rfl
      unfold OpOk
      simp [execOp, go_sem, eval_tmp, eval_const, eval_func, h34]
      exact ⟨Below.refl _ _, rfl⟩
    refine ⟨fun s a W hlo hhi hG hkT hold hdep hgv => ?_, ?_⟩
    · show OpOk _ _ _ _ _
      have h32 : a.tmps.getD 32 undef = .bool true := hdep 6 32 (by kernel_rfl) rfl
      have h35 : a.tmps.getD 35 undef = .bool true := hdep 9 35 (by kernel_rfl) rfl
      unfold OpOk
      simp [execOp, go_sem, eval_tmp, eval_const, eval_func, h32, h35]
      exact ⟨Below.refl _ _, rfl⟩
    refine ⟨fun s a W hlo hhi hG hkT hold hdep hgv => ?_, ?_⟩
    · show OpOk _ _ _ _ _
      have h36 : a.tmps.getD 36 undef = .bool true := hdep 10 36 (by kernel_rfl) rfl
      unfold OpOk
      simp [execOp, go_sem, eval_tmp, eval_const, eval_func, h36]
      exact ⟨Below.refl _ _, rfl⟩
    refine ⟨fun s a W hlo hhi hG hkT hold hdep hgv => ?_, ?_⟩
    · show OpOk _ _ _ _ _
      have h4 : a.tmps.getD 4 undef = .pointer (some ⟨b, 0, none⟩) := (hold 4 (by kernel_rfl)).trans rfl
      unfold OpOk
      simp [execOp, go_sem, eval_tmp, eval_const, eval_func, h4]
      exact ⟨Below.refl _ _, rfl⟩
    refine ⟨fun s a W hlo hhi hG hkT hold hdep hgv => ?_, ?_⟩
    · obtain rfl : s = 0 := Nat.le_zero.1 (Nat.le_trans hhi (Nat.le_of_eq (by kernel_rfl)))
      show OpOk _ _ _ _ _
      replace hG : Below w.heap.size w W := hG
      have h38 : a.tmps.getD 38 undef = .pointer (some ⟨b, 1, none⟩) := hdep 12 38 (by kernel_rfl) rfl
      have hc : W.cell? ⟨b, 1, none⟩ = some (.int .u8 0) := by have := (rb.out.below hG rb.out.lt).cell (blkA_get blkA3 1 (by decide)); rwa [blkA3_1] at this
      unfold OpOk
      simp [execOp, go_sem, eval_tmp, eval_const, eval_func, h38, hc]
      exact ⟨Below.refl _ _, rfl⟩
    refine ⟨fun s a W hlo hhi hG hkT hold hdep hgv => ?_, ?_⟩
    · show OpOk _ _ _ _ _
      have h39 : a.tmps.getD 39 undef = .int .u8 0 := hdep 13 39 (by kernel_rfl) rfl
      unfold OpOk
      simp [execOp, go_sem, eval_tmp, eval_const, eval_func, h39]
      exact ⟨Below.refl _ _, rfl⟩
    refine ⟨fun s a W hlo hhi hG hkT hold hdep hgv => ?_, ?_⟩
    · show OpOk _ _ _ _ _
      have h37 : a.tmps.getD 37 undef = .bool true := hdep 11 37 (by kernel_rfl) rfl
      have h40 : a.tmps.getD 40 undef = .bool true := hdep 14 40 (by kernel_rfl) rfl
      unfold OpOk
      simp [execOp, go_sem, eval_tmp, eval_const, eval_func, h37, h40]
      exact ⟨Below.refl _ _, rfl⟩
    refine ⟨fun s a W hlo hhi hG hkT hold hdep hgv => ?_, ?_⟩
    · show OpOk _ _ _ _ _
      have h41 : a.tmps.getD 41 undef = .bool true := hdep 15 41 (by kernel_rfl) rfl
      unfold OpOk
      simp [execOp, go_sem, eval_tmp, eval_const, eval_func, h41]
      exact ⟨Below.refl _ _, rfl⟩
    refine ⟨fun s a W hlo hhi hG hkT hold hdep hgv => ?_, ?_⟩
    · show OpOk _ _ _ _ _
      have h1 : a.tmps.getD 1 undef = .pointer (some ⟨d, 0, none⟩) := (hold 1 (by kernel_rfl)).trans rfl
      unfold OpOk
      simp [execOp, go_sem, eval_tmp, eval_const, eval_func, h1]
      exact ⟨Below.refl _ _, rfl⟩
    refine ⟨fun s a W hlo hhi hG hkT hold hdep hgv => ?_, ?_⟩
    · obtain rfl : s = 0 := Nat.le_zero.1 (Nat.le_trans hhi (Nat.le_of_eq (by kernel_rfl)))
      show OpOk _ _ _ _ _
      replace hG : Below w.heap.size w W := hG
      have h43 : a.tmps.getD 43 undef = .pointer (some ⟨d, 0, none⟩) := hdep 17 43 (by kernel_rfl) rfl
      unfold OpOk
      simp [execOp, go_sem, eval_tmp, eval_const, eval_func, h43]
      have hL := lasts_any (hdk.out.below hG) 3
      rw [dsA2_last] at hL
      refine hL.mono ?_
      rintro e W2 ⟨rfl, hb⟩; exact ⟨_, rfl, hb, rfl⟩
    refine ⟨fun s a W hlo hhi hG hkT hold hdep hgv => ?_, ?_⟩
    · obtain rfl : s = 0 := Nat.le_zero.1 (Nat.le_trans hhi (Nat.le_of_eq (by kernel_rfl)))
      show OpOk _ _ _ _ _
      replace hG : Below w.heap.size w W := hG
      have h4 : a.tmps.getD 4 undef = .pointer (some ⟨b, 0, none⟩) := (hold 4 (by kernel_rfl)).trans rfl
      exact opOk_load 32 _ rfl b (by rw [eval_tmp, h4]) 32 (blkA blkA3) _ (rb.out.below hG rb.out.lt) Try.underlying32 rfl (infoBlkCs _) rfl
    refine ⟨fun s a W hlo hhi hG hkT hold hdep hgv => ?_, ?_⟩
    · show OpOk _ _ _ _ _
      have h44 : a.tmps.getD 44 undef = .agg (blkA blkA3) := hdep 18 44 (by kernel_rfl) rfl
      have h45 : a.tmps.getD 45 undef = .agg (blkA blkA3) := hdep 19 45 (by kernel_rfl) rfl
      unfold OpOk
      simp [execOp, go_sem, eval_tmp, eval_const, eval_func, h44, h45, blk_eql, blk_guard]
      exact ⟨Below.refl _ _, rfl⟩
    refine ⟨fun s a W hlo hhi hG hkT hold hdep hgv => ?_, ?_⟩
    · show OpOk _ _ _ _ _
      have h42 : a.tmps.getD 42 undef = .bool true := hdep 16 42 (by kernel_rfl) rfl
      have h46 : a.tmps.getD 46 undef = .bool true := hdep 20 46 (by kernel_rfl) rfl
      unfold OpOk
      simp [execOp, go_sem, eval_tmp, eval_const, eval_func, h42, h46]
      exact ⟨Below.refl _ _, rfl⟩
    refine ⟨fun s a W hlo hhi hG hkT hold hdep hgv => ?_, ?_⟩
    · show OpOk _ _ _ _ _
      have h47 : a.tmps.getD 47 undef = .bool true := hdep 21 47 (by kernel_rfl) rfl
      unfold OpOk
      simp [execOp, go_sem, eval_tmp, eval_const, eval_func, h47]
      exact ⟨Below.refl _ _, rfl⟩
    trivial
  case r7fin =>
    intro X W hG hkT hX
    replace hG : (fun W => Below w.heap.size w W) W := hG
    have e26 : X 26 = .int .i64 0 := hX 0 26 (by decide) rfl
    have e27 : X 27 = .bool true := hX 1 27 (by decide) rfl
    have e28 : X 28 = .bool true := hX 2 28 (by decide) rfl
    have e29 : X 29 = .int .i64 0 := hX 3 29 (by decide) rfl
    have e30 : X 30 = .bool true := hX 4 30 (by decide) rfl
    have e31 : X 31 = .bool true := hX 5 31 (by decide) rfl
    have e32 : X 32 = .bool true := hX 6 32 (by decide) rfl
    have e33 : X 33 = .pointer (some ⟨b, 0, none⟩) := hX 7 33 (by decide) rfl
    have e34 : X 34 = .int .u8 7 := hX 8 34 (by decide) rfl
    have e35 : X 35 = .bool true := hX 9 35 (by decide) rfl
    have e36 : X 36 = .bool true := hX 10 36 (by decide) rfl
    have e37 : X 37 = .bool true := hX 11 37 (by decide) rfl
    have e38 : X 38 = .pointer (some ⟨b, 1, none⟩) := hX 12 38 (by decide) rfl
    have e39 : X 39 = .int .u8 0 := hX 13 39 (by decide) rfl
    have e40 : X 40 = .bool true := hX 14 40 (by decide) rfl
    have e41 : X 41 = .bool true := hX 15 41 (by decide) rfl
    have e42 : X 42 = .bool true := hX 16 42 (by decide) rfl
    have e43 : X 43 = .pointer (some ⟨d, 0, none⟩) := hX 17 43 (by decide) rfl
    have e44 : X 44 = .agg (blkA blkA3) := hX 18 44 (by decide) rfl
    have e45 : X 45 = .agg (blkA blkA3) := hX 19 45 (by decide) rfl
    have e46 : X 46 = .bool true := hX 20 46 (by decide) rfl
    have e47 : X 47 = .bool true := hX 21 47 (by decide) rfl
    have e0 : X 0 = .bool true := hX 22 0 (by decide) rfl
    clear hX
    simp only [List.map_cons, List.map_nil, putAll, List.foldl_cons, List.foldl_nil, List.setIfInBounds_toArray, List.set_cons_zero, List.set_cons_succ, e26, e27, e28, e29, e30, e31, e32, e33, e34, e35, e36, e37, e38, e39, e40, e41, e42, e43, e44, e45, e46, e47, e0]
    clear e26 e27 e28 e29 e30 e31 e32 e33 e34 e35 e36 e37 e38 e39 e40 e41 e42 e43 e44 e45 e46 e47 e0
    exact hK _ _ _ _ _ _ _ _ _ _ _ _ _ _ _ _ _ _ _ _ _ _ _ hG

set_option maxRecDepth 1000000 in
set_option maxHeartbeats 4000000 in
theorem awake_any (w : World) : Calls Try.prog 7 #[] w fun e w' => e = .returned (.bool true) ∧ Below w.heap.size w w' := by
  have hn := hid (new_dk 16 (by decide) (by decide) w)
  have hz := zero_block
  have hzs := zeroBlk_size
  have hb7 := hid build_78
  have hbs := blkA_size blkA3
  go_enter Try.func7, Try.ntmps7
  go_wp2_with (first
    | (with_reducible refine at_op (some 17) (.build 32 #[(0, .const (.int .u8 7)), (1, .const (.int .u8 8))]) ?_
       refine wpList_build_run (o := ⟨some 17, _, _, _, _, _⟩) rfl 32 _ rfl #[(0, .int .u8 7), (1, .int .u8 8)] (by simp only [List.map_toArray, List.map_cons, List.map_nil, eval_const]) (blkA b78) (hb7.out _) ?_)
    | (go_at_call 8; refine hn.out.mono ?_; rintro e w1 ⟨d, F, rfl, hd1, hB1, hF1⟩; have o1 := hid (Own.mk hd1 hB1 hF1); clear hd1 hB1 hF1)
    | (go_at_call 9; have hw := write_any o1.out.dk (new_ok 16) 3 b78; rw [dsA1_eq] at hw; refine hw.mono ?_; clear hw; rintro e w2 ⟨rfl, ht⟩; obtain ⟨F2, o2, _⟩ := o1.out.to ht; replace o2 := hid o2; clear ht)
    | (go_at_call 11; refine (crash_any o2.out.dk dsA1_ok 1 keep_1).mono ?_; rintro e w3 ⟨rfl, ht⟩; rw [show dsA1.crash 1 = dsA2 by unfold dsA2; rfl] at ht; obtain ⟨F3, o3, _⟩ := o2.out.to ht; replace o3 := hid o3; clear ht)
    | (go_at_call 15; have hw := read_any o3.out.dk 3 (wf_nat (n := 3) (by decide)); rw [dsA2_read] at hw; refine hw.mono ?_; clear hw; rintro e w4 ⟨rfl, hB4⟩; have o4 := hid (o3.out.below hB4); have hst := cells_block _ _ _ (blkA blkA3) (RowAt.new w4 zeroBlk 32) zeroBlk_size (blkA_size _) (blkA_one _); rw [World.setRow_alloc_new] at hst; clear hB4))
  have o5 := o4.out.below (below_al (Below.refl _ _) (.cells (blkA blkA3) 32))
  have rb5 := RowAt.new w4 (blkA blkA3) 32
  refine awake_r7 (hid o5.dk) (hid rb5) _ _ _ _ _ _ _ _ _ _ _ _ _ _ _ _ _ _ _ _ _ _ _ _ _ _ _ _ _ _ _ _ _ _ _ _ _ _ _ _ _ _ _ _ ?_
  intro v26 v27 v28 v29 v30 v31 v32 v33 v34 v35 v36 v37 v38 v39 v40 v41 v42 v43 v44 v45 v46 v47 w6 hB6
  replace hB6 := hid hB6
  replace o5 := hid o5
  go_wp2
  go_ret
  exact ⟨rfl, below_cat hB6.out o5.out.bel⟩

end Go.Proofs.Ytaofpeajfgcjcaa