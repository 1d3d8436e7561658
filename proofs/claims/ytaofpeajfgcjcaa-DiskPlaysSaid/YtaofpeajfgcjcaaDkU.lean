/- Disk: the regions of DiskCrashes that draw their order. Printed by wip/tools/mkDkU.py. -/
import Derived.Test.YtaofpeajfgcjcaaDkT
namespace Go.Proofs.Ytaofpeajfgcjcaa
open Go Go.RowKit Go.Maps
set_option linter.unusedSimpArgs false
set_option linter.unusedVariables false

theorem fill_call {a : Act} {W : World} {o : Oper} {Ψ : Value → World → Prop} (c : UInt8) (h : ∀ W', Below W.heap.size W W' → Ψ (.agg (blkA (fillB c))) W') : Calls Try.prog 10 #[.int .u8 (c.toNat : Nat)] W fun e W' => ∃ v, e = .returned v ∧ Below W.heap.size W W' ∧ Ψ v W' :=
  (fill_any c W).mono fun e W' ⟨he, hb⟩ => ⟨_, he, hb, h W' hb⟩

set_option maxRecDepth 1000000 in
set_option maxHeartbeats 4000000 in
theorem crashes_r9 {F : Nat → Prop} {d b : Nat} {S : DS} {q : ActT} {D : List Deferred} {w : World} (hdk : Hid (Dk w F d S)) (hok : Hid S.Ok) (rb : Hid (RowAt w b 29 #[.int .i64 q.1, .int .i64 q.2.1, .int .u8 (q.2.2.toNat : Nat)])) {Q : Exit → Act → World → Prop} (u0 u1 u2 u3 u4 u5 u6 u8 u9 u11 u12 u13 u14 u15 u16 u17 u18 u19 u20 u21 u22 u23 u24 u25 u26 u27 u28 u29 u30 u31 u32 u33 u34 u35 u36 u37 u38 u39 u40 u41 u42 u43 u44 u45 u46 u47 u48 u49 u50 u51 u52 u53 u54 u55 u56 u57 u58 u59 u60 u61 u62 u63 u64 u65 u66 u67 u68 u69 u70 u71 u72 u73 u74 u75 u76 u77 : Value)
    (hK : ∀ (v31 v32 v33 v34 v35 v36 v37 : Value) (W : World), (fun W => ∃ F', Dk W F' d (S.write q.2.1 (fillB q.2.2)).2 ∧ ∀ k, F' k → F k ∨ w.heap.size ≤ k) W → Kept F w W → Q .normal { tmps := #[u0, u1, u2, u3, u4, u5, u6, .pointer (some ⟨d, 0, none⟩), u8, u9, .pointer (some ⟨b, 0, none⟩), u11, u12, u13, u14, u15, u16, u17, u18, u19, u20, u21, u22, u23, u24, u25, u26, u27, u28, u29, u30, v31, v32, v33, v34, v35, v36, v37, u38, u39, u40, u41, u42, u43, u44, u45, u46, u47, u48, u49, u50, u51, u52, u53, u54, u55, u56, u57, u58, u59, u60, u61, u62, u63, u64, u65, u66, u67, u68, u69, u70, u71, u72, u73, u74, u75, u76, u77], defers := D } W) :
    (fragR Try.f3 9).wpIn Fence.wide 0 Try.prog Q { tmps := #[u0, u1, u2, u3, u4, u5, u6, .pointer (some ⟨d, 0, none⟩), u8, u9, .pointer (some ⟨b, 0, none⟩), u11, u12, u13, u14, u15, u16, u17, u18, u19, u20, u21, u22, u23, u24, u25, u26, u27, u28, u29, u30, u31, u32, u33, u34, u35, u36, u37, u38, u39, u40, u41, u42, u43, u44, u45, u46, u47, u48, u49, u50, u51, u52, u53, u54, u55, u56, u57, u58, u59, u60, u61, u62, u63, u64, u65, u66, u67, u68, u69, u70, u71, u72, u73, u74, u75, u76, u77], defers := D } w := by
  dsimp only at hK ⊢
  rw [show fragR Try.f3 9 = Code.region _ (List.toArray _) true from rfl]
  refine wpIn_region_st 78 [6] [31, 32, 33, 34, 35, 36, 37] (phiOf [QV (.pointer (some ⟨d, 0, none⟩)), QV (.pointer (some ⟨b, 1, none⟩)), QV (.int .i64 q.2.1), QV (.pointer (some ⟨b, 2, none⟩)), QV (.int .u8 (q.2.2.toNat : Nat)), QV (.agg (blkA (fillB q.2.2))), QV (.int .i64 (S.write q.2.1 (fillB q.2.2)).1)]) (gOf [fun W => Below w.heap.size w W, fun W => ∃ F', Dk W F' d (S.write q.2.1 (fillB q.2.2)).2 ∧ ∀ k, F' k → F k ∨ w.heap.size ≤ k]) (tOf [F]) (F) (by kernel_rfl) (by kernel_rfl) (by kernel_rfl) rfl ?r9TT (phi_st ?r9st) (gOf_stays ?r9G) ?r9G0 ?r9g ?r9op ?r9fin
  case r9TT =>
    refine tOf_in ?_
    simp only [List.forall_mem_cons]; exact ⟨fun b hb => hb, fun _ h => by cases h⟩
  case r9st => exact ⟨stq _ _ _ _, stq _ _ _ _, stq _ _ _ _, stq _ _ _ _, stq _ _ _ _, stq _ _ _ _, stq _ _ _ _, trivial⟩
  case r9G => simp only [List.forall_mem_cons]; exact ⟨fun W W' h hb => below_cat hb h, fun W W' ⟨F', h1, h2⟩ hb => ⟨F', h1.below hb, h2⟩, fun _ h => by cases h⟩
  case r9G0 => exact (Below.refl _ _).drew
  case r9g => exact no_guards rfl
  case r9op =>
    refine ⟨fun s a W hlo hhi hG hkT hold hdep hgv => ?_, ?_⟩
    · show OpOk _ _ _ _ _
      have h7 : a.tmps.getD 7 undef = .pointer (some ⟨d, 0, none⟩) := (hold 7 (by kernel_rfl)).trans rfl
      unfold OpOk
      simp [execOp, go_sem, eval_tmp, eval_const, eval_func, h7]
      exact ⟨Below.refl _ _, rfl⟩
    refine ⟨fun s a W hlo hhi hG hkT hold hdep hgv => ?_, ?_⟩
    · show OpOk _ _ _ _ _
      have h10 : a.tmps.getD 10 undef = .pointer (some ⟨b, 0, none⟩) := (hold 10 (by kernel_rfl)).trans rfl
      unfold OpOk
      simp [execOp, go_sem, eval_tmp, eval_const, eval_func, h10]
      exact ⟨Below.refl _ _, rfl⟩
    refine ⟨fun s a W hlo hhi hG hkT hold hdep hgv => ?_, ?_⟩
    · obtain rfl : s = 0 := Nat.le_zero.1 (Nat.le_trans hhi (Nat.le_of_eq (by kernel_rfl)))
      show OpOk _ _ _ _ _
      replace hG : Below w.heap.size w W := hG
      have h32 : a.tmps.getD 32 undef = .pointer (some ⟨b, 1, none⟩) := hdep 1 32 (by kernel_rfl) rfl
      have hc : W.cell? ⟨b, 1, none⟩ = some (.int .i64 q.2.1) := (rb.out.below hG rb.out.lt).cell rfl
      unfold OpOk
      simp [execOp, go_sem, eval_tmp, eval_const, eval_func, h32, hc]
      exact ⟨Below.refl _ _, rfl⟩
    refine ⟨fun s a W hlo hhi hG hkT hold hdep hgv => ?_, ?_⟩
    · show OpOk _ _ _ _ _
      have h10 : a.tmps.getD 10 undef = .pointer (some ⟨b, 0, none⟩) := (hold 10 (by kernel_rfl)).trans rfl
      unfold OpOk
      simp [execOp, go_sem, eval_tmp, eval_const, eval_func, h10]
      exact ⟨Below.refl _ _, rfl⟩
    refine ⟨fun s a W hlo hhi hG hkT hold hdep hgv => ?_, ?_⟩
    · obtain rfl : s = 0 := Nat.le_zero.1 (Nat.le_trans hhi (Nat.le_of_eq (by kernel_rfl)))
      show OpOk _ _ _ _ _
      replace hG : Below w.heap.size w W := hG
      have h34 : a.tmps.getD 34 undef = .pointer (some ⟨b, 2, none⟩) := hdep 3 34 (by kernel_rfl) rfl
      have hc : W.cell? ⟨b, 2, none⟩ = some (.int .u8 (q.2.2.toNat : Nat)) := (rb.out.below hG rb.out.lt).cell rfl
      unfold OpOk
      simp [execOp, go_sem, eval_tmp, eval_const, eval_func, h34, hc]
      exact ⟨Below.refl _ _, rfl⟩
    refine ⟨fun s a W hlo hhi hG hkT hold hdep hgv => ?_, ?_⟩
    · obtain rfl : s = 0 := Nat.le_zero.1 (Nat.le_trans hhi (Nat.le_of_eq (by kernel_rfl)))
      show OpOk _ _ _ _ _
      replace hG : Below w.heap.size w W := hG
      have h35 : a.tmps.getD 35 undef = .int .u8 (q.2.2.toNat : Nat) := hdep 4 35 (by kernel_rfl) rfl
      unfold OpOk
      simp [execOp, go_sem, eval_tmp, eval_const, eval_func, h35]
      exact fill_call (a := a) (o := ⟨none, .move (.const undef), 0, "", #[], none⟩) q.2.2 fun W' hb => rfl
    refine ⟨fun s a W hlo hhi hG hkT hold hdep hgv => ?_, ?_⟩
    · obtain rfl : s = 0 := Nat.le_antisymm (Nat.le_trans hhi (Nat.le_of_eq (by kernel_rfl))) (Nat.le_trans (Nat.le_of_eq (by kernel_rfl)) hlo)
      show OpR _ _ _ _ _
      replace hG : (fun W => Below w.heap.size w W) W := hG
      have h31 : a.tmps.getD 31 undef = .pointer (some ⟨d, 0, none⟩) := hdep 0 31 (by kernel_rfl) rfl
      have h33 : a.tmps.getD 33 undef = .int .i64 q.2.1 := hdep 2 33 (by kernel_rfl) rfl
      have h36 : a.tmps.getD 36 undef = .agg (blkA (fillB q.2.2)) := hdep 5 36 (by kernel_rfl) rfl
      unfold OpR
      simp [execOp, go_sem, eval_tmp, eval_const, eval_func, h31, h33, h36]
      refine (write_any (hdk.out.below hG) hok.out q.2.1 (fillB q.2.2)).mono ?_
      rintro e W2 ⟨rfl, F', h1, h2, h3⟩
      exact ⟨_, rfl, h2, ⟨F', h1, fun k hk => (h3 k hk).imp id (fun h => Nat.le_trans hG.size h)⟩, rfl⟩
    trivial
  case r9fin =>
    intro X W hG hkT hX
    replace hG : (fun W => ∃ F', Dk W F' d (S.write q.2.1 (fillB q.2.2)).2 ∧ ∀ k, F' k → F k ∨ w.heap.size ≤ k) W := hG
    have e31 : X 31 = .pointer (some ⟨d, 0, none⟩) := hX 0 31 (by decide) rfl
    have e32 : X 32 = .pointer (some ⟨b, 1, none⟩) := hX 1 32 (by decide) rfl
    have e33 : X 33 = .int .i64 q.2.1 := hX 2 33 (by decide) rfl
    have e34 : X 34 = .pointer (some ⟨b, 2, none⟩) := hX 3 34 (by decide) rfl
    have e35 : X 35 = .int .u8 (q.2.2.toNat : Nat) := hX 4 35 (by decide) rfl
    have e36 : X 36 = .agg (blkA (fillB q.2.2)) := hX 5 36 (by decide) rfl
    have e37 : X 37 = .int .i64 (S.write q.2.1 (fillB q.2.2)).1 := hX 6 37 (by decide) rfl
    clear hX
    simp only [List.map_cons, List.map_nil, putAll, List.foldl_cons, List.foldl_nil, List.setIfInBounds_toArray, List.set_cons_zero, List.set_cons_succ, e31, e32, e33, e34, e35, e36, e37]
    clear e31 e32 e33 e34 e35 e36 e37
    exact hK _ _ _ _ _ _ _ _ hG hkT

set_option maxRecDepth 1000000 in
set_option maxHeartbeats 4000000 in
theorem crashes_r20 {c g cap : Nat} {v : Value} {bs : List Blk} {D : List Deferred} {w : World} (rc : Hid (RowAt w c 35 #[v])) (hv : Hid (IsBlks w v bs)) (hg : Hid (v.ownBlock = some g)) (hl : Hid (bs.length = 16)) (hvv : Hid (v = .slice (some ⟨g, 0, none⟩) 16 cap)) {Q : Exit → Act → World → Prop} (u0 u1 u2 u3 u4 u5 u6 u7 u8 u9 u10 u12 u13 u14 u15 u16 u17 u18 u19 u20 u21 u22 u23 u24 u25 u26 u27 u28 u29 u30 u31 u32 u33 u34 u35 u36 u37 u38 u39 u40 u41 u42 u43 u44 u45 u46 u47 u48 u49 u50 u51 u52 u53 u54 u55 u56 u57 u58 u59 u60 u61 u62 u63 u64 u65 u66 u67 u68 u69 u70 u71 u72 u73 u74 u75 u76 u77 : Value)
    (hK : ∀ (v59 v60 v61 : Value) (W : World), (fun W => IsBlks W v (bs.set 3 (fillB 1))) W → Kept (fun k => k = g) w W → Q .normal { tmps := #[u0, u1, u2, u3, u4, u5, u6, u7, u8, u9, u10, .pointer (some ⟨c, 0, none⟩), u12, u13, u14, u15, u16, u17, u18, u19, u20, u21, u22, u23, u24, u25, u26, u27, u28, u29, u30, u31, u32, u33, u34, u35, u36, u37, u38, u39, u40, u41, u42, u43, u44, u45, u46, u47, u48, u49, u50, u51, u52, u53, u54, u55, u56, u57, u58, v59, v60, v61, u62, u63, u64, u65, u66, u67, u68, u69, u70, u71, u72, u73, u74, u75, u76, u77], defers := D } W) :
    (fragR Try.f3 20).wpIn Fence.wide 0 Try.prog Q { tmps := #[u0, u1, u2, u3, u4, u5, u6, u7, u8, u9, u10, .pointer (some ⟨c, 0, none⟩), u12, u13, u14, u15, u16, u17, u18, u19, u20, u21, u22, u23, u24, u25, u26, u27, u28, u29, u30, u31, u32, u33, u34, u35, u36, u37, u38, u39, u40, u41, u42, u43, u44, u45, u46, u47, u48, u49, u50, u51, u52, u53, u54, u55, u56, u57, u58, u59, u60, u61, u62, u63, u64, u65, u66, u67, u68, u69, u70, u71, u72, u73, u74, u75, u76, u77], defers := D } w := by
  dsimp only at hK ⊢
  rw [show fragR Try.f3 20 = Code.region _ (List.toArray _) true from rfl]
  refine wpIn_region_st 78 [3] [59, 60, 61] (phiOf [QV (v), QV (.agg (blkA (fillB 1))), QV (.pointer (some ⟨g, 3 * 128, none⟩)), QV (undef)]) (gOf [fun W => Below w.heap.size w W, fun W => IsBlks W v (bs.set 3 (fillB 1))]) (tOf [fun k => k = g]) (fun k => k = g) (by kernel_rfl) (by kernel_rfl) (by kernel_rfl) rfl ?r20TT (phi_st ?r20st) (gOf_stays ?r20G) ?r20G0 ?r20g ?r20op ?r20fin
  case r20TT =>
    refine tOf_in ?_
    simp only [List.forall_mem_cons]; exact ⟨fun b hb => hb, fun _ h => by cases h⟩
  case r20st => exact ⟨stq _ _ _ _, stq _ _ _ _, stq _ _ _ _, stq _ _ _ _, trivial⟩
  case r20G => simp only [List.forall_mem_cons]; exact ⟨fun W W' h hb => below_cat hb h, fun W W' h hb => h.kept (Kept.of_below (S := fun _ => False) hb) (fun _ _ h => h), fun _ h => by cases h⟩
  case r20G0 => exact (Below.refl _ _).drew
  case r20g => exact no_guards rfl
  case r20op =>
    refine ⟨fun s a W hlo hhi hG hkT hold hdep hgv => ?_, ?_⟩
    · obtain rfl : s = 0 := Nat.le_zero.1 (Nat.le_trans hhi (Nat.le_of_eq (by kernel_rfl)))
      show OpOk _ _ _ _ _
      replace hG : Below w.heap.size w W := hG
      have h11 : a.tmps.getD 11 undef = .pointer (some ⟨c, 0, none⟩) := (hold 11 (by kernel_rfl)).trans rfl
      have hc : W.cell? ⟨c, 0, none⟩ = some (v) := (rc.out.below hG rc.out.lt).cell rfl
      unfold OpOk
      simp [execOp, go_sem, eval_tmp, eval_const, eval_func, h11, hc]
      exact ⟨Below.refl _ _, rfl⟩
    refine ⟨fun s a W hlo hhi hG hkT hold hdep hgv => ?_, ?_⟩
    · show OpOk _ _ _ _ _
      unfold OpOk
      simp [execOp, go_sem, eval_tmp, eval_const, eval_func]
      exact fill_call (a := a) (o := ⟨none, .move (.const undef), 0, "", #[], none⟩) 1 fun W' hb => rfl
    refine ⟨fun s a W hlo hhi hG hkT hold hdep hgv => ?_, ?_⟩
    · show OpOk _ _ _ _ _
      have h59 : a.tmps.getD 59 undef = v := hdep 0 59 (by kernel_rfl) rfl
      rw [hvv.out] at h59
      unfold OpOk
      simp [execOp, go_sem, eval_tmp, eval_const, eval_func, h59]
      exact ⟨Below.refl _ _, rfl⟩
    refine ⟨fun s a W hlo hhi hG hkT hold hdep hgv => ?_, ?_⟩
    · obtain rfl : s = 0 := Nat.le_antisymm (Nat.le_trans hhi (Nat.le_of_eq (by kernel_rfl))) (Nat.le_trans (Nat.le_of_eq (by kernel_rfl)) hlo)
      show OpR _ _ _ _ _
      replace hG : (fun W => Below w.heap.size w W) W := hG
      have h61 : a.tmps.getD 61 undef = .pointer (some ⟨g, 3 * 128, none⟩) := hdep 2 61 (by kernel_rfl) rfl
      have h60 : a.tmps.getD 60 undef = .agg (blkA (fillB 1)) := hdep 1 60 (by kernel_rfl) rfl
      obtain ⟨cur, hcur, hfit, hput⟩ := (hv.out.kept (Kept.of_below (S := fun _ => False) hG) (fun _ _ h => h)).put hg.out (i := 3) (by rw [hl.out]; decide) (fillB 1)
      refine opR_store_midrow 32 (.tmp 61) (.tmp 60) rfl g (3 * 128) (blkA (fillB 1)) cur 32 h61 h60 hcur (by rw [blkA_size]; exact hfit) (infoBlkCs _) (blkA_one _) ?_
      exact ⟨⟨rfl, rfl, rfl, by simp, fun k hk hs => setRow_other W g k _ hs⟩, hput, rfl⟩
    trivial
  case r20fin =>
    intro X W hG hkT hX
    replace hG : (fun W => IsBlks W v (bs.set 3 (fillB 1))) W := hG
    have e59 : X 59 = v := hX 0 59 (by decide) rfl
    have e60 : X 60 = .agg (blkA (fillB 1)) := hX 1 60 (by decide) rfl
    have e61 : X 61 = .pointer (some ⟨g, 3 * 128, none⟩) := hX 2 61 (by decide) rfl
    clear hX
    simp only [List.map_cons, List.map_nil, putAll, List.foldl_cons, List.foldl_nil, List.setIfInBounds_toArray, List.set_cons_zero, List.set_cons_succ, e59, e60, e61]
    clear e59 e60 e61
    exact hK _ _ _ _ hG hkT

set_option maxRecDepth 1000000 in
set_option maxHeartbeats 4000000 in
theorem crashes_r25 {rd : Nat} {c g cap i b : Nat} {v : Value} {bs : List Blk} {B B' : Blk} {D : List Deferred} {w : World} (rc : Hid (RowAt w c 35 #[v])) (rb : Hid (RowAt w b 32 (blkA B))) (hv : Hid (IsBlks w v bs)) (hg : Hid (v.ownBlock = some g)) (hi : Hid (bs[i]? = some B')) (hBB : Hid (blkA B' = blkA B)) (hi16 : i < 16) (hvv : Hid (v = .slice (some ⟨g, 0, none⟩) 16 cap)) {Q : Exit → Act → World → Prop} (u0 u1 u2 u3 u4 u5 u6 u7 u8 u9 u10 u12 u13 u16 u17 u18 u19 u20 u21 u22 u23 u24 u25 u26 u27 u28 u29 u30 u31 u32 u33 u34 u35 u36 u37 u38 u39 u40 u41 u42 u43 u44 u45 u46 u47 u48 u49 u50 u51 u52 u53 u54 u55 u56 u57 u58 u59 u60 u61 u62 u63 u64 u65 u66 u67 u68 u69 u70 u71 u72 u73 u74 u75 u76 u77 : Value)
    (hK : ∀ (v69 v70 v71 v72 v73 : Value) (W : World), Below w.heap.size w W → Q .normal { tmps := #[u0, u1, u2, u3, u4, u5, u6, u7, u8, u9, u10, .pointer (some ⟨c, 0, none⟩), u12, u13, .int .i64 (i : Nat), .pointer (some ⟨b, 0, none⟩), u16, u17, u18, u19, u20, u21, u22, u23, u24, u25, u26, u27, u28, u29, u30, u31, u32, u33, u34, u35, u36, u37, u38, u39, u40, u41, u42, u43, u44, u45, u46, u47, u48, u49, u50, u51, u52, u53, u54, u55, u56, u57, u58, u59, u60, u61, u62, u63, u64, u65, u66, u67, u68, v69, v70, v71, v72, v73, .bool false, u75, u76, u77], defers := D } W) :
    (fragR Try.f3 25).wpIn (Fence.wide.inRound rd) 0 Try.prog Q { tmps := #[u0, u1, u2, u3, u4, u5, u6, u7, u8, u9, u10, .pointer (some ⟨c, 0, none⟩), u12, u13, .int .i64 (i : Nat), .pointer (some ⟨b, 0, none⟩), u16, u17, u18, u19, u20, u21, u22, u23, u24, u25, u26, u27, u28, u29, u30, u31, u32, u33, u34, u35, u36, u37, u38, u39, u40, u41, u42, u43, u44, u45, u46, u47, u48, u49, u50, u51, u52, u53, u54, u55, u56, u57, u58, u59, u60, u61, u62, u63, u64, u65, u66, u67, u68, u69, u70, u71, u72, u73, u74, u75, u76, u77], defers := D } w := by
  dsimp only at hK ⊢
  rw [show fragR Try.f3 25 = Code.region _ (List.toArray _) true from rfl]
  have i1 : (0 : Int) ≤ (i : Int) := by omega
  have i2 : (i : Int) < 16 := by omega
  refine wpIn_region_st_round 78 [] [69, 70, 71, 72, 73, 74] (phiOf [QV (.agg (blkA B)), QV (v), QV (.int .i64 (i : Nat)), QV (.pointer (some ⟨g, i * 128, none⟩)), QV (.agg (blkA B)), QV (.bool false)]) (gOf [fun W => Below w.heap.size w W]) (tOf []) (fun _ => False) (by kernel_rfl) (by kernel_rfl) (by kernel_rfl) (by kernel_rfl) rfl ?r25TT (phi_st ?r25st) (gOf_stays ?r25G) ?r25G0 ?r25g ?r25op ?r25fin
  case r25TT =>
    refine tOf_in ?_
    intro p hp; cases hp
  case r25st => exact ⟨stq _ _ _ _, stq _ _ _ _, stq _ _ _ _, stq _ _ _ _, stq _ _ _ _, stq _ _ _ _, trivial⟩
  case r25G => simp only [List.forall_mem_cons]; exact ⟨fun W W' h hb => below_cat hb h, fun _ h => by cases h⟩
  case r25G0 => exact (Below.refl _ _).drew
  case r25g => exact no_guards rfl
  case r25op =>
    refine ⟨fun s a W hlo hhi hG hkT hold hdep hgv => ?_, ?_⟩
    · obtain rfl : s = 0 := Nat.le_zero.1 (Nat.le_trans hhi (Nat.le_of_eq (by kernel_rfl)))
      show OpOk _ _ _ _ _
      replace hG : Below w.heap.size w W := hG
      have h15 : a.tmps.getD 15 undef = .pointer (some ⟨b, 0, none⟩) := (hold 15 (by kernel_rfl)).trans rfl
      exact opOk_load 32 _ rfl b (by rw [eval_tmp, h15]) 32 (blkA B) _ (rb.out.below hG rb.out.lt) Try.underlying32 rfl (infoBlkCs _) rfl
    refine ⟨fun s a W hlo hhi hG hkT hold hdep hgv => ?_, ?_⟩
    · obtain rfl : s = 0 := Nat.le_zero.1 (Nat.le_trans hhi (Nat.le_of_eq (by kernel_rfl)))
      show OpOk _ _ _ _ _
      replace hG : Below w.heap.size w W := hG
      have h11 : a.tmps.getD 11 undef = .pointer (some ⟨c, 0, none⟩) := (hold 11 (by kernel_rfl)).trans rfl
      have hc : W.cell? ⟨c, 0, none⟩ = some (v) := (rc.out.below hG rc.out.lt).cell rfl
      unfold OpOk
      simp [execOp, go_sem, eval_tmp, eval_const, eval_func, h11, hc]
      exact ⟨Below.refl _ _, rfl⟩
    refine ⟨fun s a W hlo hhi hG hkT hold hdep hgv => ?_, ?_⟩
    · show OpOk _ _ _ _ _
      have h14 : a.tmps.getD 14 undef = .int .i64 (i : Nat) := (hold 14 (by kernel_rfl)).trans rfl
      unfold OpOk
      simp [execOp, go_sem, eval_tmp, eval_const, eval_func, h14]
      exact ⟨Below.refl _ _, rfl⟩
    refine ⟨fun s a W hlo hhi hG hkT hold hdep hgv => ?_, ?_⟩
    · show OpOk _ _ _ _ _
      have h70 : a.tmps.getD 70 undef = v := hdep 1 70 (by kernel_rfl) rfl
      have h71 : a.tmps.getD 71 undef = .int .i64 (i : Nat) := hdep 2 71 (by kernel_rfl) rfl
      rw [hvv.out] at h70
      unfold OpOk
      simp [execOp, go_sem, eval_tmp, eval_const, eval_func, h70, h71, i1, i2]
      exact ⟨Below.refl _ _, rfl⟩
    refine ⟨fun s a W hlo hhi hG hkT hold hdep hgv => ?_, ?_⟩
    · obtain rfl : s = 0 := Nat.le_zero.1 (Nat.le_trans hhi (Nat.le_of_eq (by kernel_rfl)))
      show OpOk _ _ _ _ _
      replace hG : Below w.heap.size w W := hG
      have h72 : a.tmps.getD 72 undef = .pointer (some ⟨g, i * 128, none⟩) := hdep 3 72 (by kernel_rfl) rfl
      have hrg := (hv.out.kept (Kept.of_below (S := fun _ => False) hG) (fun _ _ h => h)).range hg.out hi.out
      refine opOk_load_mid 32 _ rfl g (i * 128) h72 _ _ hrg Try.underlying32 rfl (by rw [Array.length_toList]; exact infoBlkCs _) ?_
      show _ = _
      rw [Array.toArray_toList, hBB.out]
    refine ⟨fun s a W hlo hhi hG hkT hold hdep hgv => ?_, ?_⟩
    · show OpOk _ _ _ _ _
      have h69 : a.tmps.getD 69 undef = .agg (blkA B) := hdep 0 69 (by kernel_rfl) rfl
      have h73 : a.tmps.getD 73 undef = .agg (blkA B) := hdep 4 73 (by kernel_rfl) rfl
      unfold OpOk
      simp [execOp, go_sem, eval_tmp, eval_const, eval_func, h69, h73, blk_neq, blk_guard]
      exact ⟨Below.refl _ _, rfl⟩
    trivial
  case r25fin =>
    intro X W hG hkT hX
    replace hG : (fun W => Below w.heap.size w W) W := hG
    have e69 : X 69 = .agg (blkA B) := hX 0 69 (by decide) rfl
    have e70 : X 70 = v := hX 1 70 (by decide) rfl
    have e71 : X 71 = .int .i64 (i : Nat) := hX 2 71 (by decide) rfl
    have e72 : X 72 = .pointer (some ⟨g, i * 128, none⟩) := hX 3 72 (by decide) rfl
    have e73 : X 73 = .agg (blkA B) := hX 4 73 (by decide) rfl
    have e74 : X 74 = .bool false := hX 5 74 (by decide) rfl
    clear hX
    simp only [List.map_cons, List.map_nil, putAll, List.foldl_cons, List.foldl_nil, List.setIfInBounds_toArray, List.set_cons_zero, List.set_cons_succ, e69, e70, e71, e72, e73, e74]
    clear e69 e70 e71 e72 e73 e74
    exact hK _ _ _ _ _ _ hG

end Go.Proofs.Ytaofpeajfgcjcaa