/- Disk: the regions of Do, Same and DiskPlays that draw their order. Printed by wip/tools/mkDrG.py. -/
import Derived.Test.YtaofpeajfgcjcaaDrF
namespace Go.Proofs.Ytaofpeajfgcjcaa
open Go Go.RowKit Go.Maps
set_option linter.unusedSimpArgs false
set_option linter.unusedVariables false

theorem infoAct : (Try.prog.info? 29).map (·.size) = some 3 := by kernel_rfl
theorem infoBool : (Try.prog.info? 4).map (·.size) = some 1 := by kernel_rfl

set_option maxRecDepth 1000000 in
set_option maxHeartbeats 4000000 in
theorem do_r2 {F G : Nat → Prop} {d p b : Nat} {S : DS} {q : ActT} {D : List Deferred} {w : World} (hp : Hid (Pair w F G d p S)) (hok : Hid S.Ok) (hbF : ¬ F b) (rb : Hid (RowAt w b 29 #[.int .i64 q.1, .int .i64 q.2.1, .int .u8 (q.2.2.toNat : Nat)])) {Q : Exit → Act → World → Prop} (u2 u3 u4 u6 u7 u8 u9 u10 u11 u12 u13 u14 u15 u16 u17 u18 u19 u20 u21 u22 u23 u24 u25 u26 u27 u28 u29 u30 u31 u32 u33 u34 u35 u36 u37 u38 u39 u40 u41 u42 u43 u44 u45 u46 u47 u48 u49 u50 u51 u52 u53 u54 u55 u56 u57 u58 u59 u60 u61 u62 u63 u64 u65 u66 u67 u68 u69 u70 u71 u72 u73 u74 u75 u76 u77 u78 u79 u80 u81 u82 u83 u84 u85 : Value)
    (hK : ∀ (v14 v15 v16 v17 v18 v19 v20 v21 v22 v23 v24 v25 v26 v27 v28 : Value) (W : World), (fun W => Fin w F G d p (S.write q.2.1 (fillB q.2.2)).2 W) W → Kept (fun k => F k ∨ G k) w W → Q .normal { tmps := #[.pointer (some ⟨d, 0, none⟩), .pointer (some ⟨p, 0, none⟩), u2, u3, u4, .pointer (some ⟨b, 0, none⟩), .bool true, u7, u8, u9, u10, u11, u12, u13, v14, v15, v16, v17, v18, v19, v20, v21, v22, v23, v24, v25, v26, v27, v28, u29, u30, u31, u32, u33, u34, u35, u36, u37, u38, u39, u40, u41, u42, u43, u44, u45, u46, u47, u48, u49, u50, u51, u52, u53, u54, u55, u56, u57, u58, u59, u60, u61, u62, u63, u64, u65, u66, u67, u68, u69, u70, u71, u72, u73, u74, u75, u76, u77, u78, u79, u80, u81, u82, u83, u84, u85], defers := D } W) :
    (fragR Try.f18 2).wp Try.prog Q { tmps := #[.pointer (some ⟨d, 0, none⟩), .pointer (some ⟨p, 0, none⟩), u2, u3, u4, .pointer (some ⟨b, 0, none⟩), u6, u7, u8, u9, u10, u11, u12, u13, u14, u15, u16, u17, u18, u19, u20, u21, u22, u23, u24, u25, u26, u27, u28, u29, u30, u31, u32, u33, u34, u35, u36, u37, u38, u39, u40, u41, u42, u43, u44, u45, u46, u47, u48, u49, u50, u51, u52, u53, u54, u55, u56, u57, u58, u59, u60, u61, u62, u63, u64, u65, u66, u67, u68, u69, u70, u71, u72, u73, u74, u75, u76, u77, u78, u79, u80, u81, u82, u83, u84, u85], defers := D } w := by
  dsimp only at hK ⊢
  rw [show fragR Try.f18 2 = Code.region _ (List.toArray _) true from rfl]
  refine wp_region_st 86 [6, 13] [14, 15, 16, 17, 18, 19, 20, 21, 22, 23, 24, 25, 26, 27, 28, 6] (phiOf [QV (.pointer (some ⟨d, 0, none⟩)), QV (.pointer (some ⟨b, 1, none⟩)), QV (.int .i64 q.2.1), QV (.pointer (some ⟨b, 2, none⟩)), QV (.int .u8 (q.2.2.toNat : Nat)), QV (.agg (blkA (fillB q.2.2))), QV (.int .i64 (S.write q.2.1 (fillB q.2.2)).1), QV (.pointer (some ⟨p, 0, none⟩)), QV (.pointer (some ⟨b, 1, none⟩)), QV (.int .i64 q.2.1), QV (.pointer (some ⟨b, 2, none⟩)), QV (.int .u8 (q.2.2.toNat : Nat)), QV (.agg (blkA (fillB q.2.2))), QV (.int .i64 (S.write q.2.1 (fillB q.2.2)).1), QV (.bool true), QV (.bool true)]) (gOf [fun W => Below w.heap.size w W, fun W => Mid w F G d p S (S.write q.2.1 (fillB q.2.2)).2 W ∧ RowAt W b 29 #[.int .i64 q.1, .int .i64 q.2.1, .int .u8 (q.2.2.toNat : Nat)], fun W => Fin w F G d p (S.write q.2.1 (fillB q.2.2)).2 W]) (tOf [F, G]) (fun k => F k ∨ G k) (by kernel_rfl) (by kernel_rfl) (by kernel_rfl) rfl ?r2TT (phi_st ?r2st) (gOf_stays ?r2G) ?r2G0 ?r2g ?r2op ?r2fin
  case r2TT =>
    refine tOf_in ?_
    simp only [List.forall_mem_cons]; exact ⟨fun b hb => .inl hb, fun b hb => .inr hb, fun _ h => by cases h⟩
  case r2st => exact ⟨stq _ _ _ _, stq _ _ _ _, stq _ _ _ _, stq _ _ _ _, stq _ _ _ _, stq _ _ _ _, stq _ _ _ _, stq _ _ _ _, stq _ _ _ _, stq _ _ _ _, stq _ _ _ _, stq _ _ _ _, stq _ _ _ _, stq _ _ _ _, stq _ _ _ _, stq _ _ _ _, trivial⟩
  case r2G => simp only [List.forall_mem_cons]; exact ⟨fun W W' h hb => below_cat hb h, fun W W' h hb => ⟨h.1.below hb, h.2.below hb h.2.lt⟩, fun W W' h hb => h.below hb, fun _ h => by cases h⟩
  case r2G0 => exact (Below.refl _ _).drew
  case r2g => exact no_guards rfl
  case r2op =>
    refine ⟨fun s a W hlo hhi hG hkT hold hdep hgv => ?_, ?_⟩
    · show OpOk _ _ _ _ _
      have h0 : a.tmps.getD 0 undef = .pointer (some ⟨d, 0, none⟩) := (hold 0 (by kernel_rfl)).trans rfl
      unfold OpOk
      simp [execOp, go_sem, eval_tmp, eval_const, eval_func, h0]
      exact ⟨Below.refl _ _, rfl⟩
    refine ⟨fun s a W hlo hhi hG hkT hold hdep hgv => ?_, ?_⟩
    · show OpOk _ _ _ _ _
      have h5 : a.tmps.getD 5 undef = .pointer (some ⟨b, 0, none⟩) := (hold 5 (by kernel_rfl)).trans rfl
      unfold OpOk
      simp [execOp, go_sem, eval_tmp, eval_const, eval_func, h5]
      exact ⟨Below.refl _ _, rfl⟩
    refine ⟨fun s a W hlo hhi hG hkT hold hdep hgv => ?_, ?_⟩
    · obtain rfl : s = 0 := Nat.le_zero.1 (Nat.le_trans hhi (Nat.le_of_eq (by kernel_rfl)))
      show OpOk _ _ _ _ _
      replace hG : Below w.heap.size w W := hG
      have h15 : a.tmps.getD 15 undef = .pointer (some ⟨b, 1, none⟩) := hdep 1 15 (by kernel_rfl) rfl
      have hc : W.cell? ⟨b, 1, none⟩ = some (.int .i64 q.2.1) := (rb.out.below hG rb.out.lt).cell rfl
      unfold OpOk
      simp [execOp, go_sem, eval_tmp, eval_const, eval_func, h15, hc]
      exact ⟨Below.refl _ _, rfl⟩
    refine ⟨fun s a W hlo hhi hG hkT hold hdep hgv => ?_, ?_⟩
    · show OpOk _ _ _ _ _
      have h5 : a.tmps.getD 5 undef = .pointer (some ⟨b, 0, none⟩) := (hold 5 (by kernel_rfl)).trans rfl
      unfold OpOk
      simp [execOp, go_sem, eval_tmp, eval_const, eval_func, h5]
      exact ⟨Below.refl _ _, rfl⟩
    refine ⟨fun s a W hlo hhi hG hkT hold hdep hgv => ?_, ?_⟩
    · obtain rfl : s = 0 := Nat.le_zero.1 (Nat.le_trans hhi (Nat.le_of_eq (by kernel_rfl)))
      show OpOk _ _ _ _ _
      replace hG : Below w.heap.size w W := hG
      have h17 : a.tmps.getD 17 undef = .pointer (some ⟨b, 2, none⟩) := hdep 3 17 (by kernel_rfl) rfl
      have hc : W.cell? ⟨b, 2, none⟩ = some (.int .u8 (q.2.2.toNat : Nat)) := (rb.out.below hG rb.out.lt).cell rfl
      unfold OpOk
      simp [execOp, go_sem, eval_tmp, eval_const, eval_func, h17, hc]
      exact ⟨Below.refl _ _, rfl⟩
    refine ⟨fun s a W hlo hhi hG hkT hold hdep hgv => ?_, ?_⟩
    · show OpOk _ _ _ _ _
      have h18 : a.tmps.getD 18 undef = .int .u8 (q.2.2.toNat : Nat) := hdep 4 18 (by kernel_rfl) rfl
      unfold OpOk
      simp [execOp, go_sem, eval_tmp, eval_const, eval_func, h18]
      exact fill_call (a := a) (o := ⟨none, .move (.const undef), 0, "", #[], none⟩) q.2.2 fun W' hb => rfl
    refine ⟨fun s a W hlo hhi hG hkT hold hdep hgv => ?_, ?_⟩
    · obtain rfl : s = 0 := Nat.le_antisymm (Nat.le_trans hhi (Nat.le_of_eq (by kernel_rfl))) (Nat.le_trans (Nat.le_of_eq (by kernel_rfl)) hlo)
      show OpR _ _ _ _ _
      replace hG : (fun W => Below w.heap.size w W) W := hG
      have h14 : a.tmps.getD 14 undef = .pointer (some ⟨d, 0, none⟩) := hdep 0 14 (by kernel_rfl) rfl
      have h16 : a.tmps.getD 16 undef = .int .i64 q.2.1 := hdep 2 16 (by kernel_rfl) rfl
      have h19 : a.tmps.getD 19 undef = .agg (blkA (fillB q.2.2)) := hdep 5 19 (by kernel_rfl) rfl
      unfold OpR
      simp [execOp, go_sem, eval_tmp, eval_const, eval_func, h14, h16, h19]
      refine (write_any (hp.out.dk.below hG) hok.out q.2.1 (fillB q.2.2)).mono ?_
      rintro e W2 ⟨rfl, ht⟩
      have hm := hp.out.mid hG ht
      obtain ⟨F', h1, h2, h3⟩ := ht
      exact ⟨_, rfl, h2, ⟨hm, h2.row (rb.out.below hG rb.out.lt) hbF⟩, rfl⟩
    refine ⟨fun s a W hlo hhi hG hkT hold hdep hgv => ?_, ?_⟩
    · show OpOk _ _ _ _ _
      have h1 : a.tmps.getD 1 undef = .pointer (some ⟨p, 0, none⟩) := (hold 1 (by kernel_rfl)).trans rfl
      unfold OpOk
      simp [execOp, go_sem, eval_tmp, eval_const, eval_func, h1]
      exact ⟨Below.refl _ _, rfl⟩
    refine ⟨fun s a W hlo hhi hG hkT hold hdep hgv => ?_, ?_⟩
    · show OpOk _ _ _ _ _
      have h5 : a.tmps.getD 5 undef = .pointer (some ⟨b, 0, none⟩) := (hold 5 (by kernel_rfl)).trans rfl
      unfold OpOk
      simp [execOp, go_sem, eval_tmp, eval_const, eval_func, h5]
      exact ⟨Below.refl _ _, rfl⟩
    refine ⟨fun s a W hlo hhi hG hkT hold hdep hgv => ?_, ?_⟩
    · show OpOk _ _ _ _ _
      have h22 : a.tmps.getD 22 undef = .pointer (some ⟨b, 1, none⟩) := hdep 8 22 (by kernel_rfl) rfl
      have hs : s ≤ 1 := Nat.le_trans hhi (Nat.le_of_eq (by kernel_rfl))
      have rW : RowAt W b 29 #[.int .i64 q.1, .int .i64 q.2.1, .int .u8 (q.2.2.toNat : Nat)] := by
        rcases (show s = 0 ∨ s = 1 by omega) with rfl | rfl
        · exact rb.out.below hG rb.out.lt
        · exact hG.2
      have hc : W.cell? ⟨b, 1, none⟩ = some (.int .i64 q.2.1) := rW.cell rfl
      unfold OpOk
      simp [execOp, go_sem, eval_tmp, eval_const, eval_func, h22, hc]
      exact ⟨Below.refl _ _, rfl⟩
    refine ⟨fun s a W hlo hhi hG hkT hold hdep hgv => ?_, ?_⟩
    · show OpOk _ _ _ _ _
      have h5 : a.tmps.getD 5 undef = .pointer (some ⟨b, 0, none⟩) := (hold 5 (by kernel_rfl)).trans rfl
      unfold OpOk
      simp [execOp, go_sem, eval_tmp, eval_const, eval_func, h5]
      exact ⟨Below.refl _ _, rfl⟩
    refine ⟨fun s a W hlo hhi hG hkT hold hdep hgv => ?_, ?_⟩
    · show OpOk _ _ _ _ _
      have h24 : a.tmps.getD 24 undef = .pointer (some ⟨b, 2, none⟩) := hdep 10 24 (by kernel_rfl) rfl
      have hs : s ≤ 1 := Nat.le_trans hhi (Nat.le_of_eq (by kernel_rfl))
      have rW : RowAt W b 29 #[.int .i64 q.1, .int .i64 q.2.1, .int .u8 (q.2.2.toNat : Nat)] := by
        rcases (show s = 0 ∨ s = 1 by omega) with rfl | rfl
        · exact rb.out.below hG rb.out.lt
        · exact hG.2
      have hc : W.cell? ⟨b, 2, none⟩ = some (.int .u8 (q.2.2.toNat : Nat)) := rW.cell rfl
      unfold OpOk
      simp [execOp, go_sem, eval_tmp, eval_const, eval_func, h24, hc]
      exact ⟨Below.refl _ _, rfl⟩
    refine ⟨fun s a W hlo hhi hG hkT hold hdep hgv => ?_, ?_⟩
    · show OpOk _ _ _ _ _
      have h25 : a.tmps.getD 25 undef = .int .u8 (q.2.2.toNat : Nat) := hdep 11 25 (by kernel_rfl) rfl
      unfold OpOk
      simp [execOp, go_sem, eval_tmp, eval_const, eval_func, h25]
      exact fill_call (a := a) (o := ⟨none, .move (.const undef), 0, "", #[], none⟩) q.2.2 fun W' hb => rfl
    refine ⟨fun s a W hlo hhi hG hkT hold hdep hgv => ?_, ?_⟩
    · obtain rfl : s = 1 := Nat.le_antisymm (Nat.le_trans hhi (Nat.le_of_eq (by kernel_rfl))) (Nat.le_trans (Nat.le_of_eq (by kernel_rfl)) hlo)
      show OpR _ _ _ _ _
      replace hG : (fun W => Mid w F G d p S (S.write q.2.1 (fillB q.2.2)).2 W ∧ RowAt W b 29 #[.int .i64 q.1, .int .i64 q.2.1, .int .u8 (q.2.2.toNat : Nat)]) W := hG
      have h21 : a.tmps.getD 21 undef = .pointer (some ⟨p, 0, none⟩) := hdep 7 21 (by kernel_rfl) rfl
      have h23 : a.tmps.getD 23 undef = .int .i64 q.2.1 := hdep 9 23 (by kernel_rfl) rfl
      have h26 : a.tmps.getD 26 undef = .agg (blkA (fillB q.2.2)) := hdep 12 26 (by kernel_rfl) rfl
      have hsz := hkT.size
      obtain ⟨F', m1, m2, m3, m4⟩ := id hG.1
      unfold OpR
      simp [execOp, go_sem, eval_tmp, eval_const, eval_func, h21, h23, h26]
      refine (refWrite_any m2 hok.out q.2.1 (fillB q.2.2)).mono ?_
      rintro e W2 ⟨rfl, ht⟩
      have hf := hG.1.fin hsz ht
      obtain ⟨G', h1, h2, h3⟩ := ht
      exact ⟨_, rfl, h2, hf, rfl⟩
    refine ⟨fun s a W hlo hhi hG hkT hold hdep hgv => ?_, ?_⟩
    · show OpOk _ _ _ _ _
      have h20 : a.tmps.getD 20 undef = .int .i64 (S.write q.2.1 (fillB q.2.2)).1 := hdep 6 20 (by kernel_rfl) rfl
      have h27 : a.tmps.getD 27 undef = .int .i64 (S.write q.2.1 (fillB q.2.2)).1 := hdep 13 27 (by kernel_rfl) rfl
      unfold OpOk
      simp [execOp, go_sem, eval_tmp, eval_const, eval_func, h20, h27]
      exact ⟨Below.refl _ _, rfl⟩
    refine ⟨fun s a W hlo hhi hG hkT hold hdep hgv => ?_, ?_⟩
    · show OpOk _ _ _ _ _
      have h28 : a.tmps.getD 28 undef = .bool true := hdep 14 28 (by kernel_rfl) rfl
      unfold OpOk
      simp [execOp, go_sem, eval_tmp, eval_const, eval_func, h28]
      exact ⟨Below.refl _ _, rfl⟩
    trivial
  case r2fin =>
    intro X W hG hkT hX
    replace hG : (fun W => Fin w F G d p (S.write q.2.1 (fillB q.2.2)).2 W) W := hG
    have e14 : X 14 = .pointer (some ⟨d, 0, none⟩) := hX 0 14 (by decide) rfl
    have e15 : X 15 = .pointer (some ⟨b, 1, none⟩) := hX 1 15 (by decide) rfl
    have e16 : X 16 = .int .i64 q.2.1 := hX 2 16 (by decide) rfl
    have e17 : X 17 = .pointer (some ⟨b, 2, none⟩) := hX 3 17 (by decide) rfl
    have e18 : X 18 = .int .u8 (q.2.2.toNat : Nat) := hX 4 18 (by decide) rfl
    have e19 : X 19 = .agg (blkA (fillB q.2.2)) := hX 5 19 (by decide) rfl
    have e20 : X 20 = .int .i64 (S.write q.2.1 (fillB q.2.2)).1 := hX 6 20 (by decide) rfl
    have e21 : X 21 = .pointer (some ⟨p, 0, none⟩) := hX 7 21 (by decide) rfl
    have e22 : X 22 = .pointer (some ⟨b, 1, none⟩) := hX 8 22 (by decide) rfl
    have e23 : X 23 = .int .i64 q.2.1 := hX 9 23 (by decide) rfl
    have e24 : X 24 = .pointer (some ⟨b, 2, none⟩) := hX 10 24 (by decide) rfl
    have e25 : X 25 = .int .u8 (q.2.2.toNat : Nat) := hX 11 25 (by decide) rfl
    have e26 : X 26 = .agg (blkA (fillB q.2.2)) := hX 12 26 (by decide) rfl
    have e27 : X 27 = .int .i64 (S.write q.2.1 (fillB q.2.2)).1 := hX 13 27 (by decide) rfl
    have e28 : X 28 = .bool true := hX 14 28 (by decide) rfl
    have e6 : X 6 = .bool true := hX 15 6 (by decide) rfl
    clear hX
    simp only [List.map_cons, List.map_nil, putAll, List.foldl_cons, List.foldl_nil, List.setIfInBounds_toArray, List.set_cons_zero, List.set_cons_succ, e14, e15, e16, e17, e18, e19, e20, e21, e22, e23, e24, e25, e26, e27, e28, e6]
    clear e14 e15 e16 e17 e18 e19 e20 e21 e22 e23 e24 e25 e26 e27 e28 e6
    exact hK _ _ _ _ _ _ _ _ _ _ _ _ _ _ _ _ hG hkT

set_option maxRecDepth 1000000 in
set_option maxHeartbeats 4000000 in
theorem same_r8 {rd : Nat} {F G : Nat → Prop} {d p b bd bq bn L i : Nat} {v : Value} {S : DS} {D : List Deferred} {w : World} (hp : Hid (Pair w F G d p S)) (rp : Hid (RowAt w p 50 #[.slice (some ⟨L, 0, none⟩) S.n S.n, v, .int .i64 S.steps, .int .i64 S.fuse, .bool S.down])) (rL : Hid (RowAt w L 32 (lastsA S.n S.lasts))) (rbd : Hid (RowAt w bd 24 #[.pointer (some ⟨d, 0, none⟩)])) (rbq : Hid (RowAt w bq 45 #[.pointer (some ⟨p, 0, none⟩)])) (rbn : Hid (RowAt w bn 3 #[.int .i64 (i : Nat)])) (rb : Hid (RowAt w b 32 (blkA (secOf S.lasts i)))) (hi : i < S.n) {Q : Exit → Act → World → Prop} (u0 u1 u4 u5 u9 u10 u11 u12 u13 u14 u15 u16 u17 u18 u19 u20 u21 u22 u23 u24 u25 u26 u27 u28 u29 u30 u31 u32 u33 u34 u35 u36 u37 u38 u39 u40 u41 u42 u43 u44 u45 u46 u47 u48 u49 u50 u51 u52 u53 u54 u55 u56 u57 u58 u59 u60 u61 u62 u63 u64 u65 u66 u67 u68 u69 u70 u71 u72 u73 u74 u75 u76 u77 u78 u79 u80 u81 u82 u83 u84 u85 u86 u87 u88 u89 u90 u91 u92 u93 u94 u95 u96 u97 u98 u99 u100 u101 u102 u103 u104 u105 u106 u107 u108 u109 u110 u111 u112 u113 : Value)
    (hK : ∀ (v20 v21 v22 v23 v24 v25 v26 v27 v28 v29 v30 v31 v32 v33 v34 v35 v36 v37 v38 v39 v40 v41 v42 v43 v44 v45 v46 v47 v48 : Value) (W : World), Below w.heap.size w W → Q .normal { tmps := #[u0, u1, .pointer (some ⟨bd, 0, none⟩), .pointer (some ⟨bq, 0, none⟩), u4, u5, .pointer (some ⟨bn, 0, none⟩), .int .i64 (i : Nat), .pointer (some ⟨b, 0, none⟩), u9, u10, u11, u12, u13, u14, u15, u16, u17, u18, u19, v20, v21, v22, v23, v24, v25, v26, v27, v28, v29, v30, v31, v32, v33, v34, v35, v36, v37, v38, v39, v40, v41, v42, v43, v44, v45, v46, v47, v48, .bool false, u50, u51, u52, u53, u54, u55, u56, u57, u58, u59, u60, u61, u62, u63, u64, u65, u66, u67, u68, u69, u70, u71, u72, u73, u74, u75, u76, u77, u78, u79, u80, u81, u82, u83, u84, u85, u86, u87, u88, u89, u90, u91, u92, u93, u94, u95, u96, u97, u98, u99, u100, u101, u102, u103, u104, u105, u106, u107, u108, u109, u110, u111, u112, u113], defers := D } W) :
    (fragR Try.f20 8).wpIn (Fence.wide.inRound rd) 0 Try.prog Q { tmps := #[u0, u1, .pointer (some ⟨bd, 0, none⟩), .pointer (some ⟨bq, 0, none⟩), u4, u5, .pointer (some ⟨bn, 0, none⟩), .int .i64 (i : Nat), .pointer (some ⟨b, 0, none⟩), u9, u10, u11, u12, u13, u14, u15, u16, u17, u18, u19, u20, u21, u22, u23, u24, u25, u26, u27, u28, u29, u30, u31, u32, u33, u34, u35, u36, u37, u38, u39, u40, u41, u42, u43, u44, u45, u46, u47, u48, u49, u50, u51, u52, u53, u54, u55, u56, u57, u58, u59, u60, u61, u62, u63, u64, u65, u66, u67, u68, u69, u70, u71, u72, u73, u74, u75, u76, u77, u78, u79, u80, u81, u82, u83, u84, u85, u86, u87, u88, u89, u90, u91, u92, u93, u94, u95, u96, u97, u98, u99, u100, u101, u102, u103, u104, u105, u106, u107, u108, u109, u110, u111, u112, u113], defers := D } w := by
  dsimp only at hK ⊢
  rw [show fragR Try.f20 8 = Code.region _ (List.toArray _) true from rfl]
  have i1 : (0 : Int) ≤ (i : Int) := by omega
  have i2 : (i : Int) < (S.n : Int) := by omega
  have g1 : decide ((S.n : Int) ≤ (i : Int)) = false := decide_eq_false (by omega)
  have g2 : decide (S.n ≤ i) = false := decide_eq_false (by omega)
  have hlast : Hid (S.last (i : Int) = secOf S.lasts i) := hid (by unfold DS.last; rw [if_pos ⟨by omega, i2⟩, Int.toNat_natCast])
  refine wpIn_region_st_round 114 [] [20, 21, 22, 23, 24, 25, 26, 27, 28, 29, 30, 31, 32, 33, 34, 35, 36, 37, 38, 39, 40, 41, 42, 43, 44, 45, 46, 47, 48, 49] (phiOf [QV (.int .i64 (i : Nat)), QV (.int .i64 (i : Nat)), QV (.bool false), QV (.bool false), QV (.int .i64 (i : Nat)), QV (.pointer (some ⟨p, 0, none⟩)), QV (.pointer (some ⟨p, 0, none⟩)), QV (.pointer (some ⟨p, 0, none⟩)), QV (.slice (some ⟨L, 0, none⟩) S.n S.n), QV (.int .i64 (S.n : Nat)), QV (.bool false), QV (.bool false), QV (.bool false), QV (.agg (blkA (secOf S.lasts i))), QV (.pointer (some ⟨p, 0, none⟩)), QV (.pointer (some ⟨p, 0, none⟩)), QV (.pointer (some ⟨p, 0, none⟩)), QV (.slice (some ⟨L, 0, none⟩) S.n S.n), QV (.int .i64 (i : Nat)), QV (.pointer (some ⟨L, i * 128, none⟩)), QV (.agg (blkA (secOf S.lasts i))), QV (.bool false), QV (.bool false), QV (.bool false), QV (.pointer (some ⟨d, 0, none⟩)), QV (.int .i64 (i : Nat)), QV (.agg (blkA (secOf S.lasts i))), QV (.agg (blkA (secOf S.lasts i))), QV (.bool false), QV (.bool false)]) (gOf [fun W => Below w.heap.size w W]) (tOf []) (fun _ => False) (by kernel_rfl) (by kernel_rfl) (by kernel_rfl) (by kernel_rfl) rfl ?r8TT (phi_st ?r8st) (gOf_stays ?r8G) ?r8G0 ?r8g ?r8op ?r8fin
  case r8TT =>
    refine tOf_in ?_
    intro p hp; cases hp
  case r8st => exact ⟨stq _ _ _ _, stq _ _ _ _, stq _ _ _ _, stq _ _ _ _, stq _ _ _ _, stq _ _ _ _, stq _ _ _ _, stq _ _ _ _, stq _ _ _ _, stq _ _ _ _, stq _ _ _ _, stq _ _ _ _, stq _ _ _ _, stq _ _ _ _, stq _ _ _ _, stq _ _ _ _, stq _ _ _ _, stq _ _ _ _, stq _ _ _ _, stq _ _ _ _, stq _ _ _ _, stq _ _ _ _, stq _ _ _ _, stq _ _ _ _, stq _ _ _ _, stq _ _ _ _, stq _ _ _ _, stq _ _ _ _, stq _ _ _ _, stq _ _ _ _, trivial⟩
  case r8G => simp only [List.forall_mem_cons]; exact ⟨fun W W' h hb => below_cat hb h, fun _ h => by cases h⟩
  case r8G0 => exact (Below.refl _ _).drew
  case r8g =>
    refine guards_on [(3, false), (12, false), (23, false)] (by kernel_rfl) ?_
    intro p hp
    simp only [List.mem_cons, List.not_mem_nil, or_false] at hp
    rcases hp with rfl | rfl | rfl <;> (intro v W h; exact .inl h)
  case r8op =>
    refine ⟨fun s a W hlo hhi hG hkT hold hdep hgv => ?_, ?_⟩
    · show OpOk _ _ _ _ _
      have h7 : a.tmps.getD 7 undef = .int .i64 (i : Nat) := (hold 7 (by kernel_rfl)).trans rfl
      unfold OpOk
      simp [execOp, go_sem, eval_tmp, eval_const, eval_func, h7]
      exact ⟨Below.refl _ _, rfl⟩
    refine ⟨fun s a W hlo hhi hG hkT hold hdep hgv => ?_, ?_⟩
    · obtain rfl : s = 0 := Nat.le_zero.1 (Nat.le_trans hhi (Nat.le_of_eq (by kernel_rfl)))
      show OpOk _ _ _ _ _
      replace hG : Below w.heap.size w W := hG
      have h6 : a.tmps.getD 6 undef = .pointer (some ⟨bn, 0, none⟩) := (hold 6 (by kernel_rfl)).trans rfl
      have hc : W.cell? ⟨bn, 0, none⟩ = some (.int .i64 (i : Nat)) := (rbn.out.below hG rbn.out.lt).cell rfl
      unfold OpOk
      simp [execOp, go_sem, eval_tmp, eval_const, eval_func, h6, hc]
      exact ⟨Below.refl _ _, rfl⟩
    refine ⟨fun s a W hlo hhi hG hkT hold hdep hgv => ?_, ?_⟩
    · show OpOk _ _ _ _ _
      have h20 : a.tmps.getD 20 undef = .int .i64 (i : Nat) := hdep 0 20 (by kernel_rfl) rfl
      have h21 : a.tmps.getD 21 undef = .int .i64 (i : Nat) := hdep 1 21 (by kernel_rfl) rfl
      unfold OpOk
      simp [execOp, go_sem, eval_tmp, eval_const, eval_func, h20, h21]
      exact ⟨Below.refl _ _, rfl⟩
    refine ⟨fun s a W hlo hhi hG hkT hold hdep hgv => ?_, ?_⟩
    · show OpOk _ _ _ _ _
      have h22 : a.tmps.getD 22 undef = .bool false := hdep 2 22 (by kernel_rfl) rfl
      unfold OpOk
      simp [execOp, go_sem, eval_tmp, eval_const, eval_func, h22]
      exact ⟨Below.refl _ _, rfl⟩
    refine ⟨fun s a W hlo hhi hG hkT hold hdep hgv => ?_, ?_⟩
    · show OpOk _ _ _ _ _
      have h7 : a.tmps.getD 7 undef = .int .i64 (i : Nat) := (hold 7 (by kernel_rfl)).trans rfl
      unfold OpOk
      simp [execOp, go_sem, eval_tmp, eval_const, eval_func, h7]
      exact ⟨Below.refl _ _, rfl⟩
    refine ⟨fun s a W hlo hhi hG hkT hold hdep hgv => ?_, ?_⟩
    · obtain rfl : s = 0 := Nat.le_zero.1 (Nat.le_trans hhi (Nat.le_of_eq (by kernel_rfl)))
      show OpOk _ _ _ _ _
      replace hG : Below w.heap.size w W := hG
      have h3 : a.tmps.getD 3 undef = .pointer (some ⟨bq, 0, none⟩) := (hold 3 (by kernel_rfl)).trans rfl
      have hc : W.cell? ⟨bq, 0, none⟩ = some (.pointer (some ⟨p, 0, none⟩)) := (rbq.out.below hG rbq.out.lt).cell rfl
      unfold OpOk
      simp [execOp, go_sem, eval_tmp, eval_const, eval_func, h3, hc]
      exact ⟨Below.refl _ _, rfl⟩
    refine ⟨fun s a W hlo hhi hG hkT hold hdep hgv => ?_, ?_⟩
    · show OpOk _ _ _ _ _
      have h25 : a.tmps.getD 25 undef = .pointer (some ⟨p, 0, none⟩) := hdep 5 25 (by kernel_rfl) rfl
      unfold OpOk
      simp [execOp, go_sem, eval_tmp, eval_const, eval_func, h25]
      exact ⟨Below.refl _ _, rfl⟩
    refine ⟨fun s a W hlo hhi hG hkT hold hdep hgv => ?_, ?_⟩
    · show OpOk _ _ _ _ _
      have h26 : a.tmps.getD 26 undef = .pointer (some ⟨p, 0, none⟩) := hdep 6 26 (by kernel_rfl) rfl
      unfold OpOk
      simp [execOp, go_sem, eval_tmp, eval_const, eval_func, h26]
      exact ⟨Below.refl _ _, rfl⟩
    refine ⟨fun s a W hlo hhi hG hkT hold hdep hgv => ?_, ?_⟩
    · obtain rfl : s = 0 := Nat.le_zero.1 (Nat.le_trans hhi (Nat.le_of_eq (by kernel_rfl)))
      show OpOk _ _ _ _ _
      replace hG : Below w.heap.size w W := hG
      have h27 : a.tmps.getD 27 undef = .pointer (some ⟨p, 0, none⟩) := hdep 7 27 (by kernel_rfl) rfl
      have hc : W.cell? ⟨p, 0, none⟩ = some (.slice (some ⟨L, 0, none⟩) S.n S.n) := (rp.out.below hG rp.out.lt).cell rfl
      unfold OpOk
      simp [execOp, go_sem, eval_tmp, eval_const, eval_func, h27, hc]
      exact ⟨Below.refl _ _, rfl⟩
    refine ⟨fun s a W hlo hhi hG hkT hold hdep hgv => ?_, ?_⟩
    · show OpOk _ _ _ _ _
      have h28 : a.tmps.getD 28 undef = .slice (some ⟨L, 0, none⟩) S.n S.n := hdep 8 28 (by kernel_rfl) rfl
      unfold OpOk
      simp [execOp, go_sem, eval_tmp, eval_const, eval_func, h28]
      exact ⟨Below.refl _ _, rfl⟩
    refine ⟨fun s a W hlo hhi hG hkT hold hdep hgv => ?_, ?_⟩
    · show OpOk _ _ _ _ _
      have h24 : a.tmps.getD 24 undef = .int .i64 (i : Nat) := hdep 4 24 (by kernel_rfl) rfl
      have h29 : a.tmps.getD 29 undef = .int .i64 (S.n : Nat) := hdep 9 29 (by kernel_rfl) rfl
      unfold OpOk
      simp [execOp, go_sem, eval_tmp, eval_const, eval_func, h24, h29, g1, g2]
      exact ⟨Below.refl _ _, rfl⟩
    refine ⟨fun s a W hlo hhi hG hkT hold hdep hgv => ?_, ?_⟩
    · show OpOk _ _ _ _ _
      have h23 : a.tmps.getD 23 undef = .bool false := hdep 3 23 (by kernel_rfl) rfl
      have h30 : a.tmps.getD 30 undef = .bool false := hdep 10 30 (by kernel_rfl) rfl
      unfold OpOk
      simp [execOp, go_sem, eval_tmp, eval_const, eval_func, h23, h30]
      exact ⟨Below.refl _ _, rfl⟩
    refine ⟨fun s a W hlo hhi hG hkT hold hdep hgv => ?_, ?_⟩
    · show OpOk _ _ _ _ _
      have h31 : a.tmps.getD 31 undef = .bool false := hdep 11 31 (by kernel_rfl) rfl
      unfold OpOk
      simp [execOp, go_sem, eval_tmp, eval_const, eval_func, h31]
      exact ⟨Below.refl _ _, rfl⟩
    refine ⟨fun s a W hlo hhi hG hkT hold hdep hgv => ?_, ?_⟩
    · obtain rfl : s = 0 := Nat.le_zero.1 (Nat.le_trans hhi (Nat.le_of_eq (by kernel_rfl)))
      show OpOk _ _ _ _ _
      replace hG : Below w.heap.size w W := hG
      have h8 : a.tmps.getD 8 undef = .pointer (some ⟨b, 0, none⟩) := (hold 8 (by kernel_rfl)).trans rfl
      exact opOk_load 32 _ rfl b (by rw [eval_tmp, h8]) 32 (blkA (secOf S.lasts i)) _ (rb.out.below hG rb.out.lt) Try.underlying32 rfl (infoBlkCs _) rfl
    refine ⟨fun s a W hlo hhi hG hkT hold hdep hgv => ?_, ?_⟩
    · obtain rfl : s = 0 := Nat.le_zero.1 (Nat.le_trans hhi (Nat.le_of_eq (by kernel_rfl)))
      show OpOk _ _ _ _ _
      replace hG : Below w.heap.size w W := hG
      have h3 : a.tmps.getD 3 undef = .pointer (some ⟨bq, 0, none⟩) := (hold 3 (by kernel_rfl)).trans rfl
      have hc : W.cell? ⟨bq, 0, none⟩ = some (.pointer (some ⟨p, 0, none⟩)) := (rbq.out.below hG rbq.out.lt).cell rfl
      unfold OpOk
      simp [execOp, go_sem, eval_tmp, eval_const, eval_func, h3, hc]
      exact ⟨Below.refl _ _, rfl⟩
    refine ⟨fun s a W hlo hhi hG hkT hold hdep hgv => ?_, ?_⟩
    · show OpOk _ _ _ _ _
      have h34 : a.tmps.getD 34 undef = .pointer (some ⟨p, 0, none⟩) := hdep 14 34 (by kernel_rfl) rfl
      unfold OpOk
      simp [execOp, go_sem, eval_tmp, eval_const, eval_func, h34]
      exact ⟨Below.refl _ _, rfl⟩
    refine ⟨fun s a W hlo hhi hG hkT hold hdep hgv => ?_, ?_⟩
    · show OpOk _ _ _ _ _
      have h35 : a.tmps.getD 35 undef = .pointer (some ⟨p, 0, none⟩) := hdep 15 35 (by kernel_rfl) rfl
      unfold OpOk
      simp [execOp, go_sem, eval_tmp, eval_const, eval_func, h35]
      exact ⟨Below.refl _ _, rfl⟩
    refine ⟨fun s a W hlo hhi hG hkT hold hdep hgv => ?_, ?_⟩
    · obtain rfl : s = 0 := Nat.le_zero.1 (Nat.le_trans hhi (Nat.le_of_eq (by kernel_rfl)))
      show OpOk _ _ _ _ _
      replace hG : Below w.heap.size w W := hG
      have h36 : a.tmps.getD 36 undef = .pointer (some ⟨p, 0, none⟩) := hdep 16 36 (by kernel_rfl) rfl
      have hc : W.cell? ⟨p, 0, none⟩ = some (.slice (some ⟨L, 0, none⟩) S.n S.n) := (rp.out.below hG rp.out.lt).cell rfl
      unfold OpOk
      simp [execOp, go_sem, eval_tmp, eval_const, eval_func, h36, hc]
      exact ⟨Below.refl _ _, rfl⟩
    refine ⟨fun s a W hlo hhi hG hkT hold hdep hgv => ?_, ?_⟩
    · show OpOk _ _ _ _ _
      have h7 : a.tmps.getD 7 undef = .int .i64 (i : Nat) := (hold 7 (by kernel_rfl)).trans rfl
      unfold OpOk
      simp [execOp, go_sem, eval_tmp, eval_const, eval_func, h7]
      exact ⟨Below.refl _ _, rfl⟩
    refine ⟨fun s a W hlo hhi hG hkT hold hdep hgv => ?_, ?_⟩
    · show OpOk _ _ _ _ _
      have h37 : a.tmps.getD 37 undef = .slice (some ⟨L, 0, none⟩) S.n S.n := hdep 17 37 (by kernel_rfl) rfl
      have h38 : a.tmps.getD 38 undef = .int .i64 (i : Nat) := hdep 18 38 (by kernel_rfl) rfl
      unfold OpOk
      simp [execOp, go_sem, eval_tmp, eval_const, eval_func, h37, h38, i1, i2]
      exact ⟨Below.refl _ _, rfl⟩
    refine ⟨fun s a W hlo hhi hG hkT hold hdep hgv => ?_, ?_⟩
    · obtain rfl : s = 0 := Nat.le_zero.1 (Nat.le_trans hhi (Nat.le_of_eq (by kernel_rfl)))
      show OpOk _ _ _ _ _
      replace hG : Below w.heap.size w W := hG
      have h39 : a.tmps.getD 39 undef = .pointer (some ⟨L, i * 128, none⟩) := hdep 19 39 (by kernel_rfl) rfl
      have hrg := lasts_range (rL.out.below hG rL.out.lt) i hi
      refine opOk_load_mid 32 _ rfl L (i * 128) h39 _ _ hrg Try.underlying32 rfl (by rw [Array.length_toList]; exact infoBlkCs _) ?_
      show _ = _
      rw [Array.toArray_toList]
    refine ⟨fun s a W hlo hhi hG hkT hold hdep hgv => ?_, ?_⟩
    · show OpOk _ _ _ _ _
      have h33 : a.tmps.getD 33 undef = .agg (blkA (secOf S.lasts i)) := hdep 13 33 (by kernel_rfl) rfl
      have h40 : a.tmps.getD 40 undef = .agg (blkA (secOf S.lasts i)) := hdep 20 40 (by kernel_rfl) rfl
      unfold OpOk
      simp [execOp, go_sem, eval_tmp, eval_const, eval_func, h33, h40, blk_neq, blk_guard]
      exact ⟨Below.refl _ _, rfl⟩
    refine ⟨fun s a W hlo hhi hG hkT hold hdep hgv => ?_, ?_⟩
    · show OpOk _ _ _ _ _
      have h32 : a.tmps.getD 32 undef = .bool false := hdep 12 32 (by kernel_rfl) rfl
      have h41 : a.tmps.getD 41 undef = .bool false := hdep 21 41 (by kernel_rfl) rfl
      unfold OpOk
      simp [execOp, go_sem, eval_tmp, eval_const, eval_func, h32, h41]
      exact ⟨Below.refl _ _, rfl⟩
    refine ⟨fun s a W hlo hhi hG hkT hold hdep hgv => ?_, ?_⟩
    · show OpOk _ _ _ _ _
      have h42 : a.tmps.getD 42 undef = .bool false := hdep 22 42 (by kernel_rfl) rfl
      unfold OpOk
      simp [execOp, go_sem, eval_tmp, eval_const, eval_func, h42]
      exact ⟨Below.refl _ _, rfl⟩
    refine ⟨fun s a W hlo hhi hG hkT hold hdep hgv => ?_, ?_⟩
    · obtain rfl : s = 0 := Nat.le_zero.1 (Nat.le_trans hhi (Nat.le_of_eq (by kernel_rfl)))
      show OpOk _ _ _ _ _
      replace hG : Below w.heap.size w W := hG
      have h2 : a.tmps.getD 2 undef = .pointer (some ⟨bd, 0, none⟩) := (hold 2 (by kernel_rfl)).trans rfl
      have hc : W.cell? ⟨bd, 0, none⟩ = some (.pointer (some ⟨d, 0, none⟩)) := (rbd.out.below hG rbd.out.lt).cell rfl
      unfold OpOk
      simp [execOp, go_sem, eval_tmp, eval_const, eval_func, h2, hc]
      exact ⟨Below.refl _ _, rfl⟩
    refine ⟨fun s a W hlo hhi hG hkT hold hdep hgv => ?_, ?_⟩
    · show OpOk _ _ _ _ _
      have h7 : a.tmps.getD 7 undef = .int .i64 (i : Nat) := (hold 7 (by kernel_rfl)).trans rfl
      unfold OpOk
      simp [execOp, go_sem, eval_tmp, eval_const, eval_func, h7]
      exact ⟨Below.refl _ _, rfl⟩
    refine ⟨fun s a W hlo hhi hG hkT hold hdep hgv => ?_, ?_⟩
    · obtain rfl : s = 0 := Nat.le_zero.1 (Nat.le_trans hhi (Nat.le_of_eq (by kernel_rfl)))
      show OpOk _ _ _ _ _
      replace hG : Below w.heap.size w W := hG
      have h44 : a.tmps.getD 44 undef = .pointer (some ⟨d, 0, none⟩) := hdep 24 44 (by kernel_rfl) rfl
      have h45 : a.tmps.getD 45 undef = .int .i64 (i : Nat) := hdep 25 45 (by kernel_rfl) rfl
      unfold OpOk
      simp [execOp, go_sem, eval_tmp, eval_const, eval_func, h44, h45]
      have hc := lasts_any (hp.out.dk.below hG) (i : Int)
      rw [hlast.out] at hc
      refine hc.mono ?_
      rintro e W2 ⟨rfl, hb⟩
      exact ⟨_, rfl, hb, rfl⟩
    refine ⟨fun s a W hlo hhi hG hkT hold hdep hgv => ?_, ?_⟩
    · obtain rfl : s = 0 := Nat.le_zero.1 (Nat.le_trans hhi (Nat.le_of_eq (by kernel_rfl)))
      show OpOk _ _ _ _ _
      replace hG : Below w.heap.size w W := hG
      have h8 : a.tmps.getD 8 undef = .pointer (some ⟨b, 0, none⟩) := (hold 8 (by kernel_rfl)).trans rfl
      exact opOk_load 32 _ rfl b (by rw [eval_tmp, h8]) 32 (blkA (secOf S.lasts i)) _ (rb.out.below hG rb.out.lt) Try.underlying32 rfl (infoBlkCs _) rfl
    refine ⟨fun s a W hlo hhi hG hkT hold hdep hgv => ?_, ?_⟩
    · show OpOk _ _ _ _ _
      have h46 : a.tmps.getD 46 undef = .agg (blkA (secOf S.lasts i)) := hdep 26 46 (by kernel_rfl) rfl
      have h47 : a.tmps.getD 47 undef = .agg (blkA (secOf S.lasts i)) := hdep 27 47 (by kernel_rfl) rfl
      unfold OpOk
      simp [execOp, go_sem, eval_tmp, eval_const, eval_func, h46, h47, blk_neq, blk_guard]
      exact ⟨Below.refl _ _, rfl⟩
    refine ⟨fun s a W hlo hhi hG hkT hold hdep hgv => ?_, ?_⟩
    · show OpOk _ _ _ _ _
      have h43 : a.tmps.getD 43 undef = .bool false := hdep 23 43 (by kernel_rfl) rfl
      have h48 : a.tmps.getD 48 undef = .bool false := hdep 28 48 (by kernel_rfl) rfl
      unfold OpOk
      simp [execOp, go_sem, eval_tmp, eval_const, eval_func, h43, h48]
      exact ⟨Below.refl _ _, rfl⟩
    trivial
  case r8fin =>
    intro X W hG hkT hX
    replace hG : (fun W => Below w.heap.size w W) W := hG
    have e20 : X 20 = .int .i64 (i : Nat) := hX 0 20 (by decide) rfl
    have e21 : X 21 = .int .i64 (i : Nat) := hX 1 21 (by decide) rfl
    have e22 : X 22 = .bool false := hX 2 22 (by decide) rfl
    have e23 : X 23 = .bool false := hX 3 23 (by decide) rfl
    have e24 : X 24 = .int .i64 (i : Nat) := hX 4 24 (by decide) rfl
    have e25 : X 25 = .pointer (some ⟨p, 0, none⟩) := hX 5 25 (by decide) rfl
    have e26 : X 26 = .pointer (some ⟨p, 0, none⟩) := hX 6 26 (by decide) rfl
    have e27 : X 27 = .pointer (some ⟨p, 0, none⟩) := hX 7 27 (by decide) rfl
    have e28 : X 28 = .slice (some ⟨L, 0, none⟩) S.n S.n := hX 8 28 (by decide) rfl
    have e29 : X 29 = .int .i64 (S.n : Nat) := hX 9 29 (by decide) rfl
    have e30 : X 30 = .bool false := hX 10 30 (by decide) rfl
    have e31 : X 31 = .bool false := hX 11 31 (by decide) rfl
    have e32 : X 32 = .bool false := hX 12 32 (by decide) rfl
    have e33 : X 33 = .agg (blkA (secOf S.lasts i)) := hX 13 33 (by decide) rfl
    have e34 : X 34 = .pointer (some ⟨p, 0, none⟩) := hX 14 34 (by decide) rfl
    have e35 : X 35 = .pointer (some ⟨p, 0, none⟩) := hX 15 35 (by decide) rfl
    have e36 : X 36 = .pointer (some ⟨p, 0, none⟩) := hX 16 36 (by decide) rfl
    have e37 : X 37 = .slice (some ⟨L, 0, none⟩) S.n S.n := hX 17 37 (by decide) rfl
    have e38 : X 38 = .int .i64 (i : Nat) := hX 18 38 (by decide) rfl
    have e39 : X 39 = .pointer (some ⟨L, i * 128, none⟩) := hX 19 39 (by decide) rfl
    have e40 : X 40 = .agg (blkA (secOf S.lasts i)) := hX 20 40 (by decide) rfl
    have e41 : X 41 = .bool false := hX 21 41 (by decide) rfl
    have e42 : X 42 = .bool false := hX 22 42 (by decide) rfl
    have e43 : X 43 = .bool false := hX 23 43 (by decide) rfl
    have e44 : X 44 = .pointer (some ⟨d, 0, none⟩) := hX 24 44 (by decide) rfl
    have e45 : X 45 = .int .i64 (i : Nat) := hX 25 45 (by decide) rfl
    have e46 : X 46 = .agg (blkA (secOf S.lasts i)) := hX 26 46 (by decide) rfl
    have e47 : X 47 = .agg (blkA (secOf S.lasts i)) := hX 27 47 (by decide) rfl
    have e48 : X 48 = .bool false := hX 28 48 (by decide) rfl
    have e49 : X 49 = .bool false := hX 29 49 (by decide) rfl
    clear hX
    simp only [List.map_cons, List.map_nil, putAll, List.foldl_cons, List.foldl_nil, List.setIfInBounds_toArray, List.set_cons_zero, List.set_cons_succ, e20, e21, e22, e23, e24, e25, e26, e27, e28, e29, e30, e31, e32, e33, e34, e35, e36, e37, e38, e39, e40, e41, e42, e43, e44, e45, e46, e47, e48, e49]
    clear e20 e21 e22 e23 e24 e25 e26 e27 e28 e29 e30 e31 e32 e33 e34 e35 e36 e37 e38 e39 e40 e41 e42 e43 e44 e45 e46 e47 e48 e49
    exact hK _ _ _ _ _ _ _ _ _ _ _ _ _ _ _ _ _ _ _ _ _ _ _ _ _ _ _ _ _ _ hG

set_option maxRecDepth 1000000 in
set_option maxHeartbeats 4000000 in
theorem same_r15 {F G : Nat → Prop} {d p bd bq bn br L c0 : Nat} {q0 : Option Addr} {S : DS} {D : List Deferred} {w : World} (hp : Hid (Pair w F G d p S)) (hok : Hid S.Ok) (rp : Hid (RowAt w p 50 #[.slice (some ⟨L, 0, none⟩) S.n S.n, .slice q0 S.hangs.length c0, .int .i64 S.steps, .int .i64 S.fuse, .bool S.down])) (rbd : Hid (RowAt w bd 24 #[.pointer (some ⟨d, 0, none⟩)])) (rbq : Hid (RowAt w bq 45 #[.pointer (some ⟨p, 0, none⟩)])) (rbn : Hid (RowAt w bn 3 #[.int .i64 (S.n : Nat)])) (rbr : Hid (RowAt w br 4 #[.bool false])) {Q : Exit → Act → World → Prop} (u0 u1 u5 u7 u8 u9 u10 u11 u12 u13 u14 u15 u16 u17 u18 u19 u20 u21 u22 u23 u24 u25 u26 u27 u28 u29 u30 u31 u32 u33 u34 u35 u36 u37 u38 u39 u40 u41 u42 u43 u44 u45 u46 u47 u48 u49 u50 u51 u52 u53 u54 u55 u56 u57 u58 u59 u60 u61 u62 u63 u64 u65 u66 u67 u68 u69 u70 u71 u72 u73 u74 u75 u76 u77 u78 u79 u80 u81 u82 u83 u84 u85 u86 u87 u88 u89 u90 u91 u92 u93 u94 u95 u96 u97 u98 u99 u100 u101 u102 u103 u104 u105 u106 u107 u108 u109 u110 u111 u112 u113 : Value)
    (hK : ∀ (v72 v73 v74 v75 v76 v77 v78 v79 v80 v81 v82 v83 v84 v85 v86 v87 v88 v89 v90 v91 v92 v93 v94 v95 v96 v97 v98 v99 v100 v101 v102 v103 v104 v105 v106 v107 v108 v109 v110 v111 v112 v113 : Value) (W : World), RowAt W br 4 #[.bool true] → Kept (fun k => k = br) w W → Q .normal { tmps := #[u0, u1, .pointer (some ⟨bd, 0, none⟩), .pointer (some ⟨bq, 0, none⟩), .pointer (some ⟨br, 0, none⟩), u5, .pointer (some ⟨bn, 0, none⟩), u7, u8, u9, u10, u11, u12, u13, u14, u15, u16, u17, u18, u19, u20, u21, u22, u23, u24, u25, u26, u27, u28, u29, u30, u31, u32, u33, u34, u35, u36, u37, u38, u39, u40, u41, u42, u43, u44, u45, u46, u47, u48, u49, u50, u51, u52, u53, u54, u55, u56, u57, u58, u59, u60, u61, u62, u63, u64, u65, u66, u67, u68, u69, u70, u71, v72, v73, v74, v75, v76, v77, v78, v79, v80, v81, v82, v83, v84, v85, v86, v87, v88, v89, v90, v91, v92, v93, v94, v95, v96, v97, v98, v99, v100, v101, v102, v103, v104, v105, v106, v107, v108, v109, v110, v111, v112, v113], defers := D } W) :
    (fragR Try.f20 15).wpIn Fence.wide 0 Try.prog Q { tmps := #[u0, u1, .pointer (some ⟨bd, 0, none⟩), .pointer (some ⟨bq, 0, none⟩), .pointer (some ⟨br, 0, none⟩), u5, .pointer (some ⟨bn, 0, none⟩), u7, u8, u9, u10, u11, u12, u13, u14, u15, u16, u17, u18, u19, u20, u21, u22, u23, u24, u25, u26, u27, u28, u29, u30, u31, u32, u33, u34, u35, u36, u37, u38, u39, u40, u41, u42, u43, u44, u45, u46, u47, u48, u49, u50, u51, u52, u53, u54, u55, u56, u57, u58, u59, u60, u61, u62, u63, u64, u65, u66, u67, u68, u69, u70, u71, u72, u73, u74, u75, u76, u77, u78, u79, u80, u81, u82, u83, u84, u85, u86, u87, u88, u89, u90, u91, u92, u93, u94, u95, u96, u97, u98, u99, u100, u101, u102, u103, u104, u105, u106, u107, u108, u109, u110, u111, u112, u113], defers := D } w := by
  dsimp only at hK ⊢
  rw [show fragR Try.f20 15 = Code.region _ (List.toArray _) true from rfl]
  have hwm : IntKind.i64.wrap (128 * (S.hangs.length : Int)) = ((S.hangs.length * 128 : Nat) : Int) := by rw [IntKind.wrap_i64]; have := hok.out.hn; omega
  refine wpIn_region_st 114 [42] [72, 73, 74, 75, 76, 77, 78, 79, 80, 81, 82, 83, 84, 85, 86, 87, 88, 89, 90, 91, 92, 93, 94, 95, 96, 97, 98, 99, 100, 101, 102, 103, 104, 105, 106, 107, 108, 109, 110, 111, 112, 113] (phiOf [QV (.int .i64 (S.n : Nat)), QV (.pointer (some ⟨p, 0, none⟩)), QV (.pointer (some ⟨p, 0, none⟩)), QV (.pointer (some ⟨p, 0, none⟩)), QV (.slice (some ⟨L, 0, none⟩) S.n S.n), QV (.int .i64 (S.n : Nat)), QV (.bool true), QV (.bool true), QV (.pointer (some ⟨d, 0, none⟩)), QV (.int .i64 (S.n : Nat)), QV (.int .i64 (S.n : Nat)), QV (.bool true), QV (.bool true), QV (.bool true), QV (.pointer (some ⟨d, 0, none⟩)), QV (.bool S.down), QV (.pointer (some ⟨p, 0, none⟩)), QV (.pointer (some ⟨p, 0, none⟩)), QV (.pointer (some ⟨p, 4, none⟩)), QV (.bool S.down), QV (.bool true), QV (.bool true), QV (.bool true), QV (.pointer (some ⟨d, 0, none⟩)), QV (.int .i64 S.steps), QV (.pointer (some ⟨p, 0, none⟩)), QV (.pointer (some ⟨p, 0, none⟩)), QV (.pointer (some ⟨p, 2, none⟩)), QV (.int .i64 S.steps), QV (.bool true), QV (.bool true), QV (.bool true), QV (.pointer (some ⟨d, 0, none⟩)), QV (.int .i64 ((S.hangs.length * 128 : Nat) : Int)), QV (.pointer (some ⟨p, 0, none⟩)), QV (.pointer (some ⟨p, 0, none⟩)), QV (.pointer (some ⟨p, 1, none⟩)), QV (.slice q0 S.hangs.length c0), QV (.int .i64 (S.hangs.length : Nat)), QV (.int .i64 ((S.hangs.length * 128 : Nat) : Int)), QV (.bool true), QV (.bool true), QV (undef)]) (gOf [fun W => Below w.heap.size w W, fun W => RowAt W br 4 #[.bool true]]) (tOf [fun k => k = br]) (fun k => k = br) (by kernel_rfl) (by kernel_rfl) (by kernel_rfl) rfl ?r15TT (phi_st ?r15st) (gOf_stays ?r15G) ?r15G0 ?r15g ?r15op ?r15fin
  case r15TT =>
    refine tOf_in ?_
    simp only [List.forall_mem_cons]; exact ⟨fun b hb => hb, fun _ h => by cases h⟩
  case r15st => exact ⟨stq _ _ _ _, stq _ _ _ _, stq _ _ _ _, stq _ _ _ _, stq _ _ _ _, stq _ _ _ _, stq _ _ _ _, stq _ _ _ _, stq _ _ _ _, stq _ _ _ _, stq _ _ _ _, stq _ _ _ _, stq _ _ _ _, stq _ _ _ _, stq _ _ _ _, stq _ _ _ _, stq _ _ _ _, stq _ _ _ _, stq _ _ _ _, stq _ _ _ _, stq _ _ _ _, stq _ _ _ _, stq _ _ _ _, stq _ _ _ _, stq _ _ _ _, stq _ _ _ _, stq _ _ _ _, stq _ _ _ _, stq _ _ _ _, stq _ _ _ _, stq _ _ _ _, stq _ _ _ _, stq _ _ _ _, stq _ _ _ _, stq _ _ _ _, stq _ _ _ _, stq _ _ _ _, stq _ _ _ _, stq _ _ _ _, stq _ _ _ _, stq _ _ _ _, stq _ _ _ _, stq _ _ _ _, trivial⟩
  case r15G => simp only [List.forall_mem_cons]; exact ⟨fun W W' h hb => below_cat hb h, fun W W' h hb => h.below hb h.lt, fun _ h => by cases h⟩
  case r15G0 => exact (Below.refl _ _).drew
  case r15g =>
    refine guards_on [(7, true), (13, true), (22, true), (31, true)] (by kernel_rfl) ?_
    intro p hp
    simp only [List.mem_cons, List.not_mem_nil, or_false] at hp
    rcases hp with rfl | rfl | rfl | rfl <;> (intro v W h; exact .inl h)
  case r15op =>
    refine ⟨fun s a W hlo hhi hG hkT hold hdep hgv => ?_, ?_⟩
    · obtain rfl : s = 0 := Nat.le_zero.1 (Nat.le_trans hhi (Nat.le_of_eq (by kernel_rfl)))
      show OpOk _ _ _ _ _
      replace hG : Below w.heap.size w W := hG
      have h6 : a.tmps.getD 6 undef = .pointer (some ⟨bn, 0, none⟩) := (hold 6 (by kernel_rfl)).trans rfl
      have hc : W.cell? ⟨bn, 0, none⟩ = some (.int .i64 (S.n : Nat)) := (rbn.out.below hG rbn.out.lt).cell rfl
      unfold OpOk
      simp [execOp, go_sem, eval_tmp, eval_const, eval_func, h6, hc]
      exact ⟨Below.refl _ _, rfl⟩
    refine ⟨fun s a W hlo hhi hG hkT hold hdep hgv => ?_, ?_⟩
    · obtain rfl : s = 0 := Nat.le_zero.1 (Nat.le_trans hhi (Nat.le_of_eq (by kernel_rfl)))
      show OpOk _ _ _ _ _
      replace hG : Below w.heap.size w W := hG
      have h3 : a.tmps.getD 3 undef = .pointer (some ⟨bq, 0, none⟩) := (hold 3 (by kernel_rfl)).trans rfl
      have hc : W.cell? ⟨bq, 0, none⟩ = some (.pointer (some ⟨p, 0, none⟩)) := (rbq.out.below hG rbq.out.lt).cell rfl
      unfold OpOk
      simp [execOp, go_sem, eval_tmp, eval_const, eval_func, h3, hc]
      exact ⟨Below.refl _ _, rfl⟩
    refine ⟨fun s a W hlo hhi hG hkT hold hdep hgv => ?_, ?_⟩
    · show OpOk _ _ _ _ _
      have h73 : a.tmps.getD 73 undef = .pointer (some ⟨p, 0, none⟩) := hdep 1 73 (by kernel_rfl) rfl
      unfold OpOk
      simp [execOp, go_sem, eval_tmp, eval_const, eval_func, h73]
      exact ⟨Below.refl _ _, rfl⟩
    refine ⟨fun s a W hlo hhi hG hkT hold hdep hgv => ?_, ?_⟩
    · show OpOk _ _ _ _ _
      have h74 : a.tmps.getD 74 undef = .pointer (some ⟨p, 0, none⟩) := hdep 2 74 (by kernel_rfl) rfl
      unfold OpOk
      simp [execOp, go_sem, eval_tmp, eval_const, eval_func, h74]
      exact ⟨Below.refl _ _, rfl⟩
    refine ⟨fun s a W hlo hhi hG hkT hold hdep hgv => ?_, ?_⟩
    · obtain rfl : s = 0 := Nat.le_zero.1 (Nat.le_trans hhi (Nat.le_of_eq (by kernel_rfl)))
      show OpOk _ _ _ _ _
      replace hG : Below w.heap.size w W := hG
      have h75 : a.tmps.getD 75 undef = .pointer (some ⟨p, 0, none⟩) := hdep 3 75 (by kernel_rfl) rfl
      have hc : W.cell? ⟨p, 0, none⟩ = some (.slice (some ⟨L, 0, none⟩) S.n S.n) := (rp.out.below hG rp.out.lt).cell rfl
      unfold OpOk
      simp [execOp, go_sem, eval_tmp, eval_const, eval_func, h75, hc]
      exact ⟨Below.refl _ _, rfl⟩
    refine ⟨fun s a W hlo hhi hG hkT hold hdep hgv => ?_, ?_⟩
    · show OpOk _ _ _ _ _
      have h76 : a.tmps.getD 76 undef = .slice (some ⟨L, 0, none⟩) S.n S.n := hdep 4 76 (by kernel_rfl) rfl
      unfold OpOk
      simp [execOp, go_sem, eval_tmp, eval_const, eval_func, h76]
      exact ⟨Below.refl _ _, rfl⟩
    refine ⟨fun s a W hlo hhi hG hkT hold hdep hgv => ?_, ?_⟩
    · show OpOk _ _ _ _ _
      have h72 : a.tmps.getD 72 undef = .int .i64 (S.n : Nat) := hdep 0 72 (by kernel_rfl) rfl
      have h77 : a.tmps.getD 77 undef = .int .i64 (S.n : Nat) := hdep 5 77 (by kernel_rfl) rfl
      unfold OpOk
      simp [execOp, go_sem, eval_tmp, eval_const, eval_func, h72, h77]
      exact ⟨Below.refl _ _, rfl⟩
    refine ⟨fun s a W hlo hhi hG hkT hold hdep hgv => ?_, ?_⟩
    · show OpOk _ _ _ _ _
      have h78 : a.tmps.getD 78 undef = .bool true := hdep 6 78 (by kernel_rfl) rfl
      unfold OpOk
      simp [execOp, go_sem, eval_tmp, eval_const, eval_func, h78]
      exact ⟨Below.refl _ _, rfl⟩
    refine ⟨fun s a W hlo hhi hG hkT hold hdep hgv => ?_, ?_⟩
    · obtain rfl : s = 0 := Nat.le_zero.1 (Nat.le_trans hhi (Nat.le_of_eq (by kernel_rfl)))
      show OpOk _ _ _ _ _
      replace hG : Below w.heap.size w W := hG
      have h2 : a.tmps.getD 2 undef = .pointer (some ⟨bd, 0, none⟩) := (hold 2 (by kernel_rfl)).trans rfl
      have hc : W.cell? ⟨bd, 0, none⟩ = some (.pointer (some ⟨d, 0, none⟩)) := (rbd.out.below hG rbd.out.lt).cell rfl
      unfold OpOk
      simp [execOp, go_sem, eval_tmp, eval_const, eval_func, h2, hc]
      exact ⟨Below.refl _ _, rfl⟩
    refine ⟨fun s a W hlo hhi hG hkT hold hdep hgv => ?_, ?_⟩
    · obtain rfl : s = 0 := Nat.le_zero.1 (Nat.le_trans hhi (Nat.le_of_eq (by kernel_rfl)))
      show OpOk _ _ _ _ _
      replace hG : Below w.heap.size w W := hG
      have h80 : a.tmps.getD 80 undef = .pointer (some ⟨d, 0, none⟩) := hdep 8 80 (by kernel_rfl) rfl
      unfold OpOk
      simp [execOp, go_sem, eval_tmp, eval_const, eval_func, h80]
      refine (sectors_any (hp.out.dk.below hG)).mono ?_
      rintro e W2 ⟨rfl, rfl⟩
      exact ⟨_, rfl, Below.refl _ _, rfl⟩
    refine ⟨fun s a W hlo hhi hG hkT hold hdep hgv => ?_, ?_⟩
    · obtain rfl : s = 0 := Nat.le_zero.1 (Nat.le_trans hhi (Nat.le_of_eq (by kernel_rfl)))
      show OpOk _ _ _ _ _
      replace hG : Below w.heap.size w W := hG
      have h6 : a.tmps.getD 6 undef = .pointer (some ⟨bn, 0, none⟩) := (hold 6 (by kernel_rfl)).trans rfl
      have hc : W.cell? ⟨bn, 0, none⟩ = some (.int .i64 (S.n : Nat)) := (rbn.out.below hG rbn.out.lt).cell rfl
      unfold OpOk
      simp [execOp, go_sem, eval_tmp, eval_const, eval_func, h6, hc]
      exact ⟨Below.refl _ _, rfl⟩
    refine ⟨fun s a W hlo hhi hG hkT hold hdep hgv => ?_, ?_⟩
    · show OpOk _ _ _ _ _
      have h81 : a.tmps.getD 81 undef = .int .i64 (S.n : Nat) := hdep 9 81 (by kernel_rfl) rfl
      have h82 : a.tmps.getD 82 undef = .int .i64 (S.n : Nat) := hdep 10 82 (by kernel_rfl) rfl
      unfold OpOk
      simp [execOp, go_sem, eval_tmp, eval_const, eval_func, h81, h82]
      exact ⟨Below.refl _ _, rfl⟩
    refine ⟨fun s a W hlo hhi hG hkT hold hdep hgv => ?_, ?_⟩
    · show OpOk _ _ _ _ _
      have h79 : a.tmps.getD 79 undef = .bool true := hdep 7 79 (by kernel_rfl) rfl
      have h83 : a.tmps.getD 83 undef = .bool true := hdep 11 83 (by kernel_rfl) rfl
      unfold OpOk
      simp [execOp, go_sem, eval_tmp, eval_const, eval_func, h79, h83]
      exact ⟨Below.refl _ _, rfl⟩
    refine ⟨fun s a W hlo hhi hG hkT hold hdep hgv => ?_, ?_⟩
    · show OpOk _ _ _ _ _
      have h84 : a.tmps.getD 84 undef = .bool true := hdep 12 84 (by kernel_rfl) rfl
      unfold OpOk
      simp [execOp, go_sem, eval_tmp, eval_const, eval_func, h84]
      exact ⟨Below.refl _ _, rfl⟩
    refine ⟨fun s a W hlo hhi hG hkT hold hdep hgv => ?_, ?_⟩
    · obtain rfl : s = 0 := Nat.le_zero.1 (Nat.le_trans hhi (Nat.le_of_eq (by kernel_rfl)))
      show OpOk _ _ _ _ _
      replace hG : Below w.heap.size w W := hG
      have h2 : a.tmps.getD 2 undef = .pointer (some ⟨bd, 0, none⟩) := (hold 2 (by kernel_rfl)).trans rfl
      have hc : W.cell? ⟨bd, 0, none⟩ = some (.pointer (some ⟨d, 0, none⟩)) := (rbd.out.below hG rbd.out.lt).cell rfl
      unfold OpOk
      simp [execOp, go_sem, eval_tmp, eval_const, eval_func, h2, hc]
      exact ⟨Below.refl _ _, rfl⟩
    refine ⟨fun s a W hlo hhi hG hkT hold hdep hgv => ?_, ?_⟩
    · obtain rfl : s = 0 := Nat.le_zero.1 (Nat.le_trans hhi (Nat.le_of_eq (by kernel_rfl)))
      show OpOk _ _ _ _ _
      replace hG : Below w.heap.size w W := hG
      have h86 : a.tmps.getD 86 undef = .pointer (some ⟨d, 0, none⟩) := hdep 14 86 (by kernel_rfl) rfl
      unfold OpOk
      simp [execOp, go_sem, eval_tmp, eval_const, eval_func, h86]
      refine (down_any (hp.out.dk.below hG)).mono ?_
      rintro e W2 ⟨rfl, rfl⟩
      exact ⟨_, rfl, Below.refl _ _, rfl⟩
    refine ⟨fun s a W hlo hhi hG hkT hold hdep hgv => ?_, ?_⟩
    · obtain rfl : s = 0 := Nat.le_zero.1 (Nat.le_trans hhi (Nat.le_of_eq (by kernel_rfl)))
      show OpOk _ _ _ _ _
      replace hG : Below w.heap.size w W := hG
      have h3 : a.tmps.getD 3 undef = .pointer (some ⟨bq, 0, none⟩) := (hold 3 (by kernel_rfl)).trans rfl
      have hc : W.cell? ⟨bq, 0, none⟩ = some (.pointer (some ⟨p, 0, none⟩)) := (rbq.out.below hG rbq.out.lt).cell rfl
      unfold OpOk
      simp [execOp, go_sem, eval_tmp, eval_const, eval_func, h3, hc]
      exact ⟨Below.refl _ _, rfl⟩
    refine ⟨fun s a W hlo hhi hG hkT hold hdep hgv => ?_, ?_⟩
    · show OpOk _ _ _ _ _
      have h88 : a.tmps.getD 88 undef = .pointer (some ⟨p, 0, none⟩) := hdep 16 88 (by kernel_rfl) rfl
      unfold OpOk
      simp [execOp, go_sem, eval_tmp, eval_const, eval_func, h88]
      exact ⟨Below.refl _ _, rfl⟩
    refine ⟨fun s a W hlo hhi hG hkT hold hdep hgv => ?_, ?_⟩
    · show OpOk _ _ _ _ _
      have h89 : a.tmps.getD 89 undef = .pointer (some ⟨p, 0, none⟩) := hdep 17 89 (by kernel_rfl) rfl
      unfold OpOk
      simp [execOp, go_sem, eval_tmp, eval_const, eval_func, h89]
      exact ⟨Below.refl _ _, rfl⟩
    refine ⟨fun s a W hlo hhi hG hkT hold hdep hgv => ?_, ?_⟩
    · obtain rfl : s = 0 := Nat.le_zero.1 (Nat.le_trans hhi (Nat.le_of_eq (by kernel_rfl)))
      show OpOk _ _ _ _ _
      replace hG : Below w.heap.size w W := hG
      have h90 : a.tmps.getD 90 undef = .pointer (some ⟨p, 4, none⟩) := hdep 18 90 (by kernel_rfl) rfl
      have hc : W.cell? ⟨p, 4, none⟩ = some (.bool S.down) := (rp.out.below hG rp.out.lt).cell rfl
      unfold OpOk
      simp [execOp, go_sem, eval_tmp, eval_const, eval_func, h90, hc]
      exact ⟨Below.refl _ _, rfl⟩
    refine ⟨fun s a W hlo hhi hG hkT hold hdep hgv => ?_, ?_⟩
    · show OpOk _ _ _ _ _
      have h87 : a.tmps.getD 87 undef = .bool S.down := hdep 15 87 (by kernel_rfl) rfl
      have h91 : a.tmps.getD 91 undef = .bool S.down := hdep 19 91 (by kernel_rfl) rfl
      unfold OpOk
      simp [execOp, go_sem, eval_tmp, eval_const, eval_func, h87, h91]
      exact ⟨Below.refl _ _, rfl⟩
    refine ⟨fun s a W hlo hhi hG hkT hold hdep hgv => ?_, ?_⟩
    · show OpOk _ _ _ _ _
      have h85 : a.tmps.getD 85 undef = .bool true := hdep 13 85 (by kernel_rfl) rfl
      have h92 : a.tmps.getD 92 undef = .bool true := hdep 20 92 (by kernel_rfl) rfl
      unfold OpOk
      simp [execOp, go_sem, eval_tmp, eval_const, eval_func, h85, h92]
      exact ⟨Below.refl _ _, rfl⟩
    refine ⟨fun s a W hlo hhi hG hkT hold hdep hgv => ?_, ?_⟩
    · show OpOk _ _ _ _ _
      have h93 : a.tmps.getD 93 undef = .bool true := hdep 21 93 (by kernel_rfl) rfl
      unfold OpOk
      simp [execOp, go_sem, eval_tmp, eval_const, eval_func, h93]
      exact ⟨Below.refl _ _, rfl⟩
    refine ⟨fun s a W hlo hhi hG hkT hold hdep hgv => ?_, ?_⟩
    · obtain rfl : s = 0 := Nat.le_zero.1 (Nat.le_trans hhi (Nat.le_of_eq (by kernel_rfl)))
      show OpOk _ _ _ _ _
      replace hG : Below w.heap.size w W := hG
      have h2 : a.tmps.getD 2 undef = .pointer (some ⟨bd, 0, none⟩) := (hold 2 (by kernel_rfl)).trans rfl
      have hc : W.cell? ⟨bd, 0, none⟩ = some (.pointer (some ⟨d, 0, none⟩)) := (rbd.out.below hG rbd.out.lt).cell rfl
      unfold OpOk
      simp [execOp, go_sem, eval_tmp, eval_const, eval_func, h2, hc]
      exact ⟨Below.refl _ _, rfl⟩
    refine ⟨fun s a W hlo hhi hG hkT hold hdep hgv => ?_, ?_⟩
    · obtain rfl : s = 0 := Nat.le_zero.1 (Nat.le_trans hhi (Nat.le_of_eq (by kernel_rfl)))
      show OpOk _ _ _ _ _
      replace hG : Below w.heap.size w W := hG
      have h95 : a.tmps.getD 95 undef = .pointer (some ⟨d, 0, none⟩) := hdep 23 95 (by kernel_rfl) rfl
      unfold OpOk
      simp [execOp, go_sem, eval_tmp, eval_const, eval_func, h95]
      refine (steps_any (hp.out.dk.below hG)).mono ?_
      rintro e W2 ⟨rfl, rfl⟩
      exact ⟨_, rfl, Below.refl _ _, rfl⟩
    refine ⟨fun s a W hlo hhi hG hkT hold hdep hgv => ?_, ?_⟩
    · obtain rfl : s = 0 := Nat.le_zero.1 (Nat.le_trans hhi (Nat.le_of_eq (by kernel_rfl)))
      show OpOk _ _ _ _ _
      replace hG : Below w.heap.size w W := hG
      have h3 : a.tmps.getD 3 undef = .pointer (some ⟨bq, 0, none⟩) := (hold 3 (by kernel_rfl)).trans rfl
      have hc : W.cell? ⟨bq, 0, none⟩ = some (.pointer (some ⟨p, 0, none⟩)) := (rbq.out.below hG rbq.out.lt).cell rfl
      unfold OpOk
      simp [execOp, go_sem, eval_tmp, eval_const, eval_func, h3, hc]
      exact ⟨Below.refl _ _, rfl⟩
    refine ⟨fun s a W hlo hhi hG hkT hold hdep hgv => ?_, ?_⟩
    · show OpOk _ _ _ _ _
      have h97 : a.tmps.getD 97 undef = .pointer (some ⟨p, 0, none⟩) := hdep 25 97 (by kernel_rfl) rfl
      unfold OpOk
      simp [execOp, go_sem, eval_tmp, eval_const, eval_func, h97]
      exact ⟨Below.refl _ _, rfl⟩
    refine ⟨fun s a W hlo hhi hG hkT hold hdep hgv => ?_, ?_⟩
    · show OpOk _ _ _ _ _
      have h98 : a.tmps.getD 98 undef = .pointer (some ⟨p, 0, none⟩) := hdep 26 98 (by kernel_rfl) rfl
      unfold OpOk
      simp [execOp, go_sem, eval_tmp, eval_const, eval_func, h98]
      exact ⟨Below.refl _ _, rfl⟩
    refine ⟨fun s a W hlo hhi hG hkT hold hdep hgv => ?_, ?_⟩
    · obtain rfl : s = 0 := Nat.le_zero.1 (Nat.le_trans hhi (Nat.le_of_eq (by kernel_rfl)))
      show OpOk _ _ _ _ _
      replace hG : Below w.heap.size w W := hG
      have h99 : a.tmps.getD 99 undef = .pointer (some ⟨p, 2, none⟩) := hdep 27 99 (by kernel_rfl) rfl
      have hc : W.cell? ⟨p, 2, none⟩ = some (.int .i64 S.steps) := (rp.out.below hG rp.out.lt).cell rfl
      unfold OpOk
      simp [execOp, go_sem, eval_tmp, eval_const, eval_func, h99, hc]
      exact ⟨Below.refl _ _, rfl⟩
    refine ⟨fun s a W hlo hhi hG hkT hold hdep hgv => ?_, ?_⟩
    · show OpOk _ _ _ _ _
      have h96 : a.tmps.getD 96 undef = .int .i64 S.steps := hdep 24 96 (by kernel_rfl) rfl
      have h100 : a.tmps.getD 100 undef = .int .i64 S.steps := hdep 28 100 (by kernel_rfl) rfl
      unfold OpOk
      simp [execOp, go_sem, eval_tmp, eval_const, eval_func, h96, h100]
      exact ⟨Below.refl _ _, rfl⟩
    refine ⟨fun s a W hlo hhi hG hkT hold hdep hgv => ?_, ?_⟩
    · show OpOk _ _ _ _ _
      have h94 : a.tmps.getD 94 undef = .bool true := hdep 22 94 (by kernel_rfl) rfl
      have h101 : a.tmps.getD 101 undef = .bool true := hdep 29 101 (by kernel_rfl) rfl
      unfold OpOk
      simp [execOp, go_sem, eval_tmp, eval_const, eval_func, h94, h101]
      exact ⟨Below.refl _ _, rfl⟩
    refine ⟨fun s a W hlo hhi hG hkT hold hdep hgv => ?_, ?_⟩
    · show OpOk _ _ _ _ _
      have h102 : a.tmps.getD 102 undef = .bool true := hdep 30 102 (by kernel_rfl) rfl
      unfold OpOk
      simp [execOp, go_sem, eval_tmp, eval_const, eval_func, h102]
      exact ⟨Below.refl _ _, rfl⟩
    refine ⟨fun s a W hlo hhi hG hkT hold hdep hgv => ?_, ?_⟩
    · obtain rfl : s = 0 := Nat.le_zero.1 (Nat.le_trans hhi (Nat.le_of_eq (by kernel_rfl)))
      show OpOk _ _ _ _ _
      replace hG : Below w.heap.size w W := hG
      have h2 : a.tmps.getD 2 undef = .pointer (some ⟨bd, 0, none⟩) := (hold 2 (by kernel_rfl)).trans rfl
      have hc : W.cell? ⟨bd, 0, none⟩ = some (.pointer (some ⟨d, 0, none⟩)) := (rbd.out.below hG rbd.out.lt).cell rfl
      unfold OpOk
      simp [execOp, go_sem, eval_tmp, eval_const, eval_func, h2, hc]
      exact ⟨Below.refl _ _, rfl⟩
    refine ⟨fun s a W hlo hhi hG hkT hold hdep hgv => ?_, ?_⟩
    · obtain rfl : s = 0 := Nat.le_zero.1 (Nat.le_trans hhi (Nat.le_of_eq (by kernel_rfl)))
      show OpOk _ _ _ _ _
      replace hG : Below w.heap.size w W := hG
      have h104 : a.tmps.getD 104 undef = .pointer (some ⟨d, 0, none⟩) := hdep 32 104 (by kernel_rfl) rfl
      unfold OpOk
      simp [execOp, go_sem, eval_tmp, eval_const, eval_func, h104]
      refine (hangs_any (hp.out.dk.below hG) hok.out).mono ?_
      rintro e W2 ⟨rfl, rfl⟩
      exact ⟨_, rfl, Below.refl _ _, rfl⟩
    refine ⟨fun s a W hlo hhi hG hkT hold hdep hgv => ?_, ?_⟩
    · obtain rfl : s = 0 := Nat.le_zero.1 (Nat.le_trans hhi (Nat.le_of_eq (by kernel_rfl)))
      show OpOk _ _ _ _ _
      replace hG : Below w.heap.size w W := hG
      have h3 : a.tmps.getD 3 undef = .pointer (some ⟨bq, 0, none⟩) := (hold 3 (by kernel_rfl)).trans rfl
      have hc : W.cell? ⟨bq, 0, none⟩ = some (.pointer (some ⟨p, 0, none⟩)) := (rbq.out.below hG rbq.out.lt).cell rfl
      unfold OpOk
      simp [execOp, go_sem, eval_tmp, eval_const, eval_func, h3, hc]
      exact ⟨Below.refl _ _, rfl⟩
    refine ⟨fun s a W hlo hhi hG hkT hold hdep hgv => ?_, ?_⟩
    · show OpOk _ _ _ _ _
      have h106 : a.tmps.getD 106 undef = .pointer (some ⟨p, 0, none⟩) := hdep 34 106 (by kernel_rfl) rfl
      unfold OpOk
      simp [execOp, go_sem, eval_tmp, eval_const, eval_func, h106]
      exact ⟨Below.refl _ _, rfl⟩
    refine ⟨fun s a W hlo hhi hG hkT hold hdep hgv => ?_, ?_⟩
    · show OpOk _ _ _ _ _
      have h107 : a.tmps.getD 107 undef = .pointer (some ⟨p, 0, none⟩) := hdep 35 107 (by kernel_rfl) rfl
      unfold OpOk
      simp [execOp, go_sem, eval_tmp, eval_const, eval_func, h107]
      exact ⟨Below.refl _ _, rfl⟩
    refine ⟨fun s a W hlo hhi hG hkT hold hdep hgv => ?_, ?_⟩
    · obtain rfl : s = 0 := Nat.le_zero.1 (Nat.le_trans hhi (Nat.le_of_eq (by kernel_rfl)))
      show OpOk _ _ _ _ _
      replace hG : Below w.heap.size w W := hG
      have h108 : a.tmps.getD 108 undef = .pointer (some ⟨p, 1, none⟩) := hdep 36 108 (by kernel_rfl) rfl
      have hc : W.cell? ⟨p, 1, none⟩ = some (.slice q0 S.hangs.length c0) := (rp.out.below hG rp.out.lt).cell rfl
      unfold OpOk
      simp [execOp, go_sem, eval_tmp, eval_const, eval_func, h108, hc]
      exact ⟨Below.refl _ _, rfl⟩
    refine ⟨fun s a W hlo hhi hG hkT hold hdep hgv => ?_, ?_⟩
    · show OpOk _ _ _ _ _
      have h109 : a.tmps.getD 109 undef = .slice q0 S.hangs.length c0 := hdep 37 109 (by kernel_rfl) rfl
      unfold OpOk
      simp [execOp, go_sem, eval_tmp, eval_const, eval_func, h109]
      exact ⟨Below.refl _ _, rfl⟩
    refine ⟨fun s a W hlo hhi hG hkT hold hdep hgv => ?_, ?_⟩
    · show OpOk _ _ _ _ _
      have h110 : a.tmps.getD 110 undef = .int .i64 (S.hangs.length : Nat) := hdep 38 110 (by kernel_rfl) rfl
      unfold OpOk
      simp [execOp, go_sem, eval_tmp, eval_const, eval_func, h110, hwm]
      exact ⟨Below.refl _ _, rfl⟩
    refine ⟨fun s a W hlo hhi hG hkT hold hdep hgv => ?_, ?_⟩
    · show OpOk _ _ _ _ _
      have h105 : a.tmps.getD 105 undef = .int .i64 ((S.hangs.length * 128 : Nat) : Int) := hdep 33 105 (by kernel_rfl) rfl
      have h111 : a.tmps.getD 111 undef = .int .i64 ((S.hangs.length * 128 : Nat) : Int) := hdep 39 111 (by kernel_rfl) rfl
      unfold OpOk
      simp [execOp, go_sem, eval_tmp, eval_const, eval_func, h105, h111]
      exact ⟨Below.refl _ _, rfl⟩
    refine ⟨fun s a W hlo hhi hG hkT hold hdep hgv => ?_, ?_⟩
    · show OpOk _ _ _ _ _
      have h103 : a.tmps.getD 103 undef = .bool true := hdep 31 103 (by kernel_rfl) rfl
      have h112 : a.tmps.getD 112 undef = .bool true := hdep 40 112 (by kernel_rfl) rfl
      unfold OpOk
      simp [execOp, go_sem, eval_tmp, eval_const, eval_func, h103, h112]
      exact ⟨Below.refl _ _, rfl⟩
    refine ⟨fun s a W hlo hhi hG hkT hold hdep hgv => ?_, ?_⟩
    · obtain rfl : s = 0 := Nat.le_antisymm (Nat.le_trans hhi (Nat.le_of_eq (by kernel_rfl))) (Nat.le_trans (Nat.le_of_eq (by kernel_rfl)) hlo)
      show OpR _ _ _ _ _
      replace hG : (fun W => Below w.heap.size w W) W := hG
      have h4 : a.tmps.getD 4 undef = .pointer (some ⟨br, 0, none⟩) := (hold 4 (by kernel_rfl)).trans rfl
      have h113 : a.tmps.getD 113 undef = .bool true := hdep 41 113 (by kernel_rfl) rfl
      have rW := rbr.out.below hG rbr.out.lt
      refine opR_store 4 (.tmp 4) (.tmp 113) rfl br 0 _ h4 h113 rfl infoBool (by rw [rW.cell (j := 0) rfl]; rfl) (rW.free 0) ?_
      exact ⟨(Kept.refl (· = br) _).setCell ⟨br, 0, none⟩ (.inl rfl) _, (rW.set 0 (.bool true)).eqA (by simp), rfl⟩
    trivial
  case r15fin =>
    intro X W hG hkT hX
    replace hG : (fun W => RowAt W br 4 #[.bool true]) W := hG
    have e72 : X 72 = .int .i64 (S.n : Nat) := hX 0 72 (by decide) rfl
    have e73 : X 73 = .pointer (some ⟨p, 0, none⟩) := hX 1 73 (by decide) rfl
    have e74 : X 74 = .pointer (some ⟨p, 0, none⟩) := hX 2 74 (by decide) rfl
    have e75 : X 75 = .pointer (some ⟨p, 0, none⟩) := hX 3 75 (by decide) rfl
    have e76 : X 76 = .slice (some ⟨L, 0, none⟩) S.n S.n := hX 4 76 (by decide) rfl
    have e77 : X 77 = .int .i64 (S.n : Nat) := hX 5 77 (by decide) rfl
    have e78 : X 78 = .bool true := hX 6 78 (by decide) rfl
    have e79 : X 79 = .bool true := hX 7 79 (by decide) rfl
    have e80 : X 80 = .pointer (some ⟨d, 0, none⟩) := hX 8 80 (by decide) rfl
    have e81 : X 81 = .int .i64 (S.n : Nat) := hX 9 81 (by decide) rfl
    have e82 : X 82 = .int .i64 (S.n : Nat) := hX 10 82 (by decide) rfl
    have e83 : X 83 = .bool true := hX 11 83 (by decide) rfl
    have e84 : X 84 = .bool true := hX 12 84 (by decide) rfl
    have e85 : X 85 = .bool true := hX 13 85 (by decide) rfl
    have e86 : X 86 = .pointer (some ⟨d, 0, none⟩) := hX 14 86 (by decide) rfl
    have e87 : X 87 = .bool S.down := hX 15 87 (by decide) rfl
    have e88 : X 88 = .pointer (some ⟨p, 0, none⟩) := hX 16 88 (by decide) rfl
    have e89 : X 89 = .pointer (some ⟨p, 0, none⟩) := hX 17 89 (by decide) rfl
    have e90 : X 90 = .pointer (some ⟨p, 4, none⟩) := hX 18 90 (by decide) rfl
    have e91 : X 91 = .bool S.down := hX 19 91 (by decide) rfl
    have e92 : X 92 = .bool true := hX 20 92 (by decide) rfl
    have e93 : X 93 = .bool true := hX 21 93 (by decide) rfl
    have e94 : X 94 = .bool true := hX 22 94 (by decide) rfl
    have e95 : X 95 = .pointer (some ⟨d, 0, none⟩) := hX 23 95 (by decide) rfl
    have e96 : X 96 = .int .i64 S.steps := hX 24 96 (by decide) rfl
    have e97 : X 97 = .pointer (some ⟨p, 0, none⟩) := hX 25 97 (by decide) rfl
    have e98 : X 98 = .pointer (some ⟨p, 0, none⟩) := hX 26 98 (by decide) rfl
    have e99 : X 99 = .pointer (some ⟨p, 2, none⟩) := hX 27 99 (by decide) rfl
    have e100 : X 100 = .int .i64 S.steps := hX 28 100 (by decide) rfl
    have e101 : X 101 = .bool true := hX 29 101 (by decide) rfl
    have e102 : X 102 = .bool true := hX 30 102 (by decide) rfl
    have e103 : X 103 = .bool true := hX 31 103 (by decide) rfl
    have e104 : X 104 = .pointer (some ⟨d, 0, none⟩) := hX 32 104 (by decide) rfl
    have e105 : X 105 = .int .i64 ((S.hangs.length * 128 : Nat) : Int) := hX 33 105 (by decide) rfl
    have e106 : X 106 = .pointer (some ⟨p, 0, none⟩) := hX 34 106 (by decide) rfl
    have e107 : X 107 = .pointer (some ⟨p, 0, none⟩) := hX 35 107 (by decide) rfl
    have e108 : X 108 = .pointer (some ⟨p, 1, none⟩) := hX 36 108 (by decide) rfl
    have e109 : X 109 = .slice q0 S.hangs.length c0 := hX 37 109 (by decide) rfl
    have e110 : X 110 = .int .i64 (S.hangs.length : Nat) := hX 38 110 (by decide) rfl
    have e111 : X 111 = .int .i64 ((S.hangs.length * 128 : Nat) : Int) := hX 39 111 (by decide) rfl
    have e112 : X 112 = .bool true := hX 40 112 (by decide) rfl
    have e113 : X 113 = .bool true := hX 41 113 (by decide) rfl
    clear hX
    simp only [List.map_cons, List.map_nil, putAll, List.foldl_cons, List.foldl_nil, List.setIfInBounds_toArray, List.set_cons_zero, List.set_cons_succ, e72, e73, e74, e75, e76, e77, e78, e79, e80, e81, e82, e83, e84, e85, e86, e87, e88, e89, e90, e91, e92, e93, e94, e95, e96, e97, e98, e99, e100, e101, e102, e103, e104, e105, e106, e107, e108, e109, e110, e111, e112, e113]
    clear e72 e73 e74 e75 e76 e77 e78 e79 e80 e81 e82 e83 e84 e85 e86 e87 e88 e89 e90 e91 e92 e93 e94 e95 e96 e97 e98 e99 e100 e101 e102 e103 e104 e105 e106 e107 e108 e109 e110 e111 e112 e113
    exact hK _ _ _ _ _ _ _ _ _ _ _ _ _ _ _ _ _ _ _ _ _ _ _ _ _ _ _ _ _ _ _ _ _ _ _ _ _ _ _ _ _ _ _ hG hkT

end Go.Proofs.Ytaofpeajfgcjcaa