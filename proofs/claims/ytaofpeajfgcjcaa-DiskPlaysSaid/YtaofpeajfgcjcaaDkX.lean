/- Disk: the regions of DiskKeeps that draw their order. Printed by wip/tools/mkDkX.py. -/
import Derived.Test.YtaofpeajfgcjcaaDkW
namespace Go.Proofs.Ytaofpeajfgcjcaa
open Go Go.RowKit Go.Maps
set_option linter.unusedSimpArgs false
set_option linter.unusedVariables false

set_option maxRecDepth 1000000 in
set_option maxHeartbeats 4000000 in
theorem keeps_r9 {F : Nat → Prop} {d b : Nat} {S : DS} {q : ActT} {D : List Deferred} {w : World} (hdk : Hid (Dk w F d S)) (hok : Hid S.Ok) (rb : Hid (RowAt w b 29 #[.int .i64 q.1, .int .i64 q.2.1, .int .u8 (q.2.2.toNat : Nat)])) {Q : Exit → Act → World → Prop} (u0 u1 u2 u3 u4 u5 u6 u8 u9 u11 u12 u13 u14 u15 u16 u17 u18 u19 u20 u21 u22 u23 u24 u25 u26 u27 u28 u29 u30 u31 u32 u33 u34 u35 u36 u37 u38 u39 u40 u41 u42 u43 u44 u45 u46 u47 u48 u49 u50 u51 u52 u53 u54 u55 u56 u57 u58 u59 u60 u61 u62 u63 u64 u65 u66 u67 u68 u69 u70 u71 u72 u73 u74 u75 u76 u77 u78 u79 u80 u81 u82 u83 u84 u85 u86 u87 u88 u89 u90 u91 u92 u93 u94 u95 u96 u97 u98 u99 u100 u101 u102 u103 u104 u105 u106 u107 u108 u109 u110 u111 u112 u113 u114 u115 u116 u117 u118 u119 u120 u121 u122 u123 u124 u125 u126 u127 u128 u129 u130 u131 u132 u133 u134 : Value)
    (hK : ∀ (v43 v44 v45 v46 v47 v48 v49 : Value) (W : World), (fun W => ∃ F', Dk W F' d (S.write q.2.1 (fillB q.2.2)).2 ∧ ∀ k, F' k → F k ∨ w.heap.size ≤ k) W → Kept F w W → Q .normal { tmps := #[u0, u1, u2, u3, u4, u5, u6, .pointer (some ⟨d, 0, none⟩), u8, u9, .pointer (some ⟨b, 0, none⟩), u11, u12, u13, u14, u15, u16, u17, u18, u19, u20, u21, u22, u23, u24, u25, u26, u27, u28, u29, u30, u31, u32, u33, u34, u35, u36, u37, u38, u39, u40, u41, u42, v43, v44, v45, v46, v47, v48, v49, u50, u51, u52, u53, u54, u55, u56, u57, u58, u59, u60, u61, u62, u63, u64, u65, u66, u67, u68, u69, u70, u71, u72, u73, u74, u75, u76, u77, u78, u79, u80, u81, u82, u83, u84, u85, u86, u87, u88, u89, u90, u91, u92, u93, u94, u95, u96, u97, u98, u99, u100, u101, u102, u103, u104, u105, u106, u107, u108, u109, u110, u111, u112, u113, u114, u115, u116, u117, u118, u119, u120, u121, u122, u123, u124, u125, u126, u127, u128, u129, u130, u131, u132, u133, u134], defers := D } W) :
    (fragR Try.f4 9).wpIn Fence.wide 0 Try.prog Q { tmps := #[u0, u1, u2, u3, u4, u5, u6, .pointer (some ⟨d, 0, none⟩), u8, u9, .pointer (some ⟨b, 0, none⟩), u11, u12, u13, u14, u15, u16, u17, u18, u19, u20, u21, u22, u23, u24, u25, u26, u27, u28, u29, u30, u31, u32, u33, u34, u35, u36, u37, u38, u39, u40, u41, u42, u43, u44, u45, u46, u47, u48, u49, u50, u51, u52, u53, u54, u55, u56, u57, u58, u59, u60, u61, u62, u63, u64, u65, u66, u67, u68, u69, u70, u71, u72, u73, u74, u75, u76, u77, u78, u79, u80, u81, u82, u83, u84, u85, u86, u87, u88, u89, u90, u91, u92, u93, u94, u95, u96, u97, u98, u99, u100, u101, u102, u103, u104, u105, u106, u107, u108, u109, u110, u111, u112, u113, u114, u115, u116, u117, u118, u119, u120, u121, u122, u123, u124, u125, u126, u127, u128, u129, u130, u131, u132, u133, u134], defers := D } w := by
  dsimp only at hK ⊢
  rw [show fragR Try.f4 9 = Code.region _ (List.toArray _) true from rfl]
  refine wpIn_region_st 135 [6] [43, 44, 45, 46, 47, 48, 49] (phiOf [QV (.pointer (some ⟨d, 0, none⟩)), QV (.pointer (some ⟨b, 1, none⟩)), QV (.int .i64 q.2.1), QV (.pointer (some ⟨b, 2, none⟩)), QV (.int .u8 (q.2.2.toNat : Nat)), QV (.agg (blkA (fillB q.2.2))), QV (.int .i64 (S.write q.2.1 (fillB q.2.2)).1)]) (gOf [fun W => Below w.heap.size w W, fun W => ∃ F', Dk W F' d (S.write q.2.1 (fillB q.2.2)).2 ∧ ∀ k, F' k → F k ∨ w.heap.size ≤ k]) (tOf [F]) (F) (by kernel_rfl) (by kernel_rfl) (by kernel_rfl) rfl ?r9TT (phi_st ?r9st) (gOf_stays ?r9G) ?r9G0 ?r9g ?r9op ?r9fin
  case r9TT =>
    refine tOf_in ?_
    simp only [List.forall_mem_cons]; exact ⟨fun b hb => hb, fun _ h => by cases h⟩
  case r9st => exact ⟨stq _ _ _ _, stq _ _ _ _, stq _ _ _ _, stq _ _ _ _, stq _ _ _ _, stq _ _ _ _, stq _ _ _ _, trivial⟩
  case r9G => simp only [List.forall_mem_cons]; exact ⟨fun W W' h hb => below_cat hb h, fun W W' ⟨F', h1, h2⟩ hb => ⟨F', h1.below hb, h2⟩, fun _ h => by cases h⟩
  case r9G0 => exact (Below.refl _ _).drew
  case r9g => exact no_guards rfl
  case r9op =>
    refine ⟨fun s a W hlo hhi hG hkT hold hdep hgv => ?_, ?_⟩
    · show OpOk _ _ _ _ _
      have h7 : a.tmps.getD 7 undef = .pointer (some ⟨d, 0, none⟩) := (hold 7 (by kernel_rfl)).trans rfl
      unfold OpOk
      simp [execOp, go_sem, eval_tmp, eval_const, eval_func, h7]
      exact ⟨Below.refl _ _, rfl⟩
    refine ⟨fun s a W hlo hhi hG hkT hold hdep hgv => ?_, ?_⟩
    · show OpOk _ _ _ _ _
      have h10 : a.tmps.getD 10 undef = .pointer (some ⟨b, 0, none⟩) := (hold 10 (by kernel_rfl)).trans rfl
      unfold OpOk
      simp [execOp, go_sem, eval_tmp, eval_const, eval_func, h10]
      exact ⟨Below.refl _ _, rfl⟩
    refine ⟨fun s a W hlo hhi hG hkT hold hdep hgv => ?_, ?_⟩
    · obtain rfl : s = 0 := Nat.le_zero.1 (Nat.le_trans hhi (Nat.le_of_eq (by kernel_rfl)))
      show OpOk _ _ _ _ _
      replace hG : Below w.heap.size w W := hG
      have h44 : a.tmps.getD 44 undef = .pointer (some ⟨b, 1, none⟩) := hdep 1 44 (by kernel_rfl) rfl
      have hc : W.cell? ⟨b, 1, none⟩ = some (.int .i64 q.2.1) := (rb.out.below hG rb.out.lt).cell rfl
      unfold OpOk
      simp [execOp, go_sem, eval_tmp, eval_const, eval_func, h44, hc]
      exact ⟨Below.refl _ _, rfl⟩
    refine ⟨fun s a W hlo hhi hG hkT hold hdep hgv => ?_, ?_⟩
    · show OpOk _ _ _ _ _
      have h10 : a.tmps.getD 10 undef = .pointer (some ⟨b, 0, none⟩) := (hold 10 (by kernel_rfl)).trans rfl
      unfold OpOk
      simp [execOp, go_sem, eval_tmp, eval_const, eval_func, h10]
      exact ⟨Below.refl _ _, rfl⟩
    refine ⟨fun s a W hlo hhi hG hkT hold hdep hgv => ?_, ?_⟩
    · obtain rfl : s = 0 := Nat.le_zero.1 (Nat.le_trans hhi (Nat.le_of_eq (by kernel_rfl)))
      show OpOk _ _ _ _ _
      replace hG : Below w.heap.size w W := hG
      have h46 : a.tmps.getD 46 undef = .pointer (some ⟨b, 2, none⟩) := hdep 3 46 (by kernel_rfl) rfl
      have hc : W.cell? ⟨b, 2, none⟩ = some (.int .u8 (q.2.2.toNat : Nat)) := (rb.out.below hG rb.out.lt).cell rfl
      unfold OpOk
      simp [execOp, go_sem, eval_tmp, eval_const, eval_func, h46, hc]
      exact ⟨Below.refl _ _, rfl⟩
    refine ⟨fun s a W hlo hhi hG hkT hold hdep hgv => ?_, ?_⟩
    · obtain rfl : s = 0 := Nat.le_zero.1 (Nat.le_trans hhi (Nat.le_of_eq (by kernel_rfl)))
      show OpOk _ _ _ _ _
      replace hG : Below w.heap.size w W := hG
      have h47 : a.tmps.getD 47 undef = .int .u8 (q.2.2.toNat : Nat) := hdep 4 47 (by kernel_rfl) rfl
      unfold OpOk
      simp [execOp, go_sem, eval_tmp, eval_const, eval_func, h47]
      exact fill_call (a := a) (o := ⟨none, .move (.const undef), 0, "", #[], none⟩) q.2.2 fun W' hb => rfl
    refine ⟨fun s a W hlo hhi hG hkT hold hdep hgv => ?_, ?_⟩
    · obtain rfl : s = 0 := Nat.le_antisymm (Nat.le_trans hhi (Nat.le_of_eq (by kernel_rfl))) (Nat.le_trans (Nat.le_of_eq (by kernel_rfl)) hlo)
      show OpR _ _ _ _ _
      replace hG : (fun W => Below w.heap.size w W) W := hG
      have h43 : a.tmps.getD 43 undef = .pointer (some ⟨d, 0, none⟩) := hdep 0 43 (by kernel_rfl) rfl
      have h45 : a.tmps.getD 45 undef = .int .i64 q.2.1 := hdep 2 45 (by kernel_rfl) rfl
      have h48 : a.tmps.getD 48 undef = .agg (blkA (fillB q.2.2)) := hdep 5 48 (by kernel_rfl) rfl
      unfold OpR
      simp [execOp, go_sem, eval_tmp, eval_const, eval_func, h43, h45, h48]
      refine (write_any (hdk.out.below hG) hok.out q.2.1 (fillB q.2.2)).mono ?_
      rintro e W2 ⟨rfl, F', h1, h2, h3⟩
      exact ⟨_, rfl, h2, ⟨F', h1, fun k hk => (h3 k hk).imp id (fun h => Nat.le_trans hG.size h)⟩, rfl⟩
    trivial
  case r9fin =>
    intro X W hG hkT hX
    replace hG : (fun W => ∃ F', Dk W F' d (S.write q.2.1 (fillB q.2.2)).2 ∧ ∀ k, F' k → F k ∨ w.heap.size ≤ k) W := hG
    have e43 : X 43 = .pointer (some ⟨d, 0, none⟩) := hX 0 43 (by decide) rfl
    have e44 : X 44 = .pointer (some ⟨b, 1, none⟩) := hX 1 44 (by decide) rfl
    have e45 : X 45 = .int .i64 q.2.1 := hX 2 45 (by decide) rfl
    have e46 : X 46 = .pointer (some ⟨b, 2, none⟩) := hX 3 46 (by decide) rfl
    have e47 : X 47 = .int .u8 (q.2.2.toNat : Nat) := hX 4 47 (by decide) rfl
    have e48 : X 48 = .agg (blkA (fillB q.2.2)) := hX 5 48 (by decide) rfl
    have e49 : X 49 = .int .i64 (S.write q.2.1 (fillB q.2.2)).1 := hX 6 49 (by decide) rfl
    clear hX
    simp only [List.map_cons, List.map_nil, putAll, List.foldl_cons, List.foldl_nil, List.setIfInBounds_toArray, List.set_cons_zero, List.set_cons_succ, e43, e44, e45, e46, e47, e48, e49]
    clear e43 e44 e45 e46 e47 e48 e49
    exact hK _ _ _ _ _ _ _ _ hG hkT

set_option maxRecDepth 1000000 in
set_option maxHeartbeats 4000000 in
theorem keeps_r20 {F : Nat → Prop} {d b : Nat} {S : DS} {q : ActT} {D : List Deferred} {w : World} (hdk : Hid (Dk w F d S)) (hok : Hid S.Ok) (rb : Hid (RowAt w b 29 #[.int .i64 q.1, .int .i64 q.2.1, .int .u8 (q.2.2.toNat : Nat)])) {Q : Exit → Act → World → Prop} (u0 u1 u2 u3 u4 u5 u6 u8 u9 u10 u11 u12 u13 u14 u15 u17 u18 u19 u20 u21 u22 u23 u24 u25 u26 u27 u28 u29 u30 u31 u32 u33 u34 u35 u36 u37 u38 u39 u40 u41 u42 u43 u44 u45 u46 u47 u48 u49 u50 u51 u52 u53 u54 u55 u56 u57 u58 u59 u60 u61 u62 u63 u64 u65 u66 u67 u68 u69 u70 u71 u72 u73 u74 u75 u76 u77 u78 u79 u80 u81 u82 u83 u84 u85 u86 u87 u88 u89 u90 u91 u92 u93 u94 u95 u96 u97 u98 u99 u100 u101 u102 u103 u104 u105 u106 u107 u108 u109 u110 u111 u112 u113 u114 u115 u116 u117 u118 u119 u120 u121 u122 u123 u124 u125 u126 u127 u128 u129 u130 u131 u132 u133 u134 : Value)
    (hK : ∀ (v67 v68 v69 v70 v71 v72 v73 : Value) (W : World), (fun W => ∃ F', Dk W F' d (S.write q.2.1 (fillB q.2.2)).2 ∧ ∀ k, F' k → F k ∨ w.heap.size ≤ k) W → Kept F w W → Q .normal { tmps := #[u0, u1, u2, u3, u4, u5, u6, .pointer (some ⟨d, 0, none⟩), u8, u9, u10, u11, u12, u13, u14, u15, .pointer (some ⟨b, 0, none⟩), u17, u18, u19, u20, u21, u22, u23, u24, u25, u26, u27, u28, u29, u30, u31, u32, u33, u34, u35, u36, u37, u38, u39, u40, u41, u42, u43, u44, u45, u46, u47, u48, u49, u50, u51, u52, u53, u54, u55, u56, u57, u58, u59, u60, u61, u62, u63, u64, u65, u66, v67, v68, v69, v70, v71, v72, v73, .bool ((S.write q.2.1 (fillB q.2.2)).1 == 0), u75, u76, u77, u78, u79, u80, u81, u82, u83, u84, u85, u86, u87, u88, u89, u90, u91, u92, u93, u94, u95, u96, u97, u98, u99, u100, u101, u102, u103, u104, u105, u106, u107, u108, u109, u110, u111, u112, u113, u114, u115, u116, u117, u118, u119, u120, u121, u122, u123, u124, u125, u126, u127, u128, u129, u130, u131, u132, u133, u134], defers := D } W) :
    (fragR Try.f4 20).wpIn Fence.wide 0 Try.prog Q { tmps := #[u0, u1, u2, u3, u4, u5, u6, .pointer (some ⟨d, 0, none⟩), u8, u9, u10, u11, u12, u13, u14, u15, .pointer (some ⟨b, 0, none⟩), u17, u18, u19, u20, u21, u22, u23, u24, u25, u26, u27, u28, u29, u30, u31, u32, u33, u34, u35, u36, u37, u38, u39, u40, u41, u42, u43, u44, u45, u46, u47, u48, u49, u50, u51, u52, u53, u54, u55, u56, u57, u58, u59, u60, u61, u62, u63, u64, u65, u66, u67, u68, u69, u70, u71, u72, u73, u74, u75, u76, u77, u78, u79, u80, u81, u82, u83, u84, u85, u86, u87, u88, u89, u90, u91, u92, u93, u94, u95, u96, u97, u98, u99, u100, u101, u102, u103, u104, u105, u106, u107, u108, u109, u110, u111, u112, u113, u114, u115, u116, u117, u118, u119, u120, u121, u122, u123, u124, u125, u126, u127, u128, u129, u130, u131, u132, u133, u134], defers := D } w := by
  dsimp only at hK ⊢
  rw [show fragR Try.f4 20 = Code.region _ (List.toArray _) true from rfl]
  refine wpIn_region_st 135 [6] [67, 68, 69, 70, 71, 72, 73, 74] (phiOf [QV (.pointer (some ⟨d, 0, none⟩)), QV (.pointer (some ⟨b, 1, none⟩)), QV (.int .i64 q.2.1), QV (.pointer (some ⟨b, 2, none⟩)), QV (.int .u8 (q.2.2.toNat : Nat)), QV (.agg (blkA (fillB q.2.2))), QV (.int .i64 (S.write q.2.1 (fillB q.2.2)).1), QV (.bool ((S.write q.2.1 (fillB q.2.2)).1 == 0))]) (gOf [fun W => Below w.heap.size w W, fun W => ∃ F', Dk W F' d (S.write q.2.1 (fillB q.2.2)).2 ∧ ∀ k, F' k → F k ∨ w.heap.size ≤ k]) (tOf [F]) (F) (by kernel_rfl) (by kernel_rfl) (by kernel_rfl) rfl ?r20TT (phi_st ?r20st) (gOf_stays ?r20G) ?r20G0 ?r20g ?r20op ?r20fin
  case r20TT =>
    refine tOf_in ?_
    simp only [List.forall_mem_cons]; exact ⟨fun b hb => hb, fun _ h => by cases h⟩
  case r20st => exact ⟨stq _ _ _ _, stq _ _ _ _, stq _ _ _ _, stq _ _ _ _, stq _ _ _ _, stq _ _ _ _, stq _ _ _ _, stq _ _ _ _, trivial⟩
  case r20G => simp only [List.forall_mem_cons]; exact ⟨fun W W' h hb => below_cat hb h, fun W W' ⟨F', h1, h2⟩ hb => ⟨F', h1.below hb, h2⟩, fun _ h => by cases h⟩
  case r20G0 => exact (Below.refl _ _).drew
  case r20g => exact no_guards rfl
  case r20op =>
    refine ⟨fun s a W hlo hhi hG hkT hold hdep hgv => ?_, ?_⟩
    · show OpOk _ _ _ _ _
      have h7 : a.tmps.getD 7 undef = .pointer (some ⟨d, 0, none⟩) := (hold 7 (by kernel_rfl)).trans rfl
      unfold OpOk
      simp [execOp, go_sem, eval_tmp, eval_const, eval_func, h7]
      exact ⟨Below.refl _ _, rfl⟩
    refine ⟨fun s a W hlo hhi hG hkT hold hdep hgv => ?_, ?_⟩
    · show OpOk _ _ _ _ _
      have h16 : a.tmps.getD 16 undef = .pointer (some ⟨b, 0, none⟩) := (hold 16 (by kernel_rfl)).trans rfl
      unfold OpOk
      simp [execOp, go_sem, eval_tmp, eval_const, eval_func, h16]
      exact ⟨Below.refl _ _, rfl⟩
    refine ⟨fun s a W hlo hhi hG hkT hold hdep hgv => ?_, ?_⟩
    · obtain rfl : s = 0 := Nat.le_zero.1 (Nat.le_trans hhi (Nat.le_of_eq (by kernel_rfl)))
      show OpOk _ _ _ _ _
      replace hG : Below w.heap.size w W := hG
      have h68 : a.tmps.getD 68 undef = .pointer (some ⟨b, 1, none⟩) := hdep 1 68 (by kernel_rfl) rfl
      have hc : W.cell? ⟨b, 1, none⟩ = some (.int .i64 q.2.1) := (rb.out.below hG rb.out.lt).cell rfl
      unfold OpOk
      simp [execOp, go_sem, eval_tmp, eval_const, eval_func, h68, hc]
      exact ⟨Below.refl _ _, rfl⟩
    refine ⟨fun s a W hlo hhi hG hkT hold hdep hgv => ?_, ?_⟩
    · show OpOk _ _ _ _ _
      have h16 : a.tmps.getD 16 undef = .pointer (some ⟨b, 0, none⟩) := (hold 16 (by kernel_rfl)).trans rfl
      unfold OpOk
      simp [execOp, go_sem, eval_tmp, eval_const, eval_func, h16]
      exact ⟨Below.refl _ _, rfl⟩
    refine ⟨fun s a W hlo hhi hG hkT hold hdep hgv => ?_, ?_⟩
    · obtain rfl : s = 0 := Nat.le_zero.1 (Nat.le_trans hhi (Nat.le_of_eq (by kernel_rfl)))
      show OpOk _ _ _ _ _
      replace hG : Below w.heap.size w W := hG
      have h70 : a.tmps.getD 70 undef = .pointer (some ⟨b, 2, none⟩) := hdep 3 70 (by kernel_rfl) rfl
      have hc : W.cell? ⟨b, 2, none⟩ = some (.int .u8 (q.2.2.toNat : Nat)) := (rb.out.below hG rb.out.lt).cell rfl
      unfold OpOk
      simp [execOp, go_sem, eval_tmp, eval_const, eval_func, h70, hc]
      exact ⟨Below.refl _ _, rfl⟩
    refine ⟨fun s a W hlo hhi hG hkT hold hdep hgv => ?_, ?_⟩
    · obtain rfl : s = 0 := Nat.le_zero.1 (Nat.le_trans hhi (Nat.le_of_eq (by kernel_rfl)))
      show OpOk _ _ _ _ _
      replace hG : Below w.heap.size w W := hG
      have h71 : a.tmps.getD 71 undef = .int .u8 (q.2.2.toNat : Nat) := hdep 4 71 (by kernel_rfl) rfl
      unfold OpOk
      simp [execOp, go_sem, eval_tmp, eval_const, eval_func, h71]
      exact fill_call (a := a) (o := ⟨none, .move (.const undef), 0, "", #[], none⟩) q.2.2 fun W' hb => rfl
    refine ⟨fun s a W hlo hhi hG hkT hold hdep hgv => ?_, ?_⟩
    · obtain rfl : s = 0 := Nat.le_antisymm (Nat.le_trans hhi (Nat.le_of_eq (by kernel_rfl))) (Nat.le_trans (Nat.le_of_eq (by kernel_rfl)) hlo)
      show OpR _ _ _ _ _
      replace hG : (fun W => Below w.heap.size w W) W := hG
      have h67 : a.tmps.getD 67 undef = .pointer (some ⟨d, 0, none⟩) := hdep 0 67 (by kernel_rfl) rfl
      have h69 : a.tmps.getD 69 undef = .int .i64 q.2.1 := hdep 2 69 (by kernel_rfl) rfl
      have h72 : a.tmps.getD 72 undef = .agg (blkA (fillB q.2.2)) := hdep 5 72 (by kernel_rfl) rfl
      unfold OpR
      simp [execOp, go_sem, eval_tmp, eval_const, eval_func, h67, h69, h72]
      refine (write_any (hdk.out.below hG) hok.out q.2.1 (fillB q.2.2)).mono ?_
      rintro e W2 ⟨rfl, F', h1, h2, h3⟩
      exact ⟨_, rfl, h2, ⟨F', h1, fun k hk => (h3 k hk).imp id (fun h => Nat.le_trans hG.size h)⟩, rfl⟩
    refine ⟨fun s a W hlo hhi hG hkT hold hdep hgv => ?_, ?_⟩
    · show OpOk _ _ _ _ _
      have h73 : a.tmps.getD 73 undef = .int .i64 (S.write q.2.1 (fillB q.2.2)).1 := hdep 6 73 (by kernel_rfl) rfl
      unfold OpOk
      simp [execOp, go_sem, eval_tmp, eval_const, eval_func, h73]
      exact ⟨Below.refl _ _, rfl⟩
    trivial
  case r20fin =>
    intro X W hG hkT hX
    replace hG : (fun W => ∃ F', Dk W F' d (S.write q.2.1 (fillB q.2.2)).2 ∧ ∀ k, F' k → F k ∨ w.heap.size ≤ k) W := hG
    have e67 : X 67 = .pointer (some ⟨d, 0, none⟩) := hX 0 67 (by decide) rfl
    have e68 : X 68 = .pointer (some ⟨b, 1, none⟩) := hX 1 68 (by decide) rfl
    have e69 : X 69 = .int .i64 q.2.1 := hX 2 69 (by decide) rfl
    have e70 : X 70 = .pointer (some ⟨b, 2, none⟩) := hX 3 70 (by decide) rfl
    have e71 : X 71 = .int .u8 (q.2.2.toNat : Nat) := hX 4 71 (by decide) rfl
    have e72 : X 72 = .agg (blkA (fillB q.2.2)) := hX 5 72 (by decide) rfl
    have e73 : X 73 = .int .i64 (S.write q.2.1 (fillB q.2.2)).1 := hX 6 73 (by decide) rfl
    have e74 : X 74 = .bool ((S.write q.2.1 (fillB q.2.2)).1 == 0) := hX 7 74 (by decide) rfl
    clear hX
    simp only [List.map_cons, List.map_nil, putAll, List.foldl_cons, List.foldl_nil, List.setIfInBounds_toArray, List.set_cons_zero, List.set_cons_succ, e67, e68, e69, e70, e71, e72, e73, e74]
    clear e67 e68 e69 e70 e71 e72 e73 e74
    exact hK _ _ _ _ _ _ _ _ hG hkT

set_option maxRecDepth 1000000 in
set_option maxHeartbeats 4000000 in
theorem keeps_r40 {rd : Nat} {c e g cap i b : Nat} {v : Value} {bs : List Blk} {B B' : Blk} {D : List Deferred} {w : World} (rc : Hid (RowAt w c 35 #[v])) (re : Hid (RowAt w e 4 #[.bool true])) (rb : Hid (RowAt w b 32 (blkA B))) (hv : Hid (IsBlks w v bs)) (hg : Hid (v.ownBlock = some g)) (hi : Hid (bs[i]? = some B')) (hBB : Hid (blkA B' = blkA B)) (hi16 : i < 16) (hvv : Hid (v = .slice (some ⟨g, 0, none⟩) 16 cap)) {Q : Exit → Act → World → Prop} (u0 u1 u2 u3 u4 u5 u6 u7 u8 u9 u10 u11 u12 u13 u14 u15 u16 u17 u18 u19 u20 u25 u26 u27 u28 u29 u30 u31 u32 u33 u34 u35 u36 u37 u38 u39 u40 u41 u42 u43 u44 u45 u46 u47 u48 u49 u50 u51 u52 u53 u54 u55 u56 u57 u58 u59 u60 u61 u62 u63 u64 u65 u66 u67 u68 u69 u70 u71 u72 u73 u74 u75 u76 u77 u78 u79 u80 u81 u82 u83 u84 u85 u86 u87 u88 u89 u90 u91 u92 u93 u94 u95 u96 u97 u98 u99 u100 u101 u102 u103 u104 u105 u106 u107 u108 u109 u110 u111 u112 u113 u114 u115 u116 u117 u118 u119 u120 u121 u122 u123 u124 u125 u126 u127 u128 u129 u130 u131 u132 u133 u134 : Value)
    (hK : ∀ (v118 v119 v120 v121 v122 v123 v124 v125 : Value) (W : World), Below w.heap.size w W → Q .normal { tmps := #[u0, u1, u2, u3, u4, u5, u6, u7, u8, u9, u10, u11, u12, u13, u14, u15, u16, u17, u18, u19, u20, .pointer (some ⟨c, 0, none⟩), .pointer (some ⟨e, 0, none⟩), .int .i64 (i : Nat), .pointer (some ⟨b, 0, none⟩), u25, u26, u27, u28, u29, u30, u31, u32, u33, u34, u35, u36, u37, u38, u39, u40, u41, u42, u43, u44, u45, u46, u47, u48, u49, u50, u51, u52, u53, u54, u55, u56, u57, u58, u59, u60, u61, u62, u63, u64, u65, u66, u67, u68, u69, u70, u71, u72, u73, u74, u75, u76, u77, u78, u79, u80, u81, u82, u83, u84, u85, u86, u87, u88, u89, u90, u91, u92, u93, u94, u95, u96, u97, u98, u99, u100, u101, u102, u103, u104, u105, u106, u107, u108, u109, u110, u111, u112, u113, u114, u115, u116, u117, v118, v119, v120, v121, v122, v123, v124, v125, .bool false, u127, u128, u129, u130, u131, u132, u133, u134], defers := D } W) :
    (fragR Try.f4 40).wpIn (Fence.wide.inRound rd) 0 Try.prog Q { tmps := #[u0, u1, u2, u3, u4, u5, u6, u7, u8, u9, u10, u11, u12, u13, u14, u15, u16, u17, u18, u19, u20, .pointer (some ⟨c, 0, none⟩), .pointer (some ⟨e, 0, none⟩), .int .i64 (i : Nat), .pointer (some ⟨b, 0, none⟩), u25, u26, u27, u28, u29, u30, u31, u32, u33, u34, u35, u36, u37, u38, u39, u40, u41, u42, u43, u44, u45, u46, u47, u48, u49, u50, u51, u52, u53, u54, u55, u56, u57, u58, u59, u60, u61, u62, u63, u64, u65, u66, u67, u68, u69, u70, u71, u72, u73, u74, u75, u76, u77, u78, u79, u80, u81, u82, u83, u84, u85, u86, u87, u88, u89, u90, u91, u92, u93, u94, u95, u96, u97, u98, u99, u100, u101, u102, u103, u104, u105, u106, u107, u108, u109, u110, u111, u112, u113, u114, u115, u116, u117, u118, u119, u120, u121, u122, u123, u124, u125, u126, u127, u128, u129, u130, u131, u132, u133, u134], defers := D } w := by
  dsimp only at hK ⊢
  rw [show fragR Try.f4 40 = Code.region _ (List.toArray _) true from rfl]
  have i1 : (0 : Int) ≤ (i : Int) := by omega
  have i2 : (i : Int) < 16 := by omega
  refine wpIn_region_st_round 135 [] [118, 119, 120, 121, 122, 123, 124, 125, 126] (phiOf [QV (.bool true), QV (.bool true), QV (.agg (blkA B)), QV (v), QV (.int .i64 (i : Nat)), QV (.pointer (some ⟨g, i * 128, none⟩)), QV (.agg (blkA B)), QV (.bool false), QV (.bool false)]) (gOf [fun W => Below w.heap.size w W]) (tOf []) (fun _ => False) (by kernel_rfl) (by kernel_rfl) (by kernel_rfl) (by kernel_rfl) rfl ?r40TT (phi_st ?r40st) (gOf_stays ?r40G) ?r40G0 ?r40g ?r40op ?r40fin
  case r40TT =>
    refine tOf_in ?_
    intro p hp; cases hp
  case r40st => exact ⟨stq _ _ _ _, stq _ _ _ _, stq _ _ _ _, stq _ _ _ _, stq _ _ _ _, stq _ _ _ _, stq _ _ _ _, stq _ _ _ _, stq _ _ _ _, trivial⟩
  case r40G => simp only [List.forall_mem_cons]; exact ⟨fun W W' h hb => below_cat hb h, fun _ h => by cases h⟩
  case r40G0 => exact (Below.refl _ _).drew
  case r40g =>
    refine guards_on [(1, true)] (by kernel_rfl) ?_
    intro p hp
    simp only [List.mem_cons, List.not_mem_nil, or_false] at hp
    rcases hp with rfl <;> (intro v W h; exact .inl h)
  case r40op =>
    refine ⟨fun s a W hlo hhi hG hkT hold hdep hgv => ?_, ?_⟩
    · obtain rfl : s = 0 := Nat.le_zero.1 (Nat.le_trans hhi (Nat.le_of_eq (by kernel_rfl)))
      show OpOk _ _ _ _ _
      replace hG : Below w.heap.size w W := hG
      have h22 : a.tmps.getD 22 undef = .pointer (some ⟨e, 0, none⟩) := (hold 22 (by kernel_rfl)).trans rfl
      have hc : W.cell? ⟨e, 0, none⟩ = some (.bool true) := (re.out.below hG re.out.lt).cell rfl
      unfold OpOk
      simp [execOp, go_sem, eval_tmp, eval_const, eval_func, h22, hc]
      exact ⟨Below.refl _ _, rfl⟩
    refine ⟨fun s a W hlo hhi hG hkT hold hdep hgv => ?_, ?_⟩
    · show OpOk _ _ _ _ _
      have h118 : a.tmps.getD 118 undef = .bool true := hdep 0 118 (by kernel_rfl) rfl
      unfold OpOk
      simp [execOp, go_sem, eval_tmp, eval_const, eval_func, h118]
      exact ⟨Below.refl _ _, rfl⟩
    refine ⟨fun s a W hlo hhi hG hkT hold hdep hgv => ?_, ?_⟩
    · obtain rfl : s = 0 := Nat.le_zero.1 (Nat.le_trans hhi (Nat.le_of_eq (by kernel_rfl)))
      show OpOk _ _ _ _ _
      replace hG : Below w.heap.size w W := hG
      have h24 : a.tmps.getD 24 undef = .pointer (some ⟨b, 0, none⟩) := (hold 24 (by kernel_rfl)).trans rfl
      exact opOk_load 32 _ rfl b (by rw [eval_tmp, h24]) 32 (blkA B) _ (rb.out.below hG rb.out.lt) Try.underlying32 rfl (infoBlkCs _) rfl
    refine ⟨fun s a W hlo hhi hG hkT hold hdep hgv => ?_, ?_⟩
    · obtain rfl : s = 0 := Nat.le_zero.1 (Nat.le_trans hhi (Nat.le_of_eq (by kernel_rfl)))
      show OpOk _ _ _ _ _
      replace hG : Below w.heap.size w W := hG
      have h21 : a.tmps.getD 21 undef = .pointer (some ⟨c, 0, none⟩) := (hold 21 (by kernel_rfl)).trans rfl
      have hc : W.cell? ⟨c, 0, none⟩ = some (v) := (rc.out.below hG rc.out.lt).cell rfl
      unfold OpOk
      simp [execOp, go_sem, eval_tmp, eval_const, eval_func, h21, hc]
      exact ⟨Below.refl _ _, rfl⟩
    refine ⟨fun s a W hlo hhi hG hkT hold hdep hgv => ?_, ?_⟩
    · show OpOk _ _ _ _ _
      have h23 : a.tmps.getD 23 undef = .int .i64 (i : Nat) := (hold 23 (by kernel_rfl)).trans rfl
      unfold OpOk
      simp [execOp, go_sem, eval_tmp, eval_const, eval_func, h23]
      exact ⟨Below.refl _ _, rfl⟩
    refine ⟨fun s a W hlo hhi hG hkT hold hdep hgv => ?_, ?_⟩
    · show OpOk _ _ _ _ _
      have h121 : a.tmps.getD 121 undef = v := hdep 3 121 (by kernel_rfl) rfl
      have h122 : a.tmps.getD 122 undef = .int .i64 (i : Nat) := hdep 4 122 (by kernel_rfl) rfl
      rw [hvv.out] at h121
      unfold OpOk
      simp [execOp, go_sem, eval_tmp, eval_const, eval_func, h121, h122, i1, i2]
      exact ⟨Below.refl _ _, rfl⟩
    refine ⟨fun s a W hlo hhi hG hkT hold hdep hgv => ?_, ?_⟩
    · obtain rfl : s = 0 := Nat.le_zero.1 (Nat.le_trans hhi (Nat.le_of_eq (by kernel_rfl)))
      show OpOk _ _ _ _ _
      replace hG : Below w.heap.size w W := hG
      have h123 : a.tmps.getD 123 undef = .pointer (some ⟨g, i * 128, none⟩) := hdep 5 123 (by kernel_rfl) rfl
      have hrg := (hv.out.kept (Kept.of_below (S := fun _ => False) hG) (fun _ _ h => h)).range hg.out hi.out
      refine opOk_load_mid 32 _ rfl g (i * 128) h123 _ _ hrg Try.underlying32 rfl (by rw [Array.length_toList]; exact infoBlkCs _) ?_
      show _ = _
      rw [Array.toArray_toList, hBB.out]
    refine ⟨fun s a W hlo hhi hG hkT hold hdep hgv => ?_, ?_⟩
    · show OpOk _ _ _ _ _
      have h120 : a.tmps.getD 120 undef = .agg (blkA B) := hdep 2 120 (by kernel_rfl) rfl
      have h124 : a.tmps.getD 124 undef = .agg (blkA B) := hdep 6 124 (by kernel_rfl) rfl
      unfold OpOk
      simp [execOp, go_sem, eval_tmp, eval_const, eval_func, h120, h124, blk_neq, blk_guard]
      exact ⟨Below.refl _ _, rfl⟩
    refine ⟨fun s a W hlo hhi hG hkT hold hdep hgv => ?_, ?_⟩
    · show OpOk _ _ _ _ _
      have h119 : a.tmps.getD 119 undef = .bool true := hdep 1 119 (by kernel_rfl) rfl
      have h125 : a.tmps.getD 125 undef = .bool false := hdep 7 125 (by kernel_rfl) rfl
      unfold OpOk
      simp [execOp, go_sem, eval_tmp, eval_const, eval_func, h119, h125]
      exact ⟨Below.refl _ _, rfl⟩
    trivial
  case r40fin =>
    intro X W hG hkT hX
    replace hG : (fun W => Below w.heap.size w W) W := hG
    have e118 : X 118 = .bool true := hX 0 118 (by decide) rfl
    have e119 : X 119 = .bool true := hX 1 119 (by decide) rfl
    have e120 : X 120 = .agg (blkA B) := hX 2 120 (by decide) rfl
    have e121 : X 121 = v := hX 3 121 (by decide) rfl
    have e122 : X 122 = .int .i64 (i : Nat) := hX 4 122 (by decide) rfl
    have e123 : X 123 = .pointer (some ⟨g, i * 128, none⟩) := hX 5 123 (by decide) rfl
    have e124 : X 124 = .agg (blkA B) := hX 6 124 (by decide) rfl
    have e125 : X 125 = .bool false := hX 7 125 (by decide) rfl
    have e126 : X 126 = .bool false := hX 8 126 (by decide) rfl
    clear hX
    simp only [List.map_cons, List.map_nil, putAll, List.foldl_cons, List.foldl_nil, List.setIfInBounds_toArray, List.set_cons_zero, List.set_cons_succ, e118, e119, e120, e121, e122, e123, e124, e125, e126]
    clear e118 e119 e120 e121 e122 e123 e124 e125 e126
    exact hK _ _ _ _ _ _ _ _ _ hG

set_option maxRecDepth 1000000 in
set_option maxHeartbeats 4000000 in
theorem keeps_r40n {rd : Nat} {c e i b : Nat} {D : List Deferred} {w : World} (re : Hid (RowAt w e 4 #[.bool false])) {Q : Exit → Act → World → Prop} (u0 u1 u2 u3 u4 u5 u6 u7 u8 u9 u10 u11 u12 u13 u14 u15 u16 u17 u18 u19 u20 u25 u26 u27 u28 u29 u30 u31 u32 u33 u34 u35 u36 u37 u38 u39 u40 u41 u42 u43 u44 u45 u46 u47 u48 u49 u50 u51 u52 u53 u54 u55 u56 u57 u58 u59 u60 u61 u62 u63 u64 u65 u66 u67 u68 u69 u70 u71 u72 u73 u74 u75 u76 u77 u78 u79 u80 u81 u82 u83 u84 u85 u86 u87 u88 u89 u90 u91 u92 u93 u94 u95 u96 u97 u98 u99 u100 u101 u102 u103 u104 u105 u106 u107 u108 u109 u110 u111 u112 u113 u114 u115 u116 u117 u118 u119 u120 u121 u122 u123 u124 u125 u126 u127 u128 u129 u130 u131 u132 u133 u134 : Value)
    (hK : ∀ (v118 v119 v120 v121 v122 v123 v124 v125 : Value) (W : World), Below w.heap.size w W → Q .normal { tmps := #[u0, u1, u2, u3, u4, u5, u6, u7, u8, u9, u10, u11, u12, u13, u14, u15, u16, u17, u18, u19, u20, .pointer (some ⟨c, 0, none⟩), .pointer (some ⟨e, 0, none⟩), .int .i64 (i : Nat), .pointer (some ⟨b, 0, none⟩), u25, u26, u27, u28, u29, u30, u31, u32, u33, u34, u35, u36, u37, u38, u39, u40, u41, u42, u43, u44, u45, u46, u47, u48, u49, u50, u51, u52, u53, u54, u55, u56, u57, u58, u59, u60, u61, u62, u63, u64, u65, u66, u67, u68, u69, u70, u71, u72, u73, u74, u75, u76, u77, u78, u79, u80, u81, u82, u83, u84, u85, u86, u87, u88, u89, u90, u91, u92, u93, u94, u95, u96, u97, u98, u99, u100, u101, u102, u103, u104, u105, u106, u107, u108, u109, u110, u111, u112, u113, u114, u115, u116, u117, v118, v119, v120, v121, v122, v123, v124, v125, .bool false, u127, u128, u129, u130, u131, u132, u133, u134], defers := D } W) :
    (fragR Try.f4 40).wpIn (Fence.wide.inRound rd) 0 Try.prog Q { tmps := #[u0, u1, u2, u3, u4, u5, u6, u7, u8, u9, u10, u11, u12, u13, u14, u15, u16, u17, u18, u19, u20, .pointer (some ⟨c, 0, none⟩), .pointer (some ⟨e, 0, none⟩), .int .i64 (i : Nat), .pointer (some ⟨b, 0, none⟩), u25, u26, u27, u28, u29, u30, u31, u32, u33, u34, u35, u36, u37, u38, u39, u40, u41, u42, u43, u44, u45, u46, u47, u48, u49, u50, u51, u52, u53, u54, u55, u56, u57, u58, u59, u60, u61, u62, u63, u64, u65, u66, u67, u68, u69, u70, u71, u72, u73, u74, u75, u76, u77, u78, u79, u80, u81, u82, u83, u84, u85, u86, u87, u88, u89, u90, u91, u92, u93, u94, u95, u96, u97, u98, u99, u100, u101, u102, u103, u104, u105, u106, u107, u108, u109, u110, u111, u112, u113, u114, u115, u116, u117, u118, u119, u120, u121, u122, u123, u124, u125, u126, u127, u128, u129, u130, u131, u132, u133, u134], defers := D } w := by
  dsimp only at hK ⊢
  rw [show fragR Try.f4 40 = Code.region _ (List.toArray _) true from rfl]
  refine wpIn_region_st_round 135 [] [118, 119, 120, 121, 122, 123, 124, 125, 126] (phiOf [QV (.bool false), QV (.bool false), fun _ _ => True, fun _ _ => True, fun _ _ => True, fun _ _ => True, fun _ _ => True, fun _ _ => True, QV (.bool false)]) (gOf [fun W => Below w.heap.size w W]) (tOf []) (fun _ => False) (by kernel_rfl) (by kernel_rfl) (by kernel_rfl) (by kernel_rfl) rfl ?r40TT (phi_st ?r40st) (gOf_stays ?r40G) ?r40G0 ?r40g ?r40op ?r40fin
  case r40TT =>
    refine tOf_in ?_
    intro p hp; cases hp
  case r40st => exact ⟨stq _ _ _ _, stq _ _ _ _, fun _ _ _ _ _ h _ => trivial, fun _ _ _ _ _ h _ => trivial, fun _ _ _ _ _ h _ => trivial, fun _ _ _ _ _ h _ => trivial, fun _ _ _ _ _ h _ => trivial, fun _ _ _ _ _ h _ => trivial, stq _ _ _ _, trivial⟩
  case r40G => simp only [List.forall_mem_cons]; exact ⟨fun W W' h hb => below_cat hb h, fun _ h => by cases h⟩
  case r40G0 => exact (Below.refl _ _).drew
  case r40g =>
    refine guards_on [(1, true)] (by kernel_rfl) ?_
    intro p hp
    simp only [List.mem_cons, List.not_mem_nil, or_false] at hp
    rcases hp with rfl
    · intro v W h
      refine .inr ⟨h, fun i o ho hgd => ?_⟩
      exact skip_ok (l := _) [2, 3, 4, 5, 6, 7] (by kernel_rfl) (by decide) (fun i hi => by simp only [List.mem_cons, List.not_mem_nil, or_false] at hi; rcases hi with rfl | rfl | rfl | rfl | rfl | rfl <;> (intro W'; trivial)) i o ho hgd
  case r40op =>
    refine ⟨fun s a W hlo hhi hG hkT hold hdep hgv => ?_, ?_⟩
    · obtain rfl : s = 0 := Nat.le_zero.1 (Nat.le_trans hhi (Nat.le_of_eq (by kernel_rfl)))
      show OpOk _ _ _ _ _
      replace hG : Below w.heap.size w W := hG
      have h22 : a.tmps.getD 22 undef = .pointer (some ⟨e, 0, none⟩) := (hold 22 (by kernel_rfl)).trans rfl
      have hc : W.cell? ⟨e, 0, none⟩ = some (.bool false) := (re.out.below hG re.out.lt).cell rfl
      unfold OpOk
      simp [execOp, go_sem, eval_tmp, eval_const, eval_func, h22, hc]
      exact ⟨Below.refl _ _, rfl⟩
    refine ⟨fun s a W hlo hhi hG hkT hold hdep hgv => ?_, ?_⟩
    · show OpOk _ _ _ _ _
      have h118 : a.tmps.getD 118 undef = .bool false := hdep 0 118 (by kernel_rfl) rfl
      unfold OpOk
      simp [execOp, go_sem, eval_tmp, eval_const, eval_func, h118]
      exact ⟨Below.refl _ _, rfl⟩
    refine ⟨fun s a W hlo hhi hG hkT hold hdep hgv => ?_, ?_⟩
    · exfalso
      have h1 := hgv 1 true rfl 119 rfl
      have h2 : a.tmps.getD 119 undef = .bool false := hdep 1 119 (by kernel_rfl) rfl
      rw [h1] at h2; cases h2
    refine ⟨fun s a W hlo hhi hG hkT hold hdep hgv => ?_, ?_⟩
    · exfalso
      have h1 := hgv 1 true rfl 119 rfl
      have h2 : a.tmps.getD 119 undef = .bool false := hdep 1 119 (by kernel_rfl) rfl
      rw [h1] at h2; cases h2
    refine ⟨fun s a W hlo hhi hG hkT hold hdep hgv => ?_, ?_⟩
    · exfalso
      have h1 := hgv 1 true rfl 119 rfl
      have h2 : a.tmps.getD 119 undef = .bool false := hdep 1 119 (by kernel_rfl) rfl
      rw [h1] at h2; cases h2
    refine ⟨fun s a W hlo hhi hG hkT hold hdep hgv => ?_, ?_⟩
    · exfalso
      have h1 := hgv 1 true rfl 119 rfl
      have h2 : a.tmps.getD 119 undef = .bool false := hdep 1 119 (by kernel_rfl) rfl
      rw [h1] at h2; cases h2
    refine ⟨fun s a W hlo hhi hG hkT hold hdep hgv => ?_, ?_⟩
    · exfalso
      have h1 := hgv 1 true rfl 119 rfl
      have h2 : a.tmps.getD 119 undef = .bool false := hdep 1 119 (by kernel_rfl) rfl
      rw [h1] at h2; cases h2
    refine ⟨fun s a W hlo hhi hG hkT hold hdep hgv => ?_, ?_⟩
    · exfalso
      have h1 := hgv 1 true rfl 119 rfl
      have h2 : a.tmps.getD 119 undef = .bool false := hdep 1 119 (by kernel_rfl) rfl
      rw [h1] at h2; cases h2
    refine ⟨fun s a W hlo hhi hG hkT hold hdep hgv => ?_, ?_⟩
    · show OpOk _ _ _ _ _
      have h119 : a.tmps.getD 119 undef = .bool false := hdep 1 119 (by kernel_rfl) rfl
      unfold OpOk
      simp [execOp, go_sem, eval_tmp, eval_const, eval_func, h119]
      exact ⟨Below.refl _ _, rfl⟩
    trivial
  case r40fin =>
    intro X W hG hkT hX
    replace hG : (fun W => Below w.heap.size w W) W := hG
    have e118 : X 118 = .bool false := hX 0 118 (by decide) rfl
    have e119 : X 119 = .bool false := hX 1 119 (by decide) rfl
    have e126 : X 126 = .bool false := hX 8 126 (by decide) rfl
    clear hX
    simp only [List.map_cons, List.map_nil, putAll, List.foldl_cons, List.foldl_nil, List.setIfInBounds_toArray, List.set_cons_zero, List.set_cons_succ, e118, e119, e126]
    clear e118 e119 e126
    exact hK _ _ _ _ _ _ _ _ _ hG

end Go.Proofs.Ytaofpeajfgcjcaa