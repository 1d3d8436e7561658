/- Disk: DiskPlays' region that draws its order. Printed by wip/tools/mkDrG.py. -/
import Derived.Test.YtaofpeajfgcjcaaDrH
namespace Go.Proofs.Ytaofpeajfgcjcaa
open Go Go.RowKit Go.Maps
set_option linter.unusedSimpArgs false
set_option linter.unusedVariables false

theorem Fin.from {w w0 W : World} {F G : Nat → Prop} {d q : Nat} {S' : DS} (h : Fin w0 F G d q S' W) (hs : w.heap.size ≤ w0.heap.size) : Fin w F G d q S' W := by
  obtain ⟨F', G', h1, h2⟩ := h
  exact ⟨F', G', h1, fun k hk => (h2 k hk).imp id (fun h => h.imp id (Nat.le_trans hs))⟩

set_option maxRecDepth 1000000 in
set_option maxHeartbeats 4000000 in
theorem plays_r12 {F G : Nat → Prop} {d p b : Nat} {S : DS} {q : ActT} {D : List Deferred} {w : World} (hp : Hid (Pair w F G d p S)) (hok : Hid S.Ok) (hq : actOk q) (rb : Hid (RowAt w b 29 #[.int .i64 q.1, .int .i64 q.2.1, .int .u8 (q.2.2.toNat : Nat)])) {Q : Exit → Act → World → Prop} (u0 u1 u2 u3 u4 u6 u8 u10 u11 u12 u13 u14 u15 u16 u17 u18 u19 u20 u21 u22 u23 u24 u25 u26 u27 u28 u29 u30 u31 u32 u33 u34 u35 u36 u37 u38 u39 u40 u41 u42 u43 u44 u45 u46 u47 u48 u49 u50 u51 u52 u53 u54 u55 u56 u57 u58 u59 u60 u61 u62 u63 u64 u65 u66 u67 u68 u69 u70 u71 u72 u73 u74 u75 u76 u77 u78 : Value)
    (hK : ∀ (v52 v53 v54 v55 v56 v57 v58 v59 v60 v61 v62 v63 v64 v65 v66 v67 v68 v69 v70 v71 v72 v73 : Value) (W : World), (fun W => Fin w F G d p (S.act q) W) W → Kept (fun k => F k ∨ G k) w W → Q .normal { tmps := #[u0, u1, u2, u3, u4, .pointer (some ⟨d, 0, none⟩), u6, .pointer (some ⟨p, 0, none⟩), u8, .pointer (some ⟨b, 0, none⟩), u10, u11, u12, u13, u14, u15, u16, u17, u18, u19, u20, u21, u22, u23, u24, u25, u26, u27, u28, u29, u30, u31, u32, u33, u34, u35, u36, u37, u38, u39, u40, u41, u42, u43, u44, u45, u46, u47, u48, u49, u50, u51, v52, v53, v54, v55, v56, v57, v58, v59, v60, v61, v62, v63, v64, v65, v66, v67, v68, v69, v70, v71, v72, v73, .bool false, u75, u76, u77, u78], defers := D } W) :
    (fragR Try.f5 12).wp Try.prog Q { tmps := #[u0, u1, u2, u3, u4, .pointer (some ⟨d, 0, none⟩), u6, .pointer (some ⟨p, 0, none⟩), u8, .pointer (some ⟨b, 0, none⟩), u10, u11, u12, u13, u14, u15, u16, u17, u18, u19, u20, u21, u22, u23, u24, u25, u26, u27, u28, u29, u30, u31, u32, u33, u34, u35, u36, u37, u38, u39, u40, u41, u42, u43, u44, u45, u46, u47, u48, u49, u50, u51, u52, u53, u54, u55, u56, u57, u58, u59, u60, u61, u62, u63, u64, u65, u66, u67, u68, u69, u70, u71, u72, u73, u74, u75, u76, u77, u78], defers := D } w := by
  dsimp only at hK ⊢
  rw [show fragR Try.f5 12 = Code.region _ (List.toArray _) true from rfl]
  refine wp_region_st 79 [3] [52, 53, 54, 55, 56, 57, 58, 59, 60, 61, 62, 63, 64, 65, 66, 67, 68, 69, 70, 71, 72, 73, 74] (phiOf [QV (.pointer (some ⟨d, 0, none⟩)), QV (.pointer (some ⟨p, 0, none⟩)), QV (.agg #[.int .i64 q.1, .int .i64 q.2.1, .int .u8 (q.2.2.toNat : Nat)]), QV (.bool true), QV (.bool false), QV (.bool false), QV (.pointer (some ⟨d, 0, none⟩)), QV (.bool (S.act q).down), QV (.pointer (some ⟨p, 0, none⟩)), QV (.pointer (some ⟨p, 0, none⟩)), QV (.pointer (some ⟨p, 4, none⟩)), QV (.bool (S.act q).down), QV (.bool false), QV (.bool false), QV (.bool false), QV (.pointer (some ⟨d, 0, none⟩)), QV (.int .i64 (S.act q).steps), QV (.pointer (some ⟨p, 0, none⟩)), QV (.pointer (some ⟨p, 0, none⟩)), QV (.pointer (some ⟨p, 2, none⟩)), QV (.int .i64 (S.act q).steps), QV (.bool false), QV (.bool false)]) (gOf [fun W => Below w.heap.size w W, fun W => Fin w F G d p (S.act q) W]) (tOf [fun k => F k ∨ G k]) (fun k => F k ∨ G k) (by kernel_rfl) (by kernel_rfl) (by kernel_rfl) rfl ?r12TT (phi_st ?r12st) (gOf_stays ?r12G) ?r12G0 ?r12g ?r12op ?r12fin
  case r12TT =>
    refine tOf_in ?_
    simp only [List.forall_mem_cons]; exact ⟨fun b hb => hb, fun _ h => by cases h⟩
  case r12st => exact ⟨stq _ _ _ _, stq _ _ _ _, stq _ _ _ _, stq _ _ _ _, stq _ _ _ _, stq _ _ _ _, stq _ _ _ _, stq _ _ _ _, stq _ _ _ _, stq _ _ _ _, stq _ _ _ _, stq _ _ _ _, stq _ _ _ _, stq _ _ _ _, stq _ _ _ _, stq _ _ _ _, stq _ _ _ _, stq _ _ _ _, stq _ _ _ _, stq _ _ _ _, stq _ _ _ _, stq _ _ _ _, stq _ _ _ _, trivial⟩
  case r12G => simp only [List.forall_mem_cons]; exact ⟨fun W W' h hb => below_cat hb h, fun W W' h hb => h.below hb, fun _ h => by cases h⟩
  case r12G0 => exact (Below.refl _ _).drew
  case r12g =>
    refine guards_on [(5, false), (14, false)] (by kernel_rfl) ?_
    intro p hp
    simp only [List.mem_cons, List.not_mem_nil, or_false] at hp
    rcases hp with rfl | rfl <;> (intro v W h; exact .inl h)
  case r12op =>
    refine ⟨fun s a W hlo hhi hG hkT hold hdep hgv => ?_, ?_⟩
    · show OpOk _ _ _ _ _
      have h5 : a.tmps.getD 5 undef = .pointer (some ⟨d, 0, none⟩) := (hold 5 (by kernel_rfl)).trans rfl
      unfold OpOk
      simp [execOp, go_sem, eval_tmp, eval_const, eval_func, h5]
      exact ⟨Below.refl _ _, rfl⟩
    refine ⟨fun s a W hlo hhi hG hkT hold hdep hgv => ?_, ?_⟩
    · show OpOk _ _ _ _ _
      have h7 : a.tmps.getD 7 undef = .pointer (some ⟨p, 0, none⟩) := (hold 7 (by kernel_rfl)).trans rfl
      unfold OpOk
      simp [execOp, go_sem, eval_tmp, eval_const, eval_func, h7]
      exact ⟨Below.refl _ _, rfl⟩
    refine ⟨fun s a W hlo hhi hG hkT hold hdep hgv => ?_, ?_⟩
    · obtain rfl : s = 0 := Nat.le_zero.1 (Nat.le_trans hhi (Nat.le_of_eq (by kernel_rfl)))
      show OpOk _ _ _ _ _
      replace hG : Below w.heap.size w W := hG
      have h9 : a.tmps.getD 9 undef = .pointer (some ⟨b, 0, none⟩) := (hold 9 (by kernel_rfl)).trans rfl
      exact opOk_load 29 _ rfl b (by rw [eval_tmp, h9]) 29 (#[.int .i64 q.1, .int .i64 q.2.1, .int .u8 (q.2.2.toNat : Nat)]) _ (rb.out.below hG rb.out.lt) Try.underlying29 rfl (infoAct) rfl
    refine ⟨fun s a W hlo hhi hG hkT hold hdep hgv => ?_, ?_⟩
    · obtain rfl : s = 0 := Nat.le_antisymm (Nat.le_trans hhi (Nat.le_of_eq (by kernel_rfl))) (Nat.le_trans (Nat.le_of_eq (by kernel_rfl)) hlo)
      show OpR _ _ _ _ _
      replace hG : (fun W => Below w.heap.size w W) W := hG
      have h52 : a.tmps.getD 52 undef = .pointer (some ⟨d, 0, none⟩) := hdep 0 52 (by kernel_rfl) rfl
      have h53 : a.tmps.getD 53 undef = .pointer (some ⟨p, 0, none⟩) := hdep 1 53 (by kernel_rfl) rfl
      have h54 : a.tmps.getD 54 undef = .agg #[.int .i64 q.1, .int .i64 q.2.1, .int .u8 (q.2.2.toNat : Nat)] := hdep 2 54 (by kernel_rfl) rfl
      unfold OpR
      simp [execOp, go_sem, eval_tmp, eval_const, eval_func, h52, h53, h54]
      refine (do_any (hp.out.below hG) hok.out q hq).mono ?_
      rintro e W2 ⟨rfl, ht⟩
      exact ⟨_, rfl, ht.2, ht.1.from hG.size, rfl⟩
    refine ⟨fun s a W hlo hhi hG hkT hold hdep hgv => ?_, ?_⟩
    · show OpOk _ _ _ _ _
      have h55 : a.tmps.getD 55 undef = .bool true := hdep 3 55 (by kernel_rfl) rfl
      unfold OpOk
      simp [execOp, go_sem, eval_tmp, eval_const, eval_func, h55]
      exact ⟨Below.refl _ _, rfl⟩
    refine ⟨fun s a W hlo hhi hG hkT hold hdep hgv => ?_, ?_⟩
    · show OpOk _ _ _ _ _
      have h56 : a.tmps.getD 56 undef = .bool false := hdep 4 56 (by kernel_rfl) rfl
      unfold OpOk
      simp [execOp, go_sem, eval_tmp, eval_const, eval_func, h56]
      exact ⟨Below.refl _ _, rfl⟩
    refine ⟨fun s a W hlo hhi hG hkT hold hdep hgv => ?_, ?_⟩
    · show OpOk _ _ _ _ _
      have h5 : a.tmps.getD 5 undef = .pointer (some ⟨d, 0, none⟩) := (hold 5 (by kernel_rfl)).trans rfl
      unfold OpOk
      simp [execOp, go_sem, eval_tmp, eval_const, eval_func, h5]
      exact ⟨Below.refl _ _, rfl⟩
    refine ⟨fun s a W hlo hhi hG hkT hold hdep hgv => ?_, ?_⟩
    · show OpOk _ _ _ _ _
      have h58 : a.tmps.getD 58 undef = .pointer (some ⟨d, 0, none⟩) := hdep 6 58 (by kernel_rfl) rfl
      obtain rfl : s = 1 := Nat.le_antisymm (Nat.le_trans hhi (Nat.le_of_eq (by kernel_rfl))) (Nat.le_trans (Nat.le_of_eq (by kernel_rfl)) hlo)
      obtain ⟨F', G', hp', _⟩ := id hG
      unfold OpOk
      simp [execOp, go_sem, eval_tmp, eval_const, eval_func, h58]
      refine (down_any hp'.dk).mono ?_
      rintro e W2 ⟨rfl, rfl⟩
      exact ⟨_, rfl, Below.refl _ _, rfl⟩
    refine ⟨fun s a W hlo hhi hG hkT hold hdep hgv => ?_, ?_⟩
    · show OpOk _ _ _ _ _
      have h7 : a.tmps.getD 7 undef = .pointer (some ⟨p, 0, none⟩) := (hold 7 (by kernel_rfl)).trans rfl
      unfold OpOk
      simp [execOp, go_sem, eval_tmp, eval_const, eval_func, h7]
      exact ⟨Below.refl _ _, rfl⟩
    refine ⟨fun s a W hlo hhi hG hkT hold hdep hgv => ?_, ?_⟩
    · show OpOk _ _ _ _ _
      have h60 : a.tmps.getD 60 undef = .pointer (some ⟨p, 0, none⟩) := hdep 8 60 (by kernel_rfl) rfl
      unfold OpOk
      simp [execOp, go_sem, eval_tmp, eval_const, eval_func, h60]
      exact ⟨Below.refl _ _, rfl⟩
    refine ⟨fun s a W hlo hhi hG hkT hold hdep hgv => ?_, ?_⟩
    · show OpOk _ _ _ _ _
      have h61 : a.tmps.getD 61 undef = .pointer (some ⟨p, 0, none⟩) := hdep 9 61 (by kernel_rfl) rfl
      unfold OpOk
      simp [execOp, go_sem, eval_tmp, eval_const, eval_func, h61]
      exact ⟨Below.refl _ _, rfl⟩
    refine ⟨fun s a W hlo hhi hG hkT hold hdep hgv => ?_, ?_⟩
    · show OpOk _ _ _ _ _
      have h62 : a.tmps.getD 62 undef = .pointer (some ⟨p, 4, none⟩) := hdep 10 62 (by kernel_rfl) rfl
      obtain rfl : s = 1 := Nat.le_antisymm (Nat.le_trans hhi (Nat.le_of_eq (by kernel_rfl))) (Nat.le_trans (Nat.le_of_eq (by kernel_rfl)) hlo)
      obtain ⟨F', G', hp', _⟩ := id hG
      obtain ⟨L, v, hrk, _⟩ := hp'.rk
      have hc : W.cell? ⟨p, 4, none⟩ = some (.bool (S.act q).down) := hrk.row.cell rfl
      unfold OpOk
      simp [execOp, go_sem, eval_tmp, eval_const, eval_func, h62, hc]
      exact ⟨Below.refl _ _, rfl⟩
    refine ⟨fun s a W hlo hhi hG hkT hold hdep hgv => ?_, ?_⟩
    · show OpOk _ _ _ _ _
      have h59 : a.tmps.getD 59 undef = .bool (S.act q).down := hdep 7 59 (by kernel_rfl) rfl
      have h63 : a.tmps.getD 63 undef = .bool (S.act q).down := hdep 11 63 (by kernel_rfl) rfl
      unfold OpOk
      simp [execOp, go_sem, eval_tmp, eval_const, eval_func, h59, h63]
      exact ⟨Below.refl _ _, rfl⟩
    refine ⟨fun s a W hlo hhi hG hkT hold hdep hgv => ?_, ?_⟩
    · show OpOk _ _ _ _ _
      have h57 : a.tmps.getD 57 undef = .bool false := hdep 5 57 (by kernel_rfl) rfl
      have h64 : a.tmps.getD 64 undef = .bool false := hdep 12 64 (by kernel_rfl) rfl
      unfold OpOk
      simp [execOp, go_sem, eval_tmp, eval_const, eval_func, h57, h64]
      exact ⟨Below.refl _ _, rfl⟩
    refine ⟨fun s a W hlo hhi hG hkT hold hdep hgv => ?_, ?_⟩
    · show OpOk _ _ _ _ _
      have h65 : a.tmps.getD 65 undef = .bool false := hdep 13 65 (by kernel_rfl) rfl
      unfold OpOk
      simp [execOp, go_sem, eval_tmp, eval_const, eval_func, h65]
      exact ⟨Below.refl _ _, rfl⟩
    refine ⟨fun s a W hlo hhi hG hkT hold hdep hgv => ?_, ?_⟩
    · show OpOk _ _ _ _ _
      have h5 : a.tmps.getD 5 undef = .pointer (some ⟨d, 0, none⟩) := (hold 5 (by kernel_rfl)).trans rfl
      unfold OpOk
      simp [execOp, go_sem, eval_tmp, eval_const, eval_func, h5]
      exact ⟨Below.refl _ _, rfl⟩
    refine ⟨fun s a W hlo hhi hG hkT hold hdep hgv => ?_, ?_⟩
    · show OpOk _ _ _ _ _
      have h67 : a.tmps.getD 67 undef = .pointer (some ⟨d, 0, none⟩) := hdep 15 67 (by kernel_rfl) rfl
      obtain rfl : s = 1 := Nat.le_antisymm (Nat.le_trans hhi (Nat.le_of_eq (by kernel_rfl))) (Nat.le_trans (Nat.le_of_eq (by kernel_rfl)) hlo)
      obtain ⟨F', G', hp', _⟩ := id hG
      unfold OpOk
      simp [execOp, go_sem, eval_tmp, eval_const, eval_func, h67]
      refine (steps_any hp'.dk).mono ?_
      rintro e W2 ⟨rfl, rfl⟩
      exact ⟨_, rfl, Below.refl _ _, rfl⟩
    refine ⟨fun s a W hlo hhi hG hkT hold hdep hgv => ?_, ?_⟩
    · show OpOk _ _ _ _ _
      have h7 : a.tmps.getD 7 undef = .pointer (some ⟨p, 0, none⟩) := (hold 7 (by kernel_rfl)).trans rfl
      unfold OpOk
      simp [execOp, go_sem, eval_tmp, eval_const, eval_func, h7]
      exact ⟨Below.refl _ _, rfl⟩
    refine ⟨fun s a W hlo hhi hG hkT hold hdep hgv => ?_, ?_⟩
    · show OpOk _ _ _ _ _
      have h69 : a.tmps.getD 69 undef = .pointer (some ⟨p, 0, none⟩) := hdep 17 69 (by kernel_rfl) rfl
      unfold OpOk
      simp [execOp, go_sem, eval_tmp, eval_const, eval_func, h69]
      exact ⟨Below.refl _ _, rfl⟩
    refine ⟨fun s a W hlo hhi hG hkT hold hdep hgv => ?_, ?_⟩
    · show OpOk _ _ _ _ _
      have h70 : a.tmps.getD 70 undef = .pointer (some ⟨p, 0, none⟩) := hdep 18 70 (by kernel_rfl) rfl
      unfold OpOk
      simp [execOp, go_sem, eval_tmp, eval_const, eval_func, h70]
      exact ⟨Below.refl _ _, rfl⟩
    refine ⟨fun s a W hlo hhi hG hkT hold hdep hgv => ?_, ?_⟩
    · show OpOk _ _ _ _ _
      have h71 : a.tmps.getD 71 undef = .pointer (some ⟨p, 2, none⟩) := hdep 19 71 (by kernel_rfl) rfl
      obtain rfl : s = 1 := Nat.le_antisymm (Nat.le_trans hhi (Nat.le_of_eq (by kernel_rfl))) (Nat.le_trans (Nat.le_of_eq (by kernel_rfl)) hlo)
      obtain ⟨F', G', hp', _⟩ := id hG
      obtain ⟨L, v, hrk, _⟩ := hp'.rk
      have hc : W.cell? ⟨p, 2, none⟩ = some (.int .i64 (S.act q).steps) := hrk.row.cell rfl
      unfold OpOk
      simp [execOp, go_sem, eval_tmp, eval_const, eval_func, h71, hc]
      exact ⟨Below.refl _ _, rfl⟩
    refine ⟨fun s a W hlo hhi hG hkT hold hdep hgv => ?_, ?_⟩
    · show OpOk _ _ _ _ _
      have h68 : a.tmps.getD 68 undef = .int .i64 (S.act q).steps := hdep 16 68 (by kernel_rfl) rfl
      have h72 : a.tmps.getD 72 undef = .int .i64 (S.act q).steps := hdep 20 72 (by kernel_rfl) rfl
      unfold OpOk
      simp [execOp, go_sem, eval_tmp, eval_const, eval_func, h68, h72]
      exact ⟨Below.refl _ _, rfl⟩
    refine ⟨fun s a W hlo hhi hG hkT hold hdep hgv => ?_, ?_⟩
    · show OpOk _ _ _ _ _
      have h66 : a.tmps.getD 66 undef = .bool false := hdep 14 66 (by kernel_rfl) rfl
      have h73 : a.tmps.getD 73 undef = .bool false := hdep 21 73 (by kernel_rfl) rfl
      unfold OpOk
      simp [execOp, go_sem, eval_tmp, eval_const, eval_func, h66, h73]
      exact ⟨Below.refl _ _, rfl⟩
    trivial
  case r12fin =>
    intro X W hG hkT hX
    replace hG : (fun W => Fin w F G d p (S.act q) W) W := hG
    have e52 : X 52 = .pointer (some ⟨d, 0, none⟩) := hX 0 52 (by decide) rfl
    have e53 : X 53 = .pointer (some ⟨p, 0, none⟩) := hX 1 53 (by decide) rfl
    have e54 : X 54 = .agg #[.int .i64 q.1, .int .i64 q.2.1, .int .u8 (q.2.2.toNat : Nat)] := hX 2 54 (by decide) rfl
    have e55 : X 55 = .bool true := hX 3 55 (by decide) rfl
    have e56 : X 56 = .bool false := hX 4 56 (by decide) rfl
    have e57 : X 57 = .bool false := hX 5 57 (by decide) rfl
    have e58 : X 58 = .pointer (some ⟨d, 0, none⟩) := hX 6 58 (by decide) rfl
    have e59 : X 59 = .bool (S.act q).down := hX 7 59 (by decide) rfl
    have e60 : X 60 = .pointer (some ⟨p, 0, none⟩) := hX 8 60 (by decide) rfl
    have e61 : X 61 = .pointer (some ⟨p, 0, none⟩) := hX 9 61 (by decide) rfl
    have e62 : X 62 = .pointer (some ⟨p, 4, none⟩) := hX 10 62 (by decide) rfl
    have e63 : X 63 = .bool (S.act q).down := hX 11 63 (by decide) rfl
    have e64 : X 64 = .bool false := hX 12 64 (by decide) rfl
    have e65 : X 65 = .bool false := hX 13 65 (by decide) rfl
    have e66 : X 66 = .bool false := hX 14 66 (by decide) rfl
    have e67 : X 67 = .pointer (some ⟨d, 0, none⟩) := hX 15 67 (by decide) rfl
    have e68 : X 68 = .int .i64 (S.act q).steps := hX 16 68 (by decide) rfl
    have e69 : X 69 = .pointer (some ⟨p, 0, none⟩) := hX 17 69 (by decide) rfl
    have e70 : X 70 = .pointer (some ⟨p, 0, none⟩) := hX 18 70 (by decide) rfl
    have e71 : X 71 = .pointer (some ⟨p, 2, none⟩) := hX 19 71 (by decide) rfl
    have e72 : X 72 = .int .i64 (S.act q).steps := hX 20 72 (by decide) rfl
    have e73 : X 73 = .bool false := hX 21 73 (by decide) rfl
    have e74 : X 74 = .bool false := hX 22 74 (by decide) rfl
    clear hX
    simp only [List.map_cons, List.map_nil, putAll, List.foldl_cons, List.foldl_nil, List.setIfInBounds_toArray, List.set_cons_zero, List.set_cons_succ, e52, e53, e54, e55, e56, e57, e58, e59, e60, e61, e62, e63, e64, e65, e66, e67, e68, e69, e70, e71, e72, e73, e74]
    clear e52 e53 e54 e55 e56 e57 e58 e59 e60 e61 e62 e63 e64 e65 e66 e67 e68 e69 e70 e71 e72 e73 e74
    exact hK _ _ _ _ _ _ _ _ _ _ _ _ _ _ _ _ _ _ _ _ _ _ _ hG hkT

end Go.Proofs.Ytaofpeajfgcjcaa