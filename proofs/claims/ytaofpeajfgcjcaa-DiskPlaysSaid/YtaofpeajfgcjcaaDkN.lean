/- Disk: what Sync does with one sector: its region that draws its order. Printed by wip/tools/mkDkN.py. -/
import Derived.Test.YtaofpeajfgcjcaaDkM
import Derived.Maps.RangeWalk
namespace Go.Proofs.Ytaofpeajfgcjcaa
open Go Go.RowKit Go.Maps
set_option linter.unusedSimpArgs false
set_option linter.unusedVariables false

theorem opR_store_midrow {P : Program} {o : Oper} {a : Act} {w : World} {Ψ : Value → World → Prop} (ty : TypeId) (x y : Operand) (ho : o.op = .store ty x y) (b off : Nat) (cells cur : Array Value) (t : TypeId) (hx : a.eval x = .pointer (some ⟨b, off, none⟩)) (hy : a.eval y = .agg cells)
    (hb : RowAt w b t cur) (hfit : off + cells.size ≤ cur.size) (hi : (P.info? ty).map (·.size) = some cells.size) (h1 : cells.all (·.oneCell') = true) (h : Ψ undef (w.setRow b (cur.toList.take off ++ cells.toList ++ cur.toList.drop (off + cells.toList.length)).toArray)) : OpR P o a w Ψ := by
  have hst := run_storeCells_at P b off t cells.toList 0 cur w hb (by simpa using hfit) (all_list h1)
  have hr : (storeVar ty ⟨b, off, none⟩ (.agg cells)).run P w = .ok () (w.setRow b (cur.toList.take off ++ cells.toList ++ cur.toList.drop (off + cells.toList.length)).toArray) := by
    cases hq : P.info? ty with
    | none => rw [hq] at hi; cases hi
    | some i =>
      have hs : i.size = cells.size := by simpa [hq] using hi
      simp only [Nat.add_zero] at hst
      simp [storeVar, sizeOf, typeInfo, hq, Value.cells, hs, hst]
  unfold OpR execOp
  simp only [ho, hx, hy, Instr.storeAt, Instr.sureAddr, Sem.run_bind, Sem.run_pure, Result.andThen_ok, hr]
  exact h

set_option maxRecDepth 1000000 in
set_option maxHeartbeats 4000000 in
theorem sync_r10 {d L b n : Nat} {l : Nat → UInt8} {x1 x2 x3 x4 x5 : Value} {p : Nat × Blk} {w : World} (hp : p.1 < n) (hn : n ≤ 4096) (rd : Hid (RowAt w d 57 #[.slice (some ⟨L, 0, none⟩) n n, x1, x2, x3, x4, x5])) (rb : Hid (RowAt w b 32 (blkA p.2))) (rL : Hid (RowAt w L 32 (lastsA n l))) {Q : Exit → Act → World → Prop} (u1 u2 u3 u4 u7 u8 u9 u10 u11 u12 u13 u14 u15 u16 u17 u18 u19 u20 u21 u22 u23 u24 u25 u26 u27 u28 u29 u30 u31 u32 u33 u34 u35 u36 u37 u38 u39 u40 : Value)
    (hK : ∀ (v27 v28 v29 v30 v31 v32 v33 : Value) (W : World), RowAt W L 32 (lastsA n (ovl l p.1 128 p.2)) → Kept (fun k => k = L) w W → Q .normal { tmps := #[.pointer (some ⟨d, 0, none⟩), u1, u2, u3, u4, .int .i64 (p.1 : Nat), .pointer (some ⟨b, 0, none⟩), u7, u8, u9, u10, u11, u12, u13, u14, u15, u16, u17, u18, u19, u20, u21, u22, u23, u24, u25, u26, v27, v28, v29, v30, v31, v32, v33, u34, u35, u36, u37, u38, u39, u40], defers := [] } W) :
    (fragR Try.f13 10).wp Try.prog Q { tmps := #[.pointer (some ⟨d, 0, none⟩), u1, u2, u3, u4, .int .i64 (p.1 : Nat), .pointer (some ⟨b, 0, none⟩), u7, u8, u9, u10, u11, u12, u13, u14, u15, u16, u17, u18, u19, u20, u21, u22, u23, u24, u25, u26, u27, u28, u29, u30, u31, u32, u33, u34, u35, u36, u37, u38, u39, u40], defers := [] } w := by
  dsimp only at hK ⊢
  rw [show fragR Try.f13 10 = Code.region _ (List.toArray _) true from rfl]
  have i1 : (0 : Int) ≤ (p.1 : Int) := by omega
  have i2 : (p.1 : Int) < (n : Int) := by omega
  refine wp_region_st 41 [7] [27, 28, 29, 30, 31, 32, 33] (phiOf [QV (.pointer (some ⟨d, 0, none⟩)), QV (.pointer (some ⟨d, 0, none⟩)), QV (.pointer (some ⟨d, 0, none⟩)), QV (.slice (some ⟨L, 0, none⟩) n n), QV (.int .i64 (p.1 : Nat)), QV (.agg (blkA p.2)), QV (.pointer (some ⟨L, p.1 * 128, none⟩)), QV (undef)]) (gOf [fun W => Below w.heap.size w W, fun W => RowAt W L 32 (lastsA n (ovl l p.1 128 p.2))]) (tOf [fun k => k = L]) (fun k => k = L) (by kernel_rfl) (by kernel_rfl) (by kernel_rfl) rfl ?r10TT (phi_st ?r10st) (gOf_stays ?r10G) ?r10G0 ?r10g ?r10op ?r10fin
  case r10TT =>
    refine tOf_in ?_
    simp only [List.forall_mem_cons]; exact ⟨fun b hb => hb, fun _ h => by cases h⟩
  case r10st => exact ⟨stq _ _ _ _, stq _ _ _ _, stq _ _ _ _, stq _ _ _ _, stq _ _ _ _, stq _ _ _ _, stq _ _ _ _, stq _ _ _ _, trivial⟩
  case r10G => simp only [List.forall_mem_cons]; exact ⟨fun W W' h hb => below_cat hb h, fun W W' h hb => h.below hb h.lt, fun _ h => by cases h⟩
  case r10G0 => exact (Below.refl _ _).drew
  case r10g => exact no_guards rfl
  case r10op =>
    refine ⟨fun s a W hlo hhi hG hkT hold hdep hgv => ?_, ?_⟩
    · show OpOk _ _ _ _ _
      have h0 : a.tmps.getD 0 undef = .pointer (some ⟨d, 0, none⟩) := (hold 0 (by kernel_rfl)).trans rfl
      unfold OpOk
      simp [execOp, go_sem, eval_tmp, eval_const, eval_func, h0]
      exact ⟨Below.refl _ _, rfl⟩
    refine ⟨fun s a W hlo hhi hG hkT hold hdep hgv => ?_, ?_⟩
    · show OpOk _ _ _ _ _
      have h27 : a.tmps.getD 27 undef = .pointer (some ⟨d, 0, none⟩) := hdep 0 27 (by kernel_rfl) rfl
      unfold OpOk
      simp [execOp, go_sem, eval_tmp, eval_const, eval_func, h27]
      exact ⟨Below.refl _ _, rfl⟩
    refine ⟨fun s a W hlo hhi hG hkT hold hdep hgv => ?_, ?_⟩
    · show OpOk _ _ _ _ _
      have h28 : a.tmps.getD 28 undef = .pointer (some ⟨d, 0, none⟩) := hdep 1 28 (by kernel_rfl) rfl
      unfold OpOk
      simp [execOp, go_sem, eval_tmp, eval_const, eval_func, h28]
      exact ⟨Below.refl _ _, rfl⟩
    refine ⟨fun s a W hlo hhi hG hkT hold hdep hgv => ?_, ?_⟩
    · obtain rfl : s = 0 := Nat.le_zero.1 (Nat.le_trans hhi (Nat.le_of_eq (by kernel_rfl)))
      show OpOk _ _ _ _ _
      replace hG : Below w.heap.size w W := hG
      have h29 : a.tmps.getD 29 undef = .pointer (some ⟨d, 0, none⟩) := hdep 2 29 (by kernel_rfl) rfl
      have hc : W.cell? ⟨d, 0, none⟩ = some (.slice (some ⟨L, 0, none⟩) n n) := (rd.out.below hG rd.out.lt).cell rfl
      unfold OpOk
      simp [execOp, go_sem, eval_tmp, eval_const, eval_func, h29, hc]
      exact ⟨Below.refl _ _, rfl⟩
    refine ⟨fun s a W hlo hhi hG hkT hold hdep hgv => ?_, ?_⟩
    · show OpOk _ _ _ _ _
      have h5 : a.tmps.getD 5 undef = .int .i64 (p.1 : Nat) := (hold 5 (by kernel_rfl)).trans rfl
      unfold OpOk
      simp [execOp, go_sem, eval_tmp, eval_const, eval_func, h5]
      exact ⟨Below.refl _ _, rfl⟩
    refine ⟨fun s a W hlo hhi hG hkT hold hdep hgv => ?_, ?_⟩
    · obtain rfl : s = 0 := Nat.le_zero.1 (Nat.le_trans hhi (Nat.le_of_eq (by kernel_rfl)))
      show OpOk _ _ _ _ _
      replace hG : Below w.heap.size w W := hG
      have h6 : a.tmps.getD 6 undef = .pointer (some ⟨b, 0, none⟩) := (hold 6 (by kernel_rfl)).trans rfl
      exact opOk_load 32 _ rfl b (by rw [eval_tmp, h6]) 32 (blkA p.2) _ (rb.out.below hG rb.out.lt) Try.underlying32 rfl (infoBlkCs _) rfl
    refine ⟨fun s a W hlo hhi hG hkT hold hdep hgv => ?_, ?_⟩
    · obtain rfl : s = 0 := Nat.le_zero.1 (Nat.le_trans hhi (Nat.le_of_eq (by kernel_rfl)))
      show OpOk _ _ _ _ _
      replace hG : Below w.heap.size w W := hG
      have h30 : a.tmps.getD 30 undef = .slice (some ⟨L, 0, none⟩) n n := hdep 3 30 (by kernel_rfl) rfl
      have h31 : a.tmps.getD 31 undef = .int .i64 (p.1 : Nat) := hdep 4 31 (by kernel_rfl) rfl
      unfold OpOk
      simp [execOp, go_sem, eval_tmp, eval_const, eval_func, h30, h31, i1, i2]
      exact ⟨Below.refl _ _, rfl⟩
    refine ⟨fun s a W hlo hhi hG hkT hold hdep hgv => ?_, ?_⟩
    · obtain rfl : s = 0 := Nat.le_antisymm (Nat.le_trans hhi (Nat.le_of_eq (by kernel_rfl))) (Nat.le_trans (Nat.le_of_eq (by kernel_rfl)) hlo)
      show OpR _ _ _ _ _
      replace hG : (fun W => Below w.heap.size w W) W := hG
      have h33 : a.tmps.getD 33 undef = .pointer (some ⟨L, p.1 * 128, none⟩) := hdep 6 33 (by kernel_rfl) rfl
      have h32 : a.tmps.getD 32 undef = .agg (blkA p.2) := hdep 5 32 (by kernel_rfl) rfl
      have hov := lasts_ovl n l p.1 128 p.2 hp (Nat.le_refl _)
      rw [show (blkA p.2).toList.take 128 = (blkA p.2).toList from List.take_of_length_le (by rw [Array.length_toList, blkA_size]; exact Nat.le_refl _)] at hov
      refine opR_store_midrow 32 (.tmp 33) (.tmp 32) rfl L (p.1 * 128) (blkA p.2) (lastsA n l) 32 h33 h32 (rL.out.below hG rL.out.lt) (by rw [blkA_size, lastsA_size]; omega) (infoBlkCs _) (blkA_one _) ?_
      rw [hov]
      exact ⟨⟨rfl, rfl, rfl, by simp, fun k hk hs => setRow_other W L k _ hs⟩, (rL.out.below hG rL.out.lt).setRow _, rfl⟩
    trivial
  case r10fin =>
    intro X W hG hkT hX
    replace hG : (fun W => RowAt W L 32 (lastsA n (ovl l p.1 128 p.2))) W := hG
    have e27 : X 27 = .pointer (some ⟨d, 0, none⟩) := hX 0 27 (by decide) rfl
    have e28 : X 28 = .pointer (some ⟨d, 0, none⟩) := hX 1 28 (by decide) rfl
    have e29 : X 29 = .pointer (some ⟨d, 0, none⟩) := hX 2 29 (by decide) rfl
    have e30 : X 30 = .slice (some ⟨L, 0, none⟩) n n := hX 3 30 (by decide) rfl
    have e31 : X 31 = .int .i64 (p.1 : Nat) := hX 4 31 (by decide) rfl
    have e32 : X 32 = .agg (blkA p.2) := hX 5 32 (by decide) rfl
    have e33 : X 33 = .pointer (some ⟨L, p.1 * 128, none⟩) := hX 6 33 (by decide) rfl
    clear hX
    simp only [List.map_cons, List.map_nil, putAll, List.foldl_cons, List.foldl_nil, List.setIfInBounds_toArray, List.set_cons_zero, List.set_cons_succ, e27, e28, e29, e30, e31, e32, e33]
    clear e27 e28 e29 e30 e31 e32 e33
    exact hK _ _ _ _ _ _ _ _ hG hkT

end Go.Proofs.Ytaofpeajfgcjcaa