/- The document's disk: the regions of Write, Sync and Crash that draw their order. Printed by wip/tools/mkDrC.py. -/
import Derived.Test.YtaofpeajfgcjcaaDrB
namespace Go.Proofs.Ytaofpeajfgcjcaa
open Go Go.RowKit Go.Maps
set_option linter.unusedSimpArgs false
set_option linter.unusedVariables false

theorem zeroI_rwr : ((Try.prog.info? 68).bind (·.zero)).map (fun z => z.cells.size) = some 129 := by kernel_rfl
theorem places_rwr : ∃ fs : Array Field, Try.prog.underlying 68 = some (.struct fs) ∧ fs.toList.mapM (fun f => (Try.prog.info? f.type).map fun i => (f.offset, i.size)) = some [(0, 1), (1, 128)] := ⟨_, Try.underlying68, by kernel_rfl⟩
theorem built_rwr (p : Nat × Blk) : Try.prog.built 68 [(0, .int .i64 (p.1 : Nat)), (1, .agg (blkA p.2))] = some (wrA p) := by
  obtain ⟨fs, hu, hp⟩ := places_rwr
  have hz := zeroI_rwr
  unfold Program.built
  cases hit : Try.prog.info? 68 with
  | none => rw [hit] at hz; cases hz
  | some it =>
    rw [hit] at hz
    simp only [Option.bind_some] at hz
    cases hzz : it.zero with
    | none => rw [hzz] at hz; cases hz
    | some z =>
      rw [hzz] at hz
      have hzs : z.cells.size = 129 := by simpa using hz
      simp only [hu, hzz, hp]
      generalize z.cells = Z at hzs ⊢
      have e0 : (Value.int .i64 (p.1 : Nat)).cells = #[.int .i64 (p.1 : Nat)] := rfl
      have e1 : (Value.agg (blkA p.2)).cells = blkA p.2 := rfl
      rw [fill_cons (v := .int .i64 (p.1 : Nat)) (off := 0) rfl (by rw [e0]; simp; omega), fill_cons (v := .agg (blkA p.2)) (off := 1) (by rw [e1, blkA_size]; rfl) (by rw [fold_put_size, e1, blkA_size]; omega), Instr.fill]
      congr 1
      apply Array.ext_getElem?
      intro i
      rw [fold_put_get 1 _ 0 _ i (by rw [fold_put_size, e1, Array.length_toList, blkA_size]; omega), e0, e1]
      simp only [Array.length_toList, blkA_size, Nat.add_zero]
      by_cases h1 : 1 ≤ i ∧ i < 1 + 128
      · rw [if_pos h1]
        obtain ⟨j, rfl⟩ : ∃ j, i = j + 1 := ⟨i - 1, by omega⟩
        rw [wrA_get]; simp
      · rw [if_neg h1, fold_put_get 0 _ 0 _ i (by simp; omega)]
        by_cases h2 : i = 0
        · subst h2; rw [if_pos (by simp), wrA_get0]; simp
        · rw [if_neg (by simp; omega), Array.getElem?_eq_none (by omega), Array.getElem?_eq_none (by rw [wrA_size]; omega)]
theorem build_rwr (p : Nat × Blk) (w : World) : (Instr.build 68 #[(0, .int .i64 (p.1 : Nat)), (1, .agg (blkA p.2))]).run Try.prog w = .ok (.agg (wrA p)) w := run_build w _ _ _ (built_rwr p)
theorem infoR1 : (Try.prog.info? 68).map (fun i => (i.zero.isSome, i.size)) = some (true, 129) := by kernel_rfl
theorem buildSlice_rwr (p : Nat × Blk) (w : World) : (Instr.buildSlice 48 1 #[(0, .agg (wrA p))]).run Try.prog w = .ok (.slice (some ⟨w.heap.size, 0, none⟩) 1 1) (w.alloc (.cells (wrA p) 68)) :=
  run_buildSlice1 w _ _ (wrA p) Try.underlying48 (by rw [wrA_size]; exact infoR1) (by rw [wrA_size]; omega) (by rw [wrA_size]; omega)
theorem infoRSl : (Try.prog.info? 48).map (·.size) = some 1 := by kernel_rfl
theorem infoRWr : (Try.prog.info? 68).map (fun i => (i.zero.map fun z => z.cells.size, i.size, i.bytes)) = some (some 129, 129, 136) := by kernel_rfl
unseal blkA lastsA in
/-- One byte more is done. -/
theorem lasts_one (n : Nat) (l : Nat → UInt8) (a i : Nat) (b : Blk) : (lastsA n (ovl l a i b)).setIfInBounds (a * 128 + i) (u8c (b i)) = lastsA n (ovl l a (i + 1) b) := by
  unfold lastsA
  rw [rowA_set]
  refine rowA_ext fun j hj => ?_
  unfold ovl
  by_cases e : j = a * 128 + i
  · subst e
    rw [if_pos rfl, if_pos (by omega), show a * 128 + i - a * 128 = i by omega]
  · rw [if_neg e]
    by_cases h : a * 128 ≤ j ∧ j < a * 128 + i
    · rw [if_pos h, if_pos (by omega)]
    · rw [if_neg h, if_neg (by omega)]

set_option maxRecDepth 1000000 in
set_option maxHeartbeats 4000000 in
theorem refWrite_r6 {d L b : Nat} {v : Value} {S : DS} {p : Nat × Blk} {w : World} (hd : RkAt w d L v S) (rb : Hid (RowAt w b 32 (blkA p.2))) (hn : S.hangs.length < 1000000000) {Q : Exit → Act → World → Prop} (u2 u3 u4 u6 u7 u8 u9 u10 u11 u12 u13 u14 u15 u16 u17 u18 u19 u20 u21 u22 u23 u24 u25 u26 u27 u28 u29 u30 u31 u32 : Value)
    (hK : ∀ (v21 v22 v23 v24 v25 v26 v27 v28 v29 v30 v31 v32 : Value) (W : World), (fun W => ∃ v', RowAt W d 50 (refDA L S.n v' S.steps S.fuse S.down) ∧ W.ownsRow 0 68 129 v' (S.hangs.length + 1) (hangA (S.hangs ++ [p])) ∧ ∀ g, v'.ownBlock = some g → v.ownBlock = some g ∨ w.heap.size ≤ g) W → Kept (fun k => k = d ∨ v.ownBlock = some k) w W → Q .normal { tmps := #[.pointer (some ⟨d, 0, none⟩), .int .i64 (p.1 : Nat), u2, u3, u4, .pointer (some ⟨b, 0, none⟩), u6, u7, u8, u9, u10, u11, u12, u13, u14, u15, u16, u17, u18, u19, u20, v21, v22, v23, v24, v25, v26, v27, v28, v29, v30, v31, v32], defers := [] } W) :
    (fragR Try.f31 6).wp Try.prog Q { tmps := #[.pointer (some ⟨d, 0, none⟩), .int .i64 (p.1 : Nat), u2, u3, u4, .pointer (some ⟨b, 0, none⟩), u6, u7, u8, u9, u10, u11, u12, u13, u14, u15, u16, u17, u18, u19, u20, u21, u22, u23, u24, u25, u26, u27, u28, u29, u30, u31, u32], defers := [] } w := by
  dsimp only at hK ⊢
  rw [show fragR Try.f31 6 = Code.region _ (List.toArray _) true from rfl]
  have rd := hid hd.row
  have hlt := hd.lt
  have hvd : ¬ v.ownBlock = some d := fun e => (hd.ne.2 d e).1 rfl
  have hnew : ∀ k g, w.heap.size ≤ g → ¬ tOf [fun k => v.ownBlock = some k, fun k => k = d] k g := by
    intro k g hg h
    match k, h with
    | 0, h => have := hlt g (.inr (.inr h)); omega
    | 1, h => have := hlt g (.inl h); omega
    | k + 2, h => exact h.elim
  have hv1 : ∀ g, v.ownBlock = some g ∨ w.heap.size ≤ g → ¬ g = d := by
    rintro g (h | h) rfl
    · exact hvd h
    · have := hlt g (.inl rfl); omega
  refine wp_region_st 33 [9, 12] [21, 22, 23, 24, 25, 26, 27, 28, 29, 30, 31, 32] (phiOf [QV (.pointer (some ⟨d, 0, none⟩)), QV (.pointer (some ⟨d, 0, none⟩)), QV (.pointer (some ⟨d, 0, none⟩)), QV (.pointer (some ⟨d, 1, none⟩)), QV (v), QV (.int .i64 (p.1 : Nat)), QV (.agg (blkA p.2)), QV (.agg (wrA p)), fun u W => ∃ g, u = .slice (some ⟨g, 0, none⟩) 1 1 ∧ RowAt W g 68 (wrA p) ∧ w.heap.size ≤ g, fun u W => W.ownsRow 0 68 129 u (S.hangs.length + 1) (hangA (S.hangs ++ [p])) ∧ (∀ g, u.ownBlock = some g → v.ownBlock = some g ∨ w.heap.size ≤ g) ∧ ∃ q c, u = .slice q (S.hangs.length + 1) c, QV (.pointer (some ⟨d, 0, none⟩)), QV (.pointer (some ⟨d, 1, none⟩)), QV (undef)]) (gOf [fun W => Below w.heap.size w W, fun W => Kept (fun k => v.ownBlock = some k) w W, fun W => ∃ v', RowAt W d 50 (refDA L S.n v' S.steps S.fuse S.down) ∧ W.ownsRow 0 68 129 v' (S.hangs.length + 1) (hangA (S.hangs ++ [p])) ∧ ∀ g, v'.ownBlock = some g → v.ownBlock = some g ∨ w.heap.size ≤ g]) (tOf [fun k => v.ownBlock = some k, fun k => k = d]) (fun k => k = d ∨ v.ownBlock = some k) (by kernel_rfl) (by kernel_rfl) (by kernel_rfl) rfl ?r6TT (phi_st ?r6st) (gOf_stays ?r6G) ?r6G0 ?r6g ?r6op ?r6fin
  case r6TT =>
    refine tOf_in ?_
    simp only [List.forall_mem_cons]; exact ⟨fun b hb => .inr hb, fun b hb => .inl hb, fun _ h => by cases h⟩
  case r6st => exact ⟨stq _ _ _ _, stq _ _ _ _, stq _ _ _ _, stq _ _ _ _, stq _ _ _ _, stq _ _ _ _, stq _ _ _ _, stq _ _ _ _, fun k u W W' hc ⟨g, h1, h2, h3⟩ hk => ⟨g, h1, hk.row h2 (hnew k g h3), h3⟩, fun k u W W' hc h hk => ⟨ownsRow_kept h.1 hk (fun g hg => by match k, hc, hk with | 0, hc, _ => exact absurd hc (by decide) | 1, _, _ => exact hv1 g (h.2.1 g hg) | k + 2, _, _ => exact fun h => h.elim), h.2⟩, stq _ _ _ _, stq _ _ _ _, stq _ _ _ _, trivial⟩
  case r6G => simp only [List.forall_mem_cons]; exact ⟨fun W W' h hb => below_cat hb h, fun W W' h hb => h.below hb, fun W W' ⟨v', h1, h2, h3⟩ hb => ⟨v', h1.below hb h1.lt, ownsRow_kept h2 (Kept.of_below (S := fun _ => False) hb) (fun _ _ h => h), h3⟩, fun _ h => by cases h⟩
  case r6G0 => exact (Below.refl _ _).drew
  case r6g => exact no_guards rfl
  case r6op =>
    refine ⟨fun s a W hlo hhi hG hkT hold hdep hgv => ?_, ?_⟩
    · show OpOk _ _ _ _ _
      have h0 : a.tmps.getD 0 undef = .pointer (some ⟨d, 0, none⟩) := (hold 0 (by kernel_rfl)).trans rfl
      unfold OpOk
      simp [execOp, go_sem, eval_tmp, eval_const, eval_func, h0]
      exact ⟨Below.refl _ _, rfl⟩
    refine ⟨fun s a W hlo hhi hG hkT hold hdep hgv => ?_, ?_⟩
    · show OpOk _ _ _ _ _
      have h0 : a.tmps.getD 0 undef = .pointer (some ⟨d, 0, none⟩) := (hold 0 (by kernel_rfl)).trans rfl
      unfold OpOk
      simp [execOp, go_sem, eval_tmp, eval_const, eval_func, h0]
      exact ⟨Below.refl _ _, rfl⟩
    refine ⟨fun s a W hlo hhi hG hkT hold hdep hgv => ?_, ?_⟩
    · show OpOk _ _ _ _ _
      have h22 : a.tmps.getD 22 undef = .pointer (some ⟨d, 0, none⟩) := hdep 1 22 (by kernel_rfl) rfl
      unfold OpOk
      simp [execOp, go_sem, eval_tmp, eval_const, eval_func, h22]
      exact ⟨Below.refl _ _, rfl⟩
    refine ⟨fun s a W hlo hhi hG hkT hold hdep hgv => ?_, ?_⟩
    · show OpOk _ _ _ _ _
      have h23 : a.tmps.getD 23 undef = .pointer (some ⟨d, 0, none⟩) := hdep 2 23 (by kernel_rfl) rfl
      unfold OpOk
      simp [execOp, go_sem, eval_tmp, eval_const, eval_func, h23]
      exact ⟨Below.refl _ _, rfl⟩
    refine ⟨fun s a W hlo hhi hG hkT hold hdep hgv => ?_, ?_⟩
    · obtain rfl : s = 0 := Nat.le_zero.1 (Nat.le_trans hhi (Nat.le_of_eq (by kernel_rfl)))
      show OpOk _ _ _ _ _
      replace hG : Below w.heap.size w W := hG
      have h24 : a.tmps.getD 24 undef = .pointer (some ⟨d, 1, none⟩) := hdep 3 24 (by kernel_rfl) rfl
      have hc : W.cell? ⟨d, 1, none⟩ = some (v) := (rd.out.below hG rd.out.lt).cell rfl
      unfold OpOk
      simp [execOp, go_sem, eval_tmp, eval_const, eval_func, h24, hc]
      exact ⟨Below.refl _ _, rfl⟩
    refine ⟨fun s a W hlo hhi hG hkT hold hdep hgv => ?_, ?_⟩
    · show OpOk _ _ _ _ _
      have h1 : a.tmps.getD 1 undef = .int .i64 (p.1 : Nat) := (hold 1 (by kernel_rfl)).trans rfl
      unfold OpOk
      simp [execOp, go_sem, eval_tmp, eval_const, eval_func, h1]
      exact ⟨Below.refl _ _, rfl⟩
    refine ⟨fun s a W hlo hhi hG hkT hold hdep hgv => ?_, ?_⟩
    · obtain rfl : s = 0 := Nat.le_zero.1 (Nat.le_trans hhi (Nat.le_of_eq (by kernel_rfl)))
      show OpOk _ _ _ _ _
      replace hG : Below w.heap.size w W := hG
      have h5 : a.tmps.getD 5 undef = .pointer (some ⟨b, 0, none⟩) := (hold 5 (by kernel_rfl)).trans rfl
      exact opOk_load 32 _ rfl b (by rw [eval_tmp, h5]) 32 (blkA p.2) _ (rb.out.below hG rb.out.lt) Try.underlying32 rfl (infoBlkCs _) rfl
    refine ⟨fun s a W hlo hhi hG hkT hold hdep hgv => ?_, ?_⟩
    · obtain rfl : s = 0 := Nat.le_zero.1 (Nat.le_trans hhi (Nat.le_of_eq (by kernel_rfl)))
      show OpOk _ _ _ _ _
      replace hG : Below w.heap.size w W := hG
      have h26 : a.tmps.getD 26 undef = .int .i64 (p.1 : Nat) := hdep 5 26 (by kernel_rfl) rfl
      have h27 : a.tmps.getD 27 undef = .agg (blkA p.2) := hdep 6 27 (by kernel_rfl) rfl
      exact opOk_build 68 _ rfl #[(0, .int .i64 (p.1 : Nat)), (1, .agg (blkA p.2))] (by simp only [List.map_toArray, List.map_cons, List.map_nil, eval_tmp, h26, h27]) _ (build_rwr p W) rfl
    refine ⟨fun s a W hlo hhi hG hkT hold hdep hgv => ?_, ?_⟩
    · obtain rfl : s = 0 := Nat.le_zero.1 (Nat.le_trans hhi (Nat.le_of_eq (by kernel_rfl)))
      show OpOk _ _ _ _ _
      replace hG : Below w.heap.size w W := hG
      have h28 : a.tmps.getD 28 undef = .agg (wrA p) := hdep 7 28 (by kernel_rfl) rfl
      exact opOk_buildSlice 48 68 1 _ rfl #[(0, .agg (wrA p))] (by simp only [List.map_toArray, List.map_cons, List.map_nil, eval_tmp, h28]) _ (buildSlice_rwr p W) ⟨_, rfl, RowAt.new _ _ _, hG.size⟩
    refine ⟨fun s a W hlo hhi hG hkT hold hdep hgv => ?_, ?_⟩
    · obtain rfl : s = 0 := Nat.le_antisymm (Nat.le_trans hhi (Nat.le_of_eq (by kernel_rfl))) (Nat.le_trans (Nat.le_of_eq (by kernel_rfl)) hlo)
      show OpR _ _ _ _ _
      replace hG : (fun W => Below w.heap.size w W) W := hG
      have h25 : a.tmps.getD 25 undef = v := hdep 4 25 (by kernel_rfl) rfl
      obtain ⟨g29, h29, rg29, hg29⟩ := hdep 8 29 (by kernel_rfl) rfl
      refine opR_append (.tmp 25) (.tmp 29) 48 rfl 0 68 129 136 Try.underlying48 infoRWr (by decide) v S.hangs.length (hangA S.hangs) h25 (ownsRow_kept hd.hangs (Kept.of_below (S := fun _ => False) hG) (fun _ _ h => h)) ⟨g29, 0, none⟩ 1 1 (wrA p).toList h29 (by rw [Array.length_toList, wrA_size]) (cells_rangeL rg29) (all_list (wrA_one p)) (by simp only [maxLen]; omega) (by omega) (Nat.zero_le _) ?_
      intro v' W' ho hgr hloc
      have ho2 : W'.ownsRow 0 68 129 v' (S.hangs.length + 1) (hangA (S.hangs ++ [p])) := by rw [hangA_snoc]; exact ho
      refine ⟨grown_kept hgr, ?_, ho2, fun g hg => ?_, ?_⟩
      · exact (Kept.of_below hG).trans (grown_kept hgr)
      · rcases hloc with h | h
        · exact .inl (by rw [← h]; exact hg)
        · rw [h] at hg; cases hg; exact .inr hG.size
      · rcases ho2.2 with ⟨hv', h0⟩ | ⟨g, cap, cur, hv', _⟩
        · omega
        · exact ⟨_, _, hv'⟩
    refine ⟨fun s a W hlo hhi hG hkT hold hdep hgv => ?_, ?_⟩
    · show OpOk _ _ _ _ _
      have h21 : a.tmps.getD 21 undef = .pointer (some ⟨d, 0, none⟩) := hdep 0 21 (by kernel_rfl) rfl
      unfold OpOk
      simp [execOp, go_sem, eval_tmp, eval_const, eval_func, h21]
      exact ⟨Below.refl _ _, rfl⟩
    refine ⟨fun s a W hlo hhi hG hkT hold hdep hgv => ?_, ?_⟩
    · show OpOk _ _ _ _ _
      have h31 : a.tmps.getD 31 undef = .pointer (some ⟨d, 0, none⟩) := hdep 10 31 (by kernel_rfl) rfl
      unfold OpOk
      simp [execOp, go_sem, eval_tmp, eval_const, eval_func, h31]
      exact ⟨Below.refl _ _, rfl⟩
    refine ⟨fun s a W hlo hhi hG hkT hold hdep hgv => ?_, ?_⟩
    · obtain rfl : s = 1 := Nat.le_antisymm (Nat.le_trans hhi (Nat.le_of_eq (by kernel_rfl))) (Nat.le_trans (Nat.le_of_eq (by kernel_rfl)) hlo)
      show OpR _ _ _ _ _
      replace hG : (fun W => Kept (fun k => v.ownBlock = some k) w W) W := hG
      have h32 : a.tmps.getD 32 undef = .pointer (some ⟨d, 1, none⟩) := hdep 11 32 (by kernel_rfl) rfl
      obtain ⟨hown30, hloc30, q30, c30, h30⟩ := hdep 9 30 (by kernel_rfl) rfl
      rw [h30] at hown30 hloc30
      have rW := hG.row rd.out hvd
      refine opR_store 48 (.tmp 32) (.tmp 30) rfl d 1 _ h32 h30 rfl infoRSl (by rw [rW.cell (j := 1) rfl]; rfl) (rW.free 1) ?_
      refine ⟨(Kept.refl (· = d) _).setCell ⟨d, 1, none⟩ (.inl rfl) _, ⟨_, rW.set 1 _, ?_, hloc30⟩, rfl⟩
      exact ownsRow_kept hown30 ((Kept.refl (· = d) _).setCell ⟨d, 1, none⟩ (.inl rfl) _) (fun g hg => hv1 g (hloc30 g hg))
    trivial
  case r6fin =>
    intro X W hG hkT hX
    replace hG : (fun W => ∃ v', RowAt W d 50 (refDA L S.n v' S.steps S.fuse S.down) ∧ W.ownsRow 0 68 129 v' (S.hangs.length + 1) (hangA (S.hangs ++ [p])) ∧ ∀ g, v'.ownBlock = some g → v.ownBlock = some g ∨ w.heap.size ≤ g) W := hG
    have e21 : X 21 = .pointer (some ⟨d, 0, none⟩) := hX 0 21 (by decide) rfl
    have e22 : X 22 = .pointer (some ⟨d, 0, none⟩) := hX 1 22 (by decide) rfl
    have e23 : X 23 = .pointer (some ⟨d, 0, none⟩) := hX 2 23 (by decide) rfl
    have e24 : X 24 = .pointer (some ⟨d, 1, none⟩) := hX 3 24 (by decide) rfl
    have e25 : X 25 = v := hX 4 25 (by decide) rfl
    have e26 : X 26 = .int .i64 (p.1 : Nat) := hX 5 26 (by decide) rfl
    have e27 : X 27 = .agg (blkA p.2) := hX 6 27 (by decide) rfl
    have e28 : X 28 = .agg (wrA p) := hX 7 28 (by decide) rfl
    obtain ⟨g29, e29, rg29, hg29⟩ := hX 8 29 (by decide) rfl
    obtain ⟨hown30, hloc30, q30, c30, e30⟩ := hX 9 30 (by decide) rfl
    have e31 : X 31 = .pointer (some ⟨d, 0, none⟩) := hX 10 31 (by decide) rfl
    have e32 : X 32 = .pointer (some ⟨d, 1, none⟩) := hX 11 32 (by decide) rfl
    clear hX
    simp only [List.map_cons, List.map_nil, putAll, List.foldl_cons, List.foldl_nil, List.setIfInBounds_toArray, List.set_cons_zero, List.set_cons_succ, e21, e22, e23, e24, e25, e26, e27, e28, e29, e30, e31, e32]
    clear e21 e22 e23 e24 e25 e26 e27 e28 e29 e30 e31 e32
    exact hK _ _ _ _ _ _ _ _ _ _ _ _ _ hG hkT

theorem wr_mid {W : World} {b t : Nat} {p : Nat × Blk} (rb : RowAt W b t (wrA p)) : W.rangeAt b 1 (blkA p.2).toList := by
  intro j u hj
  refine rb.cell ?_
  rw [Nat.add_comm, wrA_get, ← Array.getElem?_toList]
  exact hj
set_option maxRecDepth 1000000 in
set_option maxHeartbeats 4000000 in
theorem refSync_r6 {d L b n : Nat} {l : Nat → UInt8} {x1 x2 x3 x4 : Value} {p : Nat × Blk} {w : World} (hp : p.1 < n) (hn : n ≤ 4096) (rd : Hid (RowAt w d 50 #[.slice (some ⟨L, 0, none⟩) n n, x1, x2, x3, x4])) (rb : Hid (RowAt w b 68 (wrA p))) (rL : Hid (RowAt w L 32 (lastsA n l))) {Q : Exit → Act → World → Prop} (u1 u2 u3 u5 u6 u7 u8 u9 u10 u11 u12 u13 u14 u15 u16 u17 u18 u19 u20 u21 u22 u23 u24 u25 u26 u27 u28 u29 u30 u31 u32 u33 u34 u35 : Value)
    (hK : ∀ (v23 v24 v25 v26 v27 v28 v29 v30 v31 : Value) (W : World), RowAt W L 32 (lastsA n (ovl l p.1 128 p.2)) → Kept (fun k => k = L) w W → Q .normal { tmps := #[.pointer (some ⟨d, 0, none⟩), u1, u2, u3, .pointer (some ⟨b, 0, none⟩), u5, u6, u7, u8, u9, u10, u11, u12, u13, u14, u15, u16, u17, u18, u19, u20, u21, u22, v23, v24, v25, v26, v27, v28, v29, v30, v31, u32, u33, u34, u35], defers := [] } W) :
    (fragR Try.f28 6).wp Try.prog Q { tmps := #[.pointer (some ⟨d, 0, none⟩), u1, u2, u3, .pointer (some ⟨b, 0, none⟩), u5, u6, u7, u8, u9, u10, u11, u12, u13, u14, u15, u16, u17, u18, u19, u20, u21, u22, u23, u24, u25, u26, u27, u28, u29, u30, u31, u32, u33, u34, u35], defers := [] } w := by
  dsimp only at hK ⊢
  rw [show fragR Try.f28 6 = Code.region _ (List.toArray _) true from rfl]
  have i1 : (0 : Int) ≤ (p.1 : Int) := by omega
  have i2 : (p.1 : Int) < (n : Int) := by omega
  refine wp_region_st 36 [9] [23, 24, 25, 26, 27, 28, 29, 30, 31] (phiOf [QV (.pointer (some ⟨d, 0, none⟩)), QV (.pointer (some ⟨d, 0, none⟩)), QV (.pointer (some ⟨d, 0, none⟩)), QV (.slice (some ⟨L, 0, none⟩) n n), QV (.pointer (some ⟨b, 0, none⟩)), QV (.int .i64 (p.1 : Nat)), QV (.pointer (some ⟨b, 1, none⟩)), QV (.agg (blkA p.2)), QV (.pointer (some ⟨L, p.1 * 128, none⟩)), QV (undef)]) (gOf [fun W => Below w.heap.size w W, fun W => RowAt W L 32 (lastsA n (ovl l p.1 128 p.2))]) (tOf [fun k => k = L]) (fun k => k = L) (by kernel_rfl) (by kernel_rfl) (by kernel_rfl) rfl ?r6TT (phi_st ?r6st) (gOf_stays ?r6G) ?r6G0 ?r6g ?r6op ?r6fin
  case r6TT =>
    refine tOf_in ?_
    simp only [List.forall_mem_cons]; exact ⟨fun b hb => hb, fun _ h => by cases h⟩
  case r6st => exact ⟨stq _ _ _ _, stq _ _ _ _, stq _ _ _ _, stq _ _ _ _, stq _ _ _ _, stq _ _ _ _, stq _ _ _ _, stq _ _ _ _, stq _ _ _ _, stq _ _ _ _, trivial⟩
  case r6G => simp only [List.forall_mem_cons]; exact ⟨fun W W' h hb => below_cat hb h, fun W W' h hb => h.below hb h.lt, fun _ h => by cases h⟩
  case r6G0 => exact (Below.refl _ _).drew
  case r6g => exact no_guards rfl
  case r6op =>
    refine ⟨fun s a W hlo hhi hG hkT hold hdep hgv => ?_, ?_⟩
    · show OpOk _ _ _ _ _
      have h0 : a.tmps.getD 0 undef = .pointer (some ⟨d, 0, none⟩) := (hold 0 (by kernel_rfl)).trans rfl
      unfold OpOk
      simp [execOp, go_sem, eval_tmp, eval_const, eval_func, h0]
      exact ⟨Below.refl _ _, rfl⟩
    refine ⟨fun s a W hlo hhi hG hkT hold hdep hgv => ?_, ?_⟩
    · show OpOk _ _ _ _ _
      have h23 : a.tmps.getD 23 undef = .pointer (some ⟨d, 0, none⟩) := hdep 0 23 (by kernel_rfl) rfl
      unfold OpOk
      simp [execOp, go_sem, eval_tmp, eval_const, eval_func, h23]
      exact ⟨Below.refl _ _, rfl⟩
    refine ⟨fun s a W hlo hhi hG hkT hold hdep hgv => ?_, ?_⟩
    · show OpOk _ _ _ _ _
      have h24 : a.tmps.getD 24 undef = .pointer (some ⟨d, 0, none⟩) := hdep 1 24 (by kernel_rfl) rfl
      unfold OpOk
      simp [execOp, go_sem, eval_tmp, eval_const, eval_func, h24]
      exact ⟨Below.refl _ _, rfl⟩
    refine ⟨fun s a W hlo hhi hG hkT hold hdep hgv => ?_, ?_⟩
    · obtain rfl : s = 0 := Nat.le_zero.1 (Nat.le_trans hhi (Nat.le_of_eq (by kernel_rfl)))
      show OpOk _ _ _ _ _
      replace hG : Below w.heap.size w W := hG
      have h25 : a.tmps.getD 25 undef = .pointer (some ⟨d, 0, none⟩) := hdep 2 25 (by kernel_rfl) rfl
      have hc : W.cell? ⟨d, 0, none⟩ = some (.slice (some ⟨L, 0, none⟩) n n) := (rd.out.below hG rd.out.lt).cell rfl
      unfold OpOk
      simp [execOp, go_sem, eval_tmp, eval_const, eval_func, h25, hc]
      exact ⟨Below.refl _ _, rfl⟩
    refine ⟨fun s a W hlo hhi hG hkT hold hdep hgv => ?_, ?_⟩
    · show OpOk _ _ _ _ _
      have h4 : a.tmps.getD 4 undef = .pointer (some ⟨b, 0, none⟩) := (hold 4 (by kernel_rfl)).trans rfl
      unfold OpOk
      simp [execOp, go_sem, eval_tmp, eval_const, eval_func, h4]
      exact ⟨Below.refl _ _, rfl⟩
    refine ⟨fun s a W hlo hhi hG hkT hold hdep hgv => ?_, ?_⟩
    · obtain rfl : s = 0 := Nat.le_zero.1 (Nat.le_trans hhi (Nat.le_of_eq (by kernel_rfl)))
      show OpOk _ _ _ _ _
      replace hG : Below w.heap.size w W := hG
      have h27 : a.tmps.getD 27 undef = .pointer (some ⟨b, 0, none⟩) := hdep 4 27 (by kernel_rfl) rfl
      have hc : W.cell? ⟨b, 0, none⟩ = some (.int .i64 (p.1 : Nat)) := (rb.out.below hG rb.out.lt).cell (wrA_get0 p)
      unfold OpOk
      simp [execOp, go_sem, eval_tmp, eval_const, eval_func, h27, hc]
      exact ⟨Below.refl _ _, rfl⟩
    refine ⟨fun s a W hlo hhi hG hkT hold hdep hgv => ?_, ?_⟩
    · show OpOk _ _ _ _ _
      have h4 : a.tmps.getD 4 undef = .pointer (some ⟨b, 0, none⟩) := (hold 4 (by kernel_rfl)).trans rfl
      unfold OpOk
      simp [execOp, go_sem, eval_tmp, eval_const, eval_func, h4]
      exact ⟨Below.refl _ _, rfl⟩
    refine ⟨fun s a W hlo hhi hG hkT hold hdep hgv => ?_, ?_⟩
    · obtain rfl : s = 0 := Nat.le_zero.1 (Nat.le_trans hhi (Nat.le_of_eq (by kernel_rfl)))
      show OpOk _ _ _ _ _
      replace hG : Below w.heap.size w W := hG
      have h29 : a.tmps.getD 29 undef = .pointer (some ⟨b, 1, none⟩) := hdep 6 29 (by kernel_rfl) rfl
      exact opOk_load_mid 32 (.tmp 29) rfl b 1 (by rw [eval_tmp, h29]) (blkA p.2).toList _ (wr_mid (rb.out.below hG rb.out.lt)) Try.underlying32 rfl (by rw [Array.length_toList]; exact infoBlkCs _) (congrArg Value.agg Array.toArray_toList)
    refine ⟨fun s a W hlo hhi hG hkT hold hdep hgv => ?_, ?_⟩
    · obtain rfl : s = 0 := Nat.le_zero.1 (Nat.le_trans hhi (Nat.le_of_eq (by kernel_rfl)))
      show OpOk _ _ _ _ _
      replace hG : Below w.heap.size w W := hG
      have h26 : a.tmps.getD 26 undef = .slice (some ⟨L, 0, none⟩) n n := hdep 3 26 (by kernel_rfl) rfl
      have h28 : a.tmps.getD 28 undef = .int .i64 (p.1 : Nat) := hdep 5 28 (by kernel_rfl) rfl
      unfold OpOk
      simp [execOp, go_sem, eval_tmp, eval_const, eval_func, h26, h28, i1, i2]
      exact ⟨Below.refl _ _, rfl⟩
    refine ⟨fun s a W hlo hhi hG hkT hold hdep hgv => ?_, ?_⟩
    · obtain rfl : s = 0 := Nat.le_antisymm (Nat.le_trans hhi (Nat.le_of_eq (by kernel_rfl))) (Nat.le_trans (Nat.le_of_eq (by kernel_rfl)) hlo)
      show OpR _ _ _ _ _
      replace hG : (fun W => Below w.heap.size w W) W := hG
      have h31 : a.tmps.getD 31 undef = .pointer (some ⟨L, p.1 * 128, none⟩) := hdep 8 31 (by kernel_rfl) rfl
      have h30 : a.tmps.getD 30 undef = .agg (blkA p.2) := hdep 7 30 (by kernel_rfl) rfl
      have hov := lasts_ovl n l p.1 128 p.2 hp (Nat.le_refl _)
      rw [show (blkA p.2).toList.take 128 = (blkA p.2).toList from List.take_of_length_le (by rw [Array.length_toList, blkA_size]; exact Nat.le_refl _)] at hov
      refine opR_store_midrow 32 (.tmp 31) (.tmp 30) rfl L (p.1 * 128) (blkA p.2) (lastsA n l) 32 h31 h30 (rL.out.below hG rL.out.lt) (by rw [blkA_size, lastsA_size]; omega) (infoBlkCs _) (blkA_one _) ?_
      rw [hov]
      exact ⟨⟨rfl, rfl, rfl, by simp, fun k hk hs => setRow_other W L k _ hs⟩, (rL.out.below hG rL.out.lt).setRow _, rfl⟩
    trivial
  case r6fin =>
    intro X W hG hkT hX
    replace hG : (fun W => RowAt W L 32 (lastsA n (ovl l p.1 128 p.2))) W := hG
    have e23 : X 23 = .pointer (some ⟨d, 0, none⟩) := hX 0 23 (by decide) rfl
    have e24 : X 24 = .pointer (some ⟨d, 0, none⟩) := hX 1 24 (by decide) rfl
    have e25 : X 25 = .pointer (some ⟨d, 0, none⟩) := hX 2 25 (by decide) rfl
    have e26 : X 26 = .slice (some ⟨L, 0, none⟩) n n := hX 3 26 (by decide) rfl
    have e27 : X 27 = .pointer (some ⟨b, 0, none⟩) := hX 4 27 (by decide) rfl
    have e28 : X 28 = .int .i64 (p.1 : Nat) := hX 5 28 (by decide) rfl
    have e29 : X 29 = .pointer (some ⟨b, 1, none⟩) := hX 6 29 (by decide) rfl
    have e30 : X 30 = .agg (blkA p.2) := hX 7 30 (by decide) rfl
    have e31 : X 31 = .pointer (some ⟨L, p.1 * 128, none⟩) := hX 8 31 (by decide) rfl
    clear hX
    simp only [List.map_cons, List.map_nil, putAll, List.foldl_cons, List.foldl_nil, List.setIfInBounds_toArray, List.set_cons_zero, List.set_cons_succ, e23, e24, e25, e26, e27, e28, e29, e30, e31]
    clear e23 e24 e25 e26 e27 e28 e29 e30 e31
    exact hK _ _ _ _ _ _ _ _ _ _ hG hkT

unseal lastsA in
theorem lasts_cell {n : Nat} {l : Nat → UInt8} {j : Nat} (h : j < n * 128) : (lastsA n l)[j]? = some (u8c (l j)) := rowA_get _ _ _ h
set_option maxRecDepth 1000000 in
set_option maxHeartbeats 4000000 in
theorem refCrash_r7 {d L b n i : Nat} {l : Nat → UInt8} {x1 x2 x3 x4 : Value} {p : Nat × Blk} {w : World} (hp : p.1 < n) (hn : n ≤ 4096) (hi : i < 128) (rd : Hid (RowAt w d 50 #[.slice (some ⟨L, 0, none⟩) n n, x1, x2, x3, x4])) (rb : Hid (RowAt w b 68 (wrA p))) (rL : Hid (RowAt w L 32 (lastsA n (ovl l p.1 i p.2)))) {Q : Exit → Act → World → Prop} (u1 u2 u3 u4 u7 u8 u9 u10 u11 u12 u13 u14 u15 u16 u17 u18 u19 u20 u21 u22 u23 u24 u25 u26 u27 u28 u29 u30 u31 u32 u33 u34 u35 u36 u37 u38 u39 u40 u41 u42 u43 u44 u45 u46 : Value)
    (hK : ∀ (v22 v23 v24 v25 v26 v27 v28 v29 v30 v31 v32 v33 v34 : Value) (W : World), RowAt W L 32 (lastsA n (ovl l p.1 (i + 1) p.2)) → Kept (fun k => k = L) w W → Q .normal { tmps := #[.pointer (some ⟨d, 0, none⟩), u1, u2, u3, u4, .pointer (some ⟨b, 0, none⟩), .int .i64 (i : Nat), u7, u8, u9, u10, u11, u12, u13, u14, u15, u16, u17, u18, u19, u20, u21, v22, v23, v24, v25, v26, v27, v28, v29, v30, v31, v32, v33, v34, u35, u36, u37, u38, u39, u40, u41, u42, u43, u44, u45, u46], defers := [] } W) :
    (fragR Try.f30 7).wp Try.prog Q { tmps := #[.pointer (some ⟨d, 0, none⟩), u1, u2, u3, u4, .pointer (some ⟨b, 0, none⟩), .int .i64 (i : Nat), u7, u8, u9, u10, u11, u12, u13, u14, u15, u16, u17, u18, u19, u20, u21, u22, u23, u24, u25, u26, u27, u28, u29, u30, u31, u32, u33, u34, u35, u36, u37, u38, u39, u40, u41, u42, u43, u44, u45, u46], defers := [] } w := by
  dsimp only at hK ⊢
  rw [show fragR Try.f30 7 = Code.region _ (List.toArray _) true from rfl]
  have i1 : (0 : Int) ≤ (p.1 : Int) := by omega
  have i2 : (p.1 : Int) < (n : Int) := by omega
  have i3 : (0 : Int) ≤ (i : Int) := by omega
  have i4 : (i : Int) < 128 := by omega
  refine wp_region_st 47 [13] [22, 23, 24, 25, 26, 27, 28, 29, 30, 31, 32, 33, 34] (phiOf [QV (.pointer (some ⟨d, 0, none⟩)), QV (.pointer (some ⟨d, 0, none⟩)), QV (.pointer (some ⟨d, 0, none⟩)), QV (.slice (some ⟨L, 0, none⟩) n n), QV (.pointer (some ⟨b, 0, none⟩)), QV (.int .i64 (p.1 : Nat)), QV (.int .i64 (i : Nat)), QV (.int .i64 (i : Nat)), QV (.pointer (some ⟨b, 1, none⟩)), QV (.pointer (some ⟨b, 1 + i, none⟩)), QV (u8c (p.2 i)), QV (.pointer (some ⟨L, p.1 * 128, none⟩)), QV (.pointer (some ⟨L, p.1 * 128 + i, none⟩)), QV (undef)]) (gOf [fun W => Below w.heap.size w W, fun W => RowAt W L 32 (lastsA n (ovl l p.1 (i + 1) p.2))]) (tOf [fun k => k = L]) (fun k => k = L) (by kernel_rfl) (by kernel_rfl) (by kernel_rfl) rfl ?r7TT (phi_st ?r7st) (gOf_stays ?r7G) ?r7G0 ?r7g ?r7op ?r7fin
  case r7TT =>
    refine tOf_in ?_
    simp only [List.forall_mem_cons]; exact ⟨fun b hb => hb, fun _ h => by cases h⟩
  case r7st => exact ⟨stq _ _ _ _, stq _ _ _ _, stq _ _ _ _, stq _ _ _ _, stq _ _ _ _, stq _ _ _ _, stq _ _ _ _, stq _ _ _ _, stq _ _ _ _, stq _ _ _ _, stq _ _ _ _, stq _ _ _ _, stq _ _ _ _, stq _ _ _ _, trivial⟩
  case r7G => simp only [List.forall_mem_cons]; exact ⟨fun W W' h hb => below_cat hb h, fun W W' h hb => h.below hb h.lt, fun _ h => by cases h⟩
  case r7G0 => exact (Below.refl _ _).drew
  case r7g => exact no_guards rfl
  case r7op =>
    refine ⟨fun s a W hlo hhi hG hkT hold hdep hgv => ?_, ?_⟩
    · show OpOk _ _ _ _ _
      have h0 : a.tmps.getD 0 undef = .pointer (some ⟨d, 0, none⟩) := (hold 0 (by kernel_rfl)).trans rfl
      unfold OpOk
      simp [execOp, go_sem, eval_tmp, eval_const, eval_func, h0]
      exact ⟨Below.refl _ _, rfl⟩
    refine ⟨fun s a W hlo hhi hG hkT hold hdep hgv => ?_, ?_⟩
    · show OpOk _ _ _ _ _
      have h22 : a.tmps.getD 22 undef = .pointer (some ⟨d, 0, none⟩) := hdep 0 22 (by kernel_rfl) rfl
      unfold OpOk
      simp [execOp, go_sem, eval_tmp, eval_const, eval_func, h22]
      exact ⟨Below.refl _ _, rfl⟩
    refine ⟨fun s a W hlo hhi hG hkT hold hdep hgv => ?_, ?_⟩
    · show OpOk _ _ _ _ _
      have h23 : a.tmps.getD 23 undef = .pointer (some ⟨d, 0, none⟩) := hdep 1 23 (by kernel_rfl) rfl
      unfold OpOk
      simp [execOp, go_sem, eval_tmp, eval_const, eval_func, h23]
      exact ⟨Below.refl _ _, rfl⟩
    refine ⟨fun s a W hlo hhi hG hkT hold hdep hgv => ?_, ?_⟩
    · obtain rfl : s = 0 := Nat.le_zero.1 (Nat.le_trans hhi (Nat.le_of_eq (by kernel_rfl)))
      show OpOk _ _ _ _ _
      replace hG : Below w.heap.size w W := hG
      have h24 : a.tmps.getD 24 undef = .pointer (some ⟨d, 0, none⟩) := hdep 2 24 (by kernel_rfl) rfl
      have hc : W.cell? ⟨d, 0, none⟩ = some (.slice (some ⟨L, 0, none⟩) n n) := (rd.out.below hG rd.out.lt).cell rfl
      unfold OpOk
      simp [execOp, go_sem, eval_tmp, eval_const, eval_func, h24, hc]
      exact ⟨Below.refl _ _, rfl⟩
    refine ⟨fun s a W hlo hhi hG hkT hold hdep hgv => ?_, ?_⟩
    · show OpOk _ _ _ _ _
      have h5 : a.tmps.getD 5 undef = .pointer (some ⟨b, 0, none⟩) := (hold 5 (by kernel_rfl)).trans rfl
      unfold OpOk
      simp [execOp, go_sem, eval_tmp, eval_const, eval_func, h5]
      exact ⟨Below.refl _ _, rfl⟩
    refine ⟨fun s a W hlo hhi hG hkT hold hdep hgv => ?_, ?_⟩
    · obtain rfl : s = 0 := Nat.le_zero.1 (Nat.le_trans hhi (Nat.le_of_eq (by kernel_rfl)))
      show OpOk _ _ _ _ _
      replace hG : Below w.heap.size w W := hG
      have h26 : a.tmps.getD 26 undef = .pointer (some ⟨b, 0, none⟩) := hdep 4 26 (by kernel_rfl) rfl
      have hc : W.cell? ⟨b, 0, none⟩ = some (.int .i64 (p.1 : Nat)) := (rb.out.below hG rb.out.lt).cell (wrA_get0 p)
      unfold OpOk
      simp [execOp, go_sem, eval_tmp, eval_const, eval_func, h26, hc]
      exact ⟨Below.refl _ _, rfl⟩
    refine ⟨fun s a W hlo hhi hG hkT hold hdep hgv => ?_, ?_⟩
    · show OpOk _ _ _ _ _
      have h6 : a.tmps.getD 6 undef = .int .i64 (i : Nat) := (hold 6 (by kernel_rfl)).trans rfl
      unfold OpOk
      simp [execOp, go_sem, eval_tmp, eval_const, eval_func, h6]
      exact ⟨Below.refl _ _, rfl⟩
    refine ⟨fun s a W hlo hhi hG hkT hold hdep hgv => ?_, ?_⟩
    · show OpOk _ _ _ _ _
      have h6 : a.tmps.getD 6 undef = .int .i64 (i : Nat) := (hold 6 (by kernel_rfl)).trans rfl
      unfold OpOk
      simp [execOp, go_sem, eval_tmp, eval_const, eval_func, h6]
      exact ⟨Below.refl _ _, rfl⟩
    refine ⟨fun s a W hlo hhi hG hkT hold hdep hgv => ?_, ?_⟩
    · show OpOk _ _ _ _ _
      have h5 : a.tmps.getD 5 undef = .pointer (some ⟨b, 0, none⟩) := (hold 5 (by kernel_rfl)).trans rfl
      unfold OpOk
      simp [execOp, go_sem, eval_tmp, eval_const, eval_func, h5]
      exact ⟨Below.refl _ _, rfl⟩
    refine ⟨fun s a W hlo hhi hG hkT hold hdep hgv => ?_, ?_⟩
    · obtain rfl : s = 0 := Nat.le_zero.1 (Nat.le_trans hhi (Nat.le_of_eq (by kernel_rfl)))
      show OpOk _ _ _ _ _
      replace hG : Below w.heap.size w W := hG
      have h30 : a.tmps.getD 30 undef = .pointer (some ⟨b, 1, none⟩) := hdep 8 30 (by kernel_rfl) rfl
      have h29 : a.tmps.getD 29 undef = .int .i64 (i : Nat) := hdep 7 29 (by kernel_rfl) rfl
      unfold OpOk
      simp [execOp, go_sem, eval_tmp, eval_const, eval_func, h29, h30, i3, i4]
      exact ⟨Below.refl _ _, rfl⟩
    refine ⟨fun s a W hlo hhi hG hkT hold hdep hgv => ?_, ?_⟩
    · obtain rfl : s = 0 := Nat.le_zero.1 (Nat.le_trans hhi (Nat.le_of_eq (by kernel_rfl)))
      show OpOk _ _ _ _ _
      replace hG : Below w.heap.size w W := hG
      have h31 : a.tmps.getD 31 undef = .pointer (some ⟨b, 1 + i, none⟩) := hdep 9 31 (by kernel_rfl) rfl
      have hc : W.cell? ⟨b, 1 + i, none⟩ = some (u8c (p.2 i)) := (rb.out.below hG rb.out.lt).cell (by rw [Nat.add_comm, wrA_get, blkA_get _ _ hi])
      unfold OpOk
      simp [execOp, go_sem, eval_tmp, eval_const, eval_func, h31, hc]
      exact ⟨Below.refl _ _, rfl⟩
    refine ⟨fun s a W hlo hhi hG hkT hold hdep hgv => ?_, ?_⟩
    · obtain rfl : s = 0 := Nat.le_zero.1 (Nat.le_trans hhi (Nat.le_of_eq (by kernel_rfl)))
      show OpOk _ _ _ _ _
      replace hG : Below w.heap.size w W := hG
      have h25 : a.tmps.getD 25 undef = .slice (some ⟨L, 0, none⟩) n n := hdep 3 25 (by kernel_rfl) rfl
      have h27 : a.tmps.getD 27 undef = .int .i64 (p.1 : Nat) := hdep 5 27 (by kernel_rfl) rfl
      unfold OpOk
      simp [execOp, go_sem, eval_tmp, eval_const, eval_func, h25, h27, i1, i2]
      exact ⟨Below.refl _ _, rfl⟩
    refine ⟨fun s a W hlo hhi hG hkT hold hdep hgv => ?_, ?_⟩
    · obtain rfl : s = 0 := Nat.le_zero.1 (Nat.le_trans hhi (Nat.le_of_eq (by kernel_rfl)))
      show OpOk _ _ _ _ _
      replace hG : Below w.heap.size w W := hG
      have h33 : a.tmps.getD 33 undef = .pointer (some ⟨L, p.1 * 128, none⟩) := hdep 11 33 (by kernel_rfl) rfl
      have h28 : a.tmps.getD 28 undef = .int .i64 (i : Nat) := hdep 6 28 (by kernel_rfl) rfl
      unfold OpOk
      simp [execOp, go_sem, eval_tmp, eval_const, eval_func, h28, h33, i3, i4]
      exact ⟨Below.refl _ _, rfl⟩
    refine ⟨fun s a W hlo hhi hG hkT hold hdep hgv => ?_, ?_⟩
    · obtain rfl : s = 0 := Nat.le_antisymm (Nat.le_trans hhi (Nat.le_of_eq (by kernel_rfl))) (Nat.le_trans (Nat.le_of_eq (by kernel_rfl)) hlo)
      show OpR _ _ _ _ _
      replace hG : (fun W => Below w.heap.size w W) W := hG
      have h34 : a.tmps.getD 34 undef = .pointer (some ⟨L, p.1 * 128 + i, none⟩) := hdep 12 34 (by kernel_rfl) rfl
      have h32 : a.tmps.getD 32 undef = u8c (p.2 i) := hdep 10 32 (by kernel_rfl) rfl
      have rW := rL.out.below hG rL.out.lt
      refine opR_store 5 (.tmp 34) (.tmp 32) rfl L (p.1 * 128 + i) _ h34 h32 rfl infoU8 (by rw [rW.cell (lasts_cell (by omega))]; rfl) (rW.free _) ?_
      exact ⟨(Kept.refl (· = L) _).setCell ⟨L, p.1 * 128 + i, none⟩ (.inl rfl) _, (rW.set _ _).eqA (lasts_one n l p.1 i p.2), rfl⟩
    trivial
  case r7fin =>
    intro X W hG hkT hX
    replace hG : (fun W => RowAt W L 32 (lastsA n (ovl l p.1 (i + 1) p.2))) W := hG
    have e22 : X 22 = .pointer (some ⟨d, 0, none⟩) := hX 0 22 (by decide) rfl
    have e23 : X 23 = .pointer (some ⟨d, 0, none⟩) := hX 1 23 (by decide) rfl
    have e24 : X 24 = .pointer (some ⟨d, 0, none⟩) := hX 2 24 (by decide) rfl
    have e25 : X 25 = .slice (some ⟨L, 0, none⟩) n n := hX 3 25 (by decide) rfl
    have e26 : X 26 = .pointer (some ⟨b, 0, none⟩) := hX 4 26 (by decide) rfl
    have e27 : X 27 = .int .i64 (p.1 : Nat) := hX 5 27 (by decide) rfl
    have e28 : X 28 = .int .i64 (i : Nat) := hX 6 28 (by decide) rfl
    have e29 : X 29 = .int .i64 (i : Nat) := hX 7 29 (by decide) rfl
    have e30 : X 30 = .pointer (some ⟨b, 1, none⟩) := hX 8 30 (by decide) rfl
    have e31 : X 31 = .pointer (some ⟨b, 1 + i, none⟩) := hX 9 31 (by decide) rfl
    have e32 : X 32 = u8c (p.2 i) := hX 10 32 (by decide) rfl
    have e33 : X 33 = .pointer (some ⟨L, p.1 * 128, none⟩) := hX 11 33 (by decide) rfl
    have e34 : X 34 = .pointer (some ⟨L, p.1 * 128 + i, none⟩) := hX 12 34 (by decide) rfl
    clear hX
    simp only [List.map_cons, List.map_nil, putAll, List.foldl_cons, List.foldl_nil, List.setIfInBounds_toArray, List.set_cons_zero, List.set_cons_succ, e22, e23, e24, e25, e26, e27, e28, e29, e30, e31, e32, e33, e34]
    clear e22 e23 e24 e25 e26 e27 e28 e29 e30 e31 e32 e33 e34
    exact hK _ _ _ _ _ _ _ _ _ _ _ _ _ _ hG hkT

end Go.Proofs.Ytaofpeajfgcjcaa