/- Disk: Write's two regions that draw their order. Printed by wip/tools/mkDkH.py. -/
import Derived.Test.YtaofpeajfgcjcaaDkG
namespace Go.Proofs.Ytaofpeajfgcjcaa
open Go Go.RowKit Go.Maps
set_option linter.unusedSimpArgs false
set_option linter.unusedVariables false

theorem infoSl : (Try.prog.info? 55).map (·.size) = some 1 := by kernel_rfl
theorem infoWr : (Try.prog.info? 60).map (fun i => (i.zero.map fun z => z.cells.size, i.size, i.bytes)) = some (some 129, 129, 136) := by kernel_rfl
theorem infoBlkCs (b : Blk) : (Try.prog.info? 32).map (·.size) = some (blkA b).size := by rw [info_block, blkA_size]
theorem cells_rangeL {W : World} {g t : Nat} {cs : Array Value} (h : RowAt W g t cs) : ∀ j u, cs.toList[j]? = some u → W.cell? ((⟨g, 0, none⟩ : Addr).add j) = some u := fun j u hj => by
  rw [Addr.add_mid, Nat.zero_add]
  exact h.cell (by rw [← Array.getElem?_toList]; exact hj)
theorem all_list {cs : Array Value} (h : cs.all (·.oneCell') = true) : ∀ u ∈ cs.toList, u.oneCell' = true := fun u hu => (Array.all_eq_true_iff_forall_mem.1 h) u (by simpa using hu)
theorem grown_kept {a b : World} {row : Option Nat} (h : a.grownBy b row) : Kept (fun k => row = some k) a b := ⟨h.os, h.tape, h.output, h.size, fun k hk hs => h.block k hk (fun e => hs e.symm)⟩

set_option maxRecDepth 1000000 in
set_option maxHeartbeats 4000000 in
theorem write_r7 {d L M b : Nat} {v : Value} {S : DS} {p : Nat × Blk} {w : World} (hd : DiskAt w d L M v S) (rb : Hid (RowAt w b 32 (blkA p.2))) (hn : S.hangs.length < 1000000000) {Q : Exit → Act → World → Prop} (u2 u3 u4 u6 u7 u8 u9 u10 u11 u12 u13 u14 u15 u16 u17 u18 u19 u20 u21 u22 u23 u24 u25 u26 u27 u28 u29 u30 u31 u32 u33 u34 u35 u36 u37 : Value)
    (hK : ∀ (v20 v21 v22 v23 v24 v25 v26 v27 v28 v29 v30 v31 : Value) (W : World), (fun W => ∃ v', RowAt W d 57 (diskA L S.n v' M S.steps S.fuse S.down) ∧ W.ownsRow 0 60 129 v' (S.hangs.length + 1) (hangA (S.hangs ++ [p])) ∧ ∀ g, v'.ownBlock = some g → v.ownBlock = some g ∨ w.heap.size ≤ g) W → Kept (fun k => k = d ∨ v.ownBlock = some k) w W → Q .normal { tmps := #[.pointer (some ⟨d, 0, none⟩), .int .i64 (p.1 : Nat), u2, u3, u4, .pointer (some ⟨b, 0, none⟩), u6, u7, u8, u9, u10, u11, u12, u13, u14, u15, u16, u17, u18, u19, v20, v21, v22, v23, v24, v25, v26, v27, v28, v29, v30, v31, u32, u33, u34, u35, u36, u37], defers := [] } W) :
    (fragR Try.f9 7).wp Try.prog Q { tmps := #[.pointer (some ⟨d, 0, none⟩), .int .i64 (p.1 : Nat), u2, u3, u4, .pointer (some ⟨b, 0, none⟩), u6, u7, u8, u9, u10, u11, u12, u13, u14, u15, u16, u17, u18, u19, u20, u21, u22, u23, u24, u25, u26, u27, u28, u29, u30, u31, u32, u33, u34, u35, u36, u37], defers := [] } w := by
  dsimp only at hK ⊢
  rw [show fragR Try.f9 7 = Code.region _ (List.toArray _) true from rfl]
  have rd := hid hd.row
  have hlt := hd.lt
  have hvd : ¬ v.ownBlock = some d := fun e => (hd.ne.2.2.2 d e).1 rfl
  have hnew : ∀ k g, w.heap.size ≤ g → ¬ tOf [fun k => v.ownBlock = some k, fun k => k = d] k g := by
    intro k g hg h
    match k, h with
    | 0, h => have := hlt g (.inr (.inr (.inr h))); omega
    | 1, h => have := hlt g (.inl h); omega
    | k + 2, h => exact h.elim
  have hv1 : ∀ g, v.ownBlock = some g ∨ w.heap.size ≤ g → ¬ g = d := by
    rintro g (h | h) rfl
    · exact hvd h
    · have := hlt g (.inl rfl); omega
  refine wp_region_st 38 [9, 12] [20, 21, 22, 23, 24, 25, 26, 27, 28, 29, 30, 31] (phiOf [QV (.pointer (some ⟨d, 0, none⟩)), QV (.pointer (some ⟨d, 0, none⟩)), QV (.pointer (some ⟨d, 0, none⟩)), QV (.pointer (some ⟨d, 1, none⟩)), QV (v), QV (.int .i64 (p.1 : Nat)), QV (.agg (blkA p.2)), QV (.agg (wrA p)), fun u W => ∃ g, u = .slice (some ⟨g, 0, none⟩) 1 1 ∧ RowAt W g 60 (wrA p) ∧ w.heap.size ≤ g, fun u W => W.ownsRow 0 60 129 u (S.hangs.length + 1) (hangA (S.hangs ++ [p])) ∧ (∀ g, u.ownBlock = some g → v.ownBlock = some g ∨ w.heap.size ≤ g) ∧ ∃ q c, u = .slice q (S.hangs.length + 1) c, QV (.pointer (some ⟨d, 0, none⟩)), QV (.pointer (some ⟨d, 1, none⟩)), QV (undef)]) (gOf [fun W => Below w.heap.size w W, fun W => Kept (fun k => v.ownBlock = some k) w W, fun W => ∃ v', RowAt W d 57 (diskA L S.n v' M S.steps S.fuse S.down) ∧ W.ownsRow 0 60 129 v' (S.hangs.length + 1) (hangA (S.hangs ++ [p])) ∧ ∀ g, v'.ownBlock = some g → v.ownBlock = some g ∨ w.heap.size ≤ g]) (tOf [fun k => v.ownBlock = some k, fun k => k = d]) (fun k => k = d ∨ v.ownBlock = some k) (by kernel_rfl) (by kernel_rfl) (by kernel_rfl) rfl ?r7TT (phi_st ?r7st) (gOf_stays ?r7G) ?r7G0 ?r7g ?r7op ?r7fin
  case r7TT =>
    refine tOf_in ?_
    simp only [List.forall_mem_cons]; exact ⟨fun b hb => .inr hb, fun b hb => .inl hb, fun _ h => by cases h⟩
  case r7st => exact ⟨stq _ _ _ _, stq _ _ _ _, stq _ _ _ _, stq _ _ _ _, stq _ _ _ _, stq _ _ _ _, stq _ _ _ _, stq _ _ _ _, fun k u W W' hc ⟨g, h1, h2, h3⟩ hk => ⟨g, h1, hk.row h2 (hnew k g h3), h3⟩, fun k u W W' hc h hk => ⟨ownsRow_kept h.1 hk (fun g hg => by match k, hc, hk with | 0, hc, _ => exact absurd hc (by decide) | 1, _, _ => exact hv1 g (h.2.1 g hg) | k + 2, _, _ => exact fun h => h.elim), h.2⟩, stq _ _ _ _, stq _ _ _ _, stq _ _ _ _, trivial⟩
  case r7G => simp only [List.forall_mem_cons]; exact ⟨fun W W' h hb => below_cat hb h, fun W W' h hb => h.below hb, fun W W' ⟨v', h1, h2, h3⟩ hb => ⟨v', h1.below hb h1.lt, ownsRow_kept h2 (Kept.of_below (S := fun _ => False) hb) (fun _ _ h => h), h3⟩, fun _ h => by cases h⟩
  case r7G0 => exact (Below.refl _ _).drew
  case r7g => exact no_guards rfl
  case r7op =>
    refine ⟨fun s a W hlo hhi hG hkT hold hdep hgv => ?_, ?_⟩
    · show OpOk _ _ _ _ _
      have h0 : a.tmps.getD 0 undef = .pointer (some ⟨d, 0, none⟩) := (hold 0 (by kernel_rfl)).trans rfl
      unfold OpOk
      simp [execOp, go_sem, eval_tmp, eval_const, eval_func, h0]
      exact ⟨Below.refl _ _, rfl⟩
    refine ⟨fun s a W hlo hhi hG hkT hold hdep hgv => ?_, ?_⟩
    · show OpOk _ _ _ _ _
      have h0 : a.tmps.getD 0 undef = .pointer (some ⟨d, 0, none⟩) := (hold 0 (by kernel_rfl)).trans rfl
      unfold OpOk
      simp [execOp, go_sem, eval_tmp, eval_const, eval_func, h0]
      exact ⟨Below.refl _ _, rfl⟩
    refine ⟨fun s a W hlo hhi hG hkT hold hdep hgv => ?_, ?_⟩
    · show OpOk _ _ _ _ _
      have h21 : a.tmps.getD 21 undef = .pointer (some ⟨d, 0, none⟩) := hdep 1 21 (by kernel_rfl) rfl
      unfold OpOk
      simp [execOp, go_sem, eval_tmp, eval_const, eval_func, h21]
      exact ⟨Below.refl _ _, rfl⟩
    refine ⟨fun s a W hlo hhi hG hkT hold hdep hgv => ?_, ?_⟩
    · show OpOk _ _ _ _ _
      have h22 : a.tmps.getD 22 undef = .pointer (some ⟨d, 0, none⟩) := hdep 2 22 (by kernel_rfl) rfl
      unfold OpOk
      simp [execOp, go_sem, eval_tmp, eval_const, eval_func, h22]
      exact ⟨Below.refl _ _, rfl⟩
    refine ⟨fun s a W hlo hhi hG hkT hold hdep hgv => ?_, ?_⟩
    · obtain rfl : s = 0 := Nat.le_zero.1 (Nat.le_trans hhi (Nat.le_of_eq (by kernel_rfl)))
      show OpOk _ _ _ _ _
      replace hG : Below w.heap.size w W := hG
      have h23 : a.tmps.getD 23 undef = .pointer (some ⟨d, 1, none⟩) := hdep 3 23 (by kernel_rfl) rfl
      have hc : W.cell? ⟨d, 1, none⟩ = some (v) := (rd.out.below hG rd.out.lt).cell rfl
      unfold OpOk
      simp [execOp, go_sem, eval_tmp, eval_const, eval_func, h23, hc]
      exact ⟨Below.refl _ _, rfl⟩
    refine ⟨fun s a W hlo hhi hG hkT hold hdep hgv => ?_, ?_⟩
    · show OpOk _ _ _ _ _
      have h1 : a.tmps.getD 1 undef = .int .i64 (p.1 : Nat) := (hold 1 (by kernel_rfl)).trans rfl
      unfold OpOk
      simp [execOp, go_sem, eval_tmp, eval_const, eval_func, h1]
      exact ⟨Below.refl _ _, rfl⟩
    refine ⟨fun s a W hlo hhi hG hkT hold hdep hgv => ?_, ?_⟩
    · obtain rfl : s = 0 := Nat.le_zero.1 (Nat.le_trans hhi (Nat.le_of_eq (by kernel_rfl)))
      show OpOk _ _ _ _ _
      replace hG : Below w.heap.size w W := hG
      have h5 : a.tmps.getD 5 undef = .pointer (some ⟨b, 0, none⟩) := (hold 5 (by kernel_rfl)).trans rfl
      exact opOk_load 32 _ rfl b (by rw [eval_tmp, h5]) 32 (blkA p.2) _ (rb.out.below hG rb.out.lt) Try.underlying32 rfl (infoBlkCs _) rfl
    refine ⟨fun s a W hlo hhi hG hkT hold hdep hgv => ?_, ?_⟩
    · obtain rfl : s = 0 := Nat.le_zero.1 (Nat.le_trans hhi (Nat.le_of_eq (by kernel_rfl)))
      show OpOk _ _ _ _ _
      replace hG : Below w.heap.size w W := hG
      have h25 : a.tmps.getD 25 undef = .int .i64 (p.1 : Nat) := hdep 5 25 (by kernel_rfl) rfl
      have h26 : a.tmps.getD 26 undef = .agg (blkA p.2) := hdep 6 26 (by kernel_rfl) rfl
      exact opOk_build 60 _ rfl #[(0, .int .i64 (p.1 : Nat)), (1, .agg (blkA p.2))] (by simp only [List.map_toArray, List.map_cons, List.map_nil, eval_tmp, h25, h26]) _ (build_write p W) rfl
    refine ⟨fun s a W hlo hhi hG hkT hold hdep hgv => ?_, ?_⟩
    · obtain rfl : s = 0 := Nat.le_zero.1 (Nat.le_trans hhi (Nat.le_of_eq (by kernel_rfl)))
      show OpOk _ _ _ _ _
      replace hG : Below w.heap.size w W := hG
      have h27 : a.tmps.getD 27 undef = .agg (wrA p) := hdep 7 27 (by kernel_rfl) rfl
      exact opOk_buildSlice 55 60 1 _ rfl #[(0, .agg (wrA p))] (by simp only [List.map_toArray, List.map_cons, List.map_nil, eval_tmp, h27]) _ (buildSlice_write p W) ⟨_, rfl, RowAt.new _ _ _, hG.size⟩
    refine ⟨fun s a W hlo hhi hG hkT hold hdep hgv => ?_, ?_⟩
    · obtain rfl : s = 0 := Nat.le_antisymm (Nat.le_trans hhi (Nat.le_of_eq (by kernel_rfl))) (Nat.le_trans (Nat.le_of_eq (by kernel_rfl)) hlo)
      show OpR _ _ _ _ _
      replace hG : (fun W => Below w.heap.size w W) W := hG
      have h24 : a.tmps.getD 24 undef = v := hdep 4 24 (by kernel_rfl) rfl
      obtain ⟨g28, h28, rg28, hg28⟩ := hdep 8 28 (by kernel_rfl) rfl
      refine opR_append (.tmp 24) (.tmp 28) 55 rfl 0 60 129 136 Try.underlying55 infoWr (by decide) v S.hangs.length (hangA S.hangs) h24 (ownsRow_kept hd.hangs (Kept.of_below (S := fun _ => False) hG) (fun _ _ h => h)) ⟨g28, 0, none⟩ 1 1 (wrA p).toList h28 (by rw [Array.length_toList, wrA_size]) (cells_rangeL rg28) (all_list (wrA_one p)) (by simp only [maxLen]; omega) (by omega) (Nat.zero_le _) ?_
      intro v' W' ho hgr hloc
      have ho2 : W'.ownsRow 0 60 129 v' (S.hangs.length + 1) (hangA (S.hangs ++ [p])) := by rw [hangA_snoc]; exact ho
      refine ⟨grown_kept hgr, ?_, ho2, fun g hg => ?_, ?_⟩
      · exact (Kept.of_below hG).trans (grown_kept hgr)
      · rcases hloc with h | h
        · exact .inl (by rw [← h]; exact hg)
        · rw [h] at hg; cases hg; exact .inr hG.size
      · rcases ho2.2 with ⟨hv', h0⟩ | ⟨g, cap, cur, hv', _⟩
        · omega
        · exact ⟨_, _, hv'⟩
    refine ⟨fun s a W hlo hhi hG hkT hold hdep hgv => ?_, ?_⟩
    · show OpOk _ _ _ _ _
      have h20 : a.tmps.getD 20 undef = .pointer (some ⟨d, 0, none⟩) := hdep 0 20 (by kernel_rfl) rfl
      unfold OpOk
      simp [execOp, go_sem, eval_tmp, eval_const, eval_func, h20]
      exact ⟨Below.refl _ _, rfl⟩
    refine ⟨fun s a W hlo hhi hG hkT hold hdep hgv => ?_, ?_⟩
    · show OpOk _ _ _ _ _
      have h30 : a.tmps.getD 30 undef = .pointer (some ⟨d, 0, none⟩) := hdep 10 30 (by kernel_rfl) rfl
      unfold OpOk
      simp [execOp, go_sem, eval_tmp, eval_const, eval_func, h30]
      exact ⟨Below.refl _ _, rfl⟩
    refine ⟨fun s a W hlo hhi hG hkT hold hdep hgv => ?_, ?_⟩
    · obtain rfl : s = 1 := Nat.le_antisymm (Nat.le_trans hhi (Nat.le_of_eq (by kernel_rfl))) (Nat.le_trans (Nat.le_of_eq (by kernel_rfl)) hlo)
      show OpR _ _ _ _ _
      replace hG : (fun W => Kept (fun k => v.ownBlock = some k) w W) W := hG
      have h31 : a.tmps.getD 31 undef = .pointer (some ⟨d, 1, none⟩) := hdep 11 31 (by kernel_rfl) rfl
      obtain ⟨hown29, hloc29, q29, c29, h29⟩ := hdep 9 29 (by kernel_rfl) rfl
      rw [h29] at hown29 hloc29
      have rW := hG.row rd.out hvd
      refine opR_store 55 (.tmp 31) (.tmp 29) rfl d 1 _ h31 h29 rfl infoSl (by rw [rW.cell (j := 1) rfl]; rfl) (rW.free 1) ?_
      refine ⟨(Kept.refl (· = d) _).setCell ⟨d, 1, none⟩ (.inl rfl) _, ⟨_, rW.set 1 _, ?_, hloc29⟩, rfl⟩
      exact ownsRow_kept hown29 ((Kept.refl (· = d) _).setCell ⟨d, 1, none⟩ (.inl rfl) _) (fun g hg => hv1 g (hloc29 g hg))
    trivial
  case r7fin =>
    intro X W hG hkT hX
    replace hG : (fun W => ∃ v', RowAt W d 57 (diskA L S.n v' M S.steps S.fuse S.down) ∧ W.ownsRow 0 60 129 v' (S.hangs.length + 1) (hangA (S.hangs ++ [p])) ∧ ∀ g, v'.ownBlock = some g → v.ownBlock = some g ∨ w.heap.size ≤ g) W := hG
    have e20 : X 20 = .pointer (some ⟨d, 0, none⟩) := hX 0 20 (by decide) rfl
    have e21 : X 21 = .pointer (some ⟨d, 0, none⟩) := hX 1 21 (by decide) rfl
    have e22 : X 22 = .pointer (some ⟨d, 0, none⟩) := hX 2 22 (by decide) rfl
    have e23 : X 23 = .pointer (some ⟨d, 1, none⟩) := hX 3 23 (by decide) rfl
    have e24 : X 24 = v := hX 4 24 (by decide) rfl
    have e25 : X 25 = .int .i64 (p.1 : Nat) := hX 5 25 (by decide) rfl
    have e26 : X 26 = .agg (blkA p.2) := hX 6 26 (by decide) rfl
    have e27 : X 27 = .agg (wrA p) := hX 7 27 (by decide) rfl
    obtain ⟨g28, e28, rg28, hg28⟩ := hX 8 28 (by decide) rfl
    obtain ⟨hown29, hloc29, q29, c29, e29⟩ := hX 9 29 (by decide) rfl
    have e30 : X 30 = .pointer (some ⟨d, 0, none⟩) := hX 10 30 (by decide) rfl
    have e31 : X 31 = .pointer (some ⟨d, 1, none⟩) := hX 11 31 (by decide) rfl
    clear hX
    simp only [List.map_cons, List.map_nil, putAll, List.foldl_cons, List.foldl_nil, List.setIfInBounds_toArray, List.set_cons_zero, List.set_cons_succ, e20, e21, e22, e23, e24, e25, e26, e27, e28, e29, e30, e31]
    clear e20 e21 e22 e23 e24 e25 e26 e27 e28 e29 e30 e31
    exact hK _ _ _ _ _ _ _ _ _ _ _ _ _ hG hkT

set_option maxRecDepth 1000000 in
set_option maxHeartbeats 4000000 in
theorem write_r8 {d M b n : Nat} {D : DataW Value} {x0 x1 x3 x4 x5 : Value} {p : Nat × Blk} {w : World} (hp : p.1 < 4096) (rd : Hid (RowAt w d 57 #[x0, x1, .map (some M), x3, x4, x5])) (rb : Hid (RowAt w b 32 (blkA p.2))) (hs : Hid (Shown w M n D)) (hn : n < 1000000000) {Q : Exit → Act → World → Prop} (u2 u3 u4 u6 u7 u8 u9 u10 u11 u12 u13 u14 u15 u16 u17 u18 u19 u20 u21 u22 u23 u24 u25 u26 u27 u28 u29 u30 u31 u32 u33 u34 u35 u36 u37 : Value)
    (hK : ∀ (v32 v33 v34 v35 v36 v37 : Value) (W : World), Shown W M (n + 1) (D.put (.int .i64 (p.1 : Nat)) (.held (.agg (blkA p.2)))) → Kept (fun k => k = M) w W → Q .normal { tmps := #[.pointer (some ⟨d, 0, none⟩), .int .i64 (p.1 : Nat), u2, u3, u4, .pointer (some ⟨b, 0, none⟩), u6, u7, u8, u9, u10, u11, u12, u13, u14, u15, u16, u17, u18, u19, u20, u21, u22, u23, u24, u25, u26, u27, u28, u29, u30, u31, v32, v33, v34, v35, v36, v37], defers := [] } W) :
    (fragR Try.f9 8).wp Try.prog Q { tmps := #[.pointer (some ⟨d, 0, none⟩), .int .i64 (p.1 : Nat), u2, u3, u4, .pointer (some ⟨b, 0, none⟩), u6, u7, u8, u9, u10, u11, u12, u13, u14, u15, u16, u17, u18, u19, u20, u21, u22, u23, u24, u25, u26, u27, u28, u29, u30, u31, u32, u33, u34, u35, u36, u37], defers := [] } w := by
  dsimp only at hK ⊢
  rw [show fragR Try.f9 8 = Code.region _ (List.toArray _) true from rfl]
  have hwf := wf_nat (n := p.1) (by omega)
  refine wp_region_st 38 [6] [32, 33, 34, 35, 36, 37] (phiOf [QV (.pointer (some ⟨d, 0, none⟩)), QV (.pointer (some ⟨d, 0, none⟩)), QV (.pointer (some ⟨d, 2, none⟩)), QV (.map (some M)), QV (.int .i64 (p.1 : Nat)), QV (.agg (blkA p.2)), QV (undef)]) (gOf [fun W => Below w.heap.size w W, fun W => Shown W M (n + 1) (D.put (.int .i64 (p.1 : Nat)) (.held (.agg (blkA p.2))))]) (tOf [fun k => k = M]) (fun k => k = M) (by kernel_rfl) (by kernel_rfl) (by kernel_rfl) rfl ?r8TT (phi_st ?r8st) (gOf_stays ?r8G) ?r8G0 ?r8g ?r8op ?r8fin
  case r8TT =>
    refine tOf_in ?_
    simp only [List.forall_mem_cons]; exact ⟨fun b hb => hb, fun _ h => by cases h⟩
  case r8st => exact ⟨stq _ _ _ _, stq _ _ _ _, stq _ _ _ _, stq _ _ _ _, stq _ _ _ _, stq _ _ _ _, stq _ _ _ _, trivial⟩
  case r8G => simp only [List.forall_mem_cons]; exact ⟨fun W W' h hb => below_cat hb h, fun W W' h hb => Shown.kept h (Kept.of_below (S := fun _ => False) hb) (fun h => h), fun _ h => by cases h⟩
  case r8G0 => exact (Below.refl _ _).drew
  case r8g => exact no_guards rfl
  case r8op =>
    refine ⟨fun s a W hlo hhi hG hkT hold hdep hgv => ?_, ?_⟩
    · show OpOk _ _ _ _ _
      have h0 : a.tmps.getD 0 undef = .pointer (some ⟨d, 0, none⟩) := (hold 0 (by kernel_rfl)).trans rfl
      unfold OpOk
      simp [execOp, go_sem, eval_tmp, eval_const, eval_func, h0]
      exact ⟨Below.refl _ _, rfl⟩
    refine ⟨fun s a W hlo hhi hG hkT hold hdep hgv => ?_, ?_⟩
    · show OpOk _ _ _ _ _
      have h32 : a.tmps.getD 32 undef = .pointer (some ⟨d, 0, none⟩) := hdep 0 32 (by kernel_rfl) rfl
      unfold OpOk
      simp [execOp, go_sem, eval_tmp, eval_const, eval_func, h32]
      exact ⟨Below.refl _ _, rfl⟩
    refine ⟨fun s a W hlo hhi hG hkT hold hdep hgv => ?_, ?_⟩
    · show OpOk _ _ _ _ _
      have h33 : a.tmps.getD 33 undef = .pointer (some ⟨d, 0, none⟩) := hdep 1 33 (by kernel_rfl) rfl
      unfold OpOk
      simp [execOp, go_sem, eval_tmp, eval_const, eval_func, h33]
      exact ⟨Below.refl _ _, rfl⟩
    refine ⟨fun s a W hlo hhi hG hkT hold hdep hgv => ?_, ?_⟩
    · obtain rfl : s = 0 := Nat.le_zero.1 (Nat.le_trans hhi (Nat.le_of_eq (by kernel_rfl)))
      show OpOk _ _ _ _ _
      replace hG : Below w.heap.size w W := hG
      have h34 : a.tmps.getD 34 undef = .pointer (some ⟨d, 2, none⟩) := hdep 2 34 (by kernel_rfl) rfl
      have hc : W.cell? ⟨d, 2, none⟩ = some (.map (some M)) := (rd.out.below hG rd.out.lt).cell rfl
      unfold OpOk
      simp [execOp, go_sem, eval_tmp, eval_const, eval_func, h34, hc]
      exact ⟨Below.refl _ _, rfl⟩
    refine ⟨fun s a W hlo hhi hG hkT hold hdep hgv => ?_, ?_⟩
    · show OpOk _ _ _ _ _
      have h1 : a.tmps.getD 1 undef = .int .i64 (p.1 : Nat) := (hold 1 (by kernel_rfl)).trans rfl
      unfold OpOk
      simp [execOp, go_sem, eval_tmp, eval_const, eval_func, h1]
      exact ⟨Below.refl _ _, rfl⟩
    refine ⟨fun s a W hlo hhi hG hkT hold hdep hgv => ?_, ?_⟩
    · obtain rfl : s = 0 := Nat.le_zero.1 (Nat.le_trans hhi (Nat.le_of_eq (by kernel_rfl)))
      show OpOk _ _ _ _ _
      replace hG : Below w.heap.size w W := hG
      have h5 : a.tmps.getD 5 undef = .pointer (some ⟨b, 0, none⟩) := (hold 5 (by kernel_rfl)).trans rfl
      exact opOk_load 32 _ rfl b (by rw [eval_tmp, h5]) 32 (blkA p.2) _ (rb.out.below hG rb.out.lt) Try.underlying32 rfl (infoBlkCs _) rfl
    refine ⟨fun s a W hlo hhi hG hkT hold hdep hgv => ?_, ?_⟩
    · obtain rfl : s = 0 := Nat.le_antisymm (Nat.le_trans hhi (Nat.le_of_eq (by kernel_rfl))) (Nat.le_trans (Nat.le_of_eq (by kernel_rfl)) hlo)
      show OpR _ _ _ _ _
      replace hG : (fun W => Below w.heap.size w W) W := hG
      have h35 : a.tmps.getD 35 undef = .map (some M) := hdep 3 35 (by kernel_rfl) rfl
      have h36 : a.tmps.getD 36 undef = .int .i64 (p.1 : Nat) := hdep 4 36 (by kernel_rfl) rfl
      have h37 : a.tmps.getD 37 undef = .agg (blkA p.2) := hdep 5 37 (by kernel_rfl) rfl
      refine opR_mapUpdate (.tmp 35) (.tmp 36) (.tmp 37) 54 rfl 3 32 kint Try.underlying54 rdr M n D h35 (hs.out.kept (Kept.of_below (S := fun _ => False) hG) (fun h => h)) (by simp only [maxLen]; omega) _ _ (.int .i64 (p.1 : Nat)) h36 h37 (key_at _ hwf) (.held (.agg (blkA p.2))) [] rfl ?_
      intro W' ho hgr
      exact ⟨(grown_kept hgr).mono (fun k _ h => by cases h; rfl), ho, rfl⟩
    trivial
  case r8fin =>
    intro X W hG hkT hX
    replace hG : (fun W => Shown W M (n + 1) (D.put (.int .i64 (p.1 : Nat)) (.held (.agg (blkA p.2))))) W := hG
    have e32 : X 32 = .pointer (some ⟨d, 0, none⟩) := hX 0 32 (by decide) rfl
    have e33 : X 33 = .pointer (some ⟨d, 0, none⟩) := hX 1 33 (by decide) rfl
    have e34 : X 34 = .pointer (some ⟨d, 2, none⟩) := hX 2 34 (by decide) rfl
    have e35 : X 35 = .map (some M) := hX 3 35 (by decide) rfl
    have e36 : X 36 = .int .i64 (p.1 : Nat) := hX 4 36 (by decide) rfl
    have e37 : X 37 = .agg (blkA p.2) := hX 5 37 (by decide) rfl
    clear hX
    simp only [List.map_cons, List.map_nil, putAll, List.foldl_cons, List.foldl_nil, List.setIfInBounds_toArray, List.set_cons_zero, List.set_cons_succ, e32, e33, e34, e35, e36, e37]
    clear e32 e33 e34 e35 e36 e37
    exact hK _ _ _ _ _ _ _ hG hkT

end Go.Proofs.Ytaofpeajfgcjcaa