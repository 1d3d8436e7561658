/- Disk: the document's disk; Read. -/
import Derived.Test.YtaofpeajfgcjcaaDrA
namespace Go.Proofs.Ytaofpeajfgcjcaa
open Go Go.RowKit Go.Maps
set_option linter.unusedSimpArgs false
set_option linter.unusedVariables false

theorem info_rwr : (Try.prog.info? 68).map (·.size) = some 129 := by kernel_rfl
theorem zero_rwr (w : World) : (zeroValue 68).run Try.prog w = .ok (.agg zeroWr) w := by unfold zeroWr; kernel_rfl
theorem cells_rwr (w : World) (p : Nat × Blk) : (storeCells ⟨w.heap.size, 0, none⟩ (wrA p).toList).run Try.prog (w.alloc (.cells zeroWr 68)) = .ok () (w.alloc (.cells (wrA p) 68)) := by
  have := cells_any (P := Try.prog) (ty := 68) (cells := wrA p) (by rw [wrA_size]; exact info_rwr) (RowAt.new w zeroWr 68) (by rw [zeroWr_size, wrA_size]) (wrA_one p)
  rwa [World.setRow_alloc_new] at this
theorem kept_setRow {T : Nat → Prop} {A B : World} (h : Kept T A B) (g : Nat) (hg : T g) (C : Array Value) : Kept T A (B.setRow g C) :=
  h.trans ⟨rfl, rfl, rfl, by simp, fun k _ hs => setRow_other B g k C (fun e => hs (e ▸ hg))⟩
/-- What is read once so many writes are looked at. -/
def lookN (S : DS) (i a : Nat) : Blk := (shownZ (S.hangs.take i) (a : Int)).getD (secOf S.lasts a)
theorem lookN_zero (S : DS) (a : Nat) : lookN S 0 a = secOf S.lasts a := rfl
theorem lookN_all (S : DS) (a : Nat) : lookN S S.hangs.length a = S.look (a : Int) := by simp [lookN, DS.look]
theorem lookN_succ (S : DS) (i a : Nat) (p : Nat × Blk) (hp : S.hangs[i]? = some p) : lookN S (i + 1) a = if (p.1 : Int) = (a : Int) then p.2 else lookN S i a := by
  have : S.hangs.take (i + 1) = S.hangs.take i ++ [p] := by
    obtain ⟨h, rfl⟩ := List.getElem?_eq_some_iff.1 hp
    exact List.take_succ_eq_append_getElem h
  rw [lookN, this, shownZ_snoc]
  split
  · rfl
  · rfl
theorem hangs_slice {w : World} {v : Value} {n sz : Nat} {e : TypeId} {xs : List Value} (h : w.ownsRow 0 e sz v n xs) : ∃ q c, v = .slice q n c ∧ (0 < n → ∃ g, q = some ⟨g, 0, none⟩ ∧ v.ownBlock = some g) := by
  rcases h.2 with ⟨h1, h2⟩ | ⟨g, cap, cur, h1, _⟩
  · exact ⟨none, 0, by rw [h1, h2], fun h => by omega⟩
  · exact ⟨_, _, h1, fun _ => ⟨g, rfl, by rw [h1]; rfl⟩⟩
theorem hangs_range {w : World} {v : Value} {e : TypeId} {hs : List (Nat × Blk)} (h : w.ownsRow 0 e 129 v hs.length (hangA hs)) {g : Nat} (hvg : v.ownBlock = some g) {i : Nat} {p : Nat × Blk} (hp : hs[i]? = some p) : w.rangeAt g (i * 129) (wrA p).toList := by
  intro j u hj
  have h1 : j < 129 := by have := (List.getElem?_eq_some_iff.1 hj).1; rwa [Array.length_toList, wrA_size] at this
  have h2 := World.ownsRow.cells h hvg (i * 129 + j) u (by rw [hangA_get _ i p hp j h1]; rwa [Array.getElem?_toList] at hj)
  rwa [Addr.add_mid, Nat.zero_add] at h2
set_option maxRecDepth 100000 in
set_option maxHeartbeats 4000000 in
theorem refRead_bad {L q : Nat} {v : Value} {S : DS} {w : World} (hd : RkAt w q L v S) (a : Int) (hm : S.mayE a ≠ 0) :
    Calls Try.prog 29 #[.pointer (some ⟨q, 0, none⟩), .int .i64 a] w fun e w' => e = .returned (.tuple #[.agg zeroBlk, .int .i64 (S.mayE a)]) ∧ Below w.heap.size w w' := by
  have hz := zero_block
  have hbu := build_block
  have hzs := zeroBlk_size
  have hst := cells_block _ _ _ zeroBlk (RowAt.new w zeroBlk 32) zeroBlk_size zeroBlk_size zeroBlk_one
  rw [World.setRow_alloc_new] at hst
  have r1 := hd.row.alloc (.cells zeroBlk 32)
  have c4 : (w.alloc (.cells zeroBlk 32)).cell? ⟨q, 4, none⟩ = some (.bool S.down) := r1.cell rfl
  have c0 : (w.alloc (.cells zeroBlk 32)).cell? ⟨q, 0, none⟩ = some (.slice (some ⟨L, 0, none⟩) S.n S.n) := r1.cell rfl
  clear r1
  have hcase : (S.down = true ∧ S.mayE a = 13) ∨ (S.down = false ∧ decide (a < 0) = true ∧ S.mayE a = 2) ∨ (S.down = false ∧ decide (a < 0) = false ∧ decide ((S.n : Int) ≤ a) = true ∧ S.mayE a = 2) := by
    unfold DS.mayE mayN at *
    cases hdn : S.down with
    | true => exact .inl ⟨rfl, by simp [hdn]⟩
    | false =>
      rw [hdn] at hm
      by_cases h1 : a < 0
      · exact .inr (.inl ⟨rfl, decide_eq_true h1, by simp [h1]⟩)
      · by_cases h2 : (S.n : Int) ≤ a
        · exact .inr (.inr ⟨rfl, decide_eq_false h1, decide_eq_true h2, by simp [h2]⟩)
        · simp [h1, h2] at hm
  clear hm
  replace hd := hid hd
  rcases hcase with ⟨h1, h2⟩ | ⟨h1, h3, h2⟩ | ⟨h1, h3, h4, h2⟩
  all_goals
    rw [h2]
    rw [h1] at c4
    clear h1 h2
    go_enter Try.func29, Try.ntmps29
    go_wp2
    exact bodyPost_ret (results_row_tmpD rfl _ _ w.heap.size 32 zeroBlk (0, 0) _ rfl (RowAt.new _ _ _) Try.underlying32 rfl (by rw [info_block, zeroBlk_size])) rfl ⟨rfl, below_al (Below.refl _ _) _⟩
set_option maxRecDepth 1000000 in
set_option maxHeartbeats 4000000 in
theorem refRead_in {L q : Nat} {v : Value} {S : DS} {w : World} (hd : RkAt w q L v S) (a : Nat) (hdn : S.down = false) (han : a < S.n) (hn : S.hangs.length < 1000000000) :
    Calls Try.prog 29 #[.pointer (some ⟨q, 0, none⟩), .int .i64 (a : Nat)] w fun e w' => e = .returned (.tuple #[.agg (blkA (S.look (a : Nat))), .int .i64 0]) ∧ Below w.heap.size w w' := by
  obtain ⟨p0, c, hv, hq⟩ := hangs_slice hd.hangs
  have hz := zero_block
  have hbs := blkA_size
  have hbu := build_block
  have hzs := zeroBlk_size
  have hlt := hd.lt
  have hdY : RkAt (w.alloc (.cells zeroBlk 32)) q L v S := hd.kept (Kept.of_below (S := fun _ => False) (below_al (Below.refl _ _) _)) (fun _ _ h => h)
  have c4 : (w.alloc (.cells zeroBlk 32)).cell? ⟨q, 4, none⟩ = some (.bool false) := by rw [← hdn]; exact hdY.row.cell rfl
  have c0 : (w.alloc (.cells zeroBlk 32)).cell? ⟨q, 0, none⟩ = some (.slice (some ⟨L, 0, none⟩) S.n S.n) := hdY.row.cell rfl
  have hrg := lasts_range hdY.lasts a han
  have hst1 := cells_block _ _ _ (blkA (secOf S.lasts a)) (RowAt.new (w.alloc (.cells zeroBlk 32)) zeroBlk 32) zeroBlk_size (blkA_size _) (blkA_one _)
  rw [World.setRow_alloc_new] at hst1
  simp only [World.size_alloc] at hst1
  have c1 : ((w.alloc (.cells zeroBlk 32)).alloc (.cells (blkA (secOf S.lasts a)) 32)).cell? ⟨q, 1, none⟩ = some (.slice p0 S.hangs.length c) := by rw [← hv]; exact (hdY.row.alloc _).cell rfl
  have hib : ∀ b, (Try.prog.info? 32).map (·.size) = some (blkA b).toList.length := fun b => by rw [info_block, Array.length_toList, blkA_size]
  have i1 : (0 : Int) ≤ (a : Int) := by omega
  have i2 : (a : Int) < (S.n : Int) := by omega
  have g1 : decide ((a : Int) < 0) = false := decide_eq_false (by omega)
  have g2 : decide ((S.n : Int) ≤ (a : Int)) = false := decide_eq_false (by omega)
  have g2' : decide (S.n ≤ a) = false := decide_eq_false (by omega)
  replace hd := hid hd
  replace hdY := hid hdY
  replace hrg := hid hrg
  replace hib := hid hib
  replace hq := hid hq
  replace hv := hid hv
  replace hlt := hid hlt
  go_enter Try.func29, Try.ntmps29
  go_wp2_with (first
    | (with_reducible refine at_op (some 32) (.load 32 (.tmp 31)) ?_
       refine wpList_load_mid (op := ⟨some 32, _, _, _, _, _⟩) rfl 32 (.tmp 31) rfl L (a * 128) rfl (blkA (secOf S.lasts a)).toList _ hrg.out Try.underlying32 rfl (hib.out _) ?_
       simp only [Array.toArray_toList])
    | fail)
  obtain ⟨Y, hY⟩ : ∃ Y, Y = w.alloc (.cells zeroBlk 32) := ⟨_, rfl⟩
  have hYs : Y.heap.size = w.heap.size + 1 := by rw [hY]; simp
  have hwY : Below w.heap.size w Y := by rw [hY]; exact below_al (Below.refl _ _) _
  have r4 : RowAt Y w.heap.size 32 zeroBlk := by rw [hY]; exact RowAt.new _ _ _
  rw [← hY] at hdY hrg ⊢
  clear hst1 c4 c0 c1
  obtain ⟨X, hX⟩ : ∃ X, X = Y.alloc (.cells (blkA (secOf S.lasts a)) 32) := ⟨_, rfl⟩
  have hwX : Below Y.heap.size Y X := by rw [hX]; exact below_al (Below.refl _ _) _
  have r6 : RowAt X (w.heap.size + 1) 32 (blkA (secOf S.lasts a)) := by rw [hX, ← hYs]; exact RowAt.new _ _ _
  rw [← hX]
  have hXs : X.heap.size = w.heap.size + 2 := by rw [hX]; simp [hYs]
  have hdX : RkAt X q L v S := hdY.out.kept (Kept.of_below (S := fun _ => False) hwX) (fun _ _ h => h)
  have r4X := r4.below hwX r4.lt
  have hbX : Below w.heap.size w X := below_cat hwX hwY
  have hqlt : q < w.heap.size := hlt.out q (.inl rfl)
  have hLlt : L < w.heap.size := hlt.out L (.inr (.inl rfl))
  replace hdX := hid hdX
  replace r4X := hid r4X
  replace r6 := hid r6
  replace hbX := hid hbX
  replace hXs := hid hXs
  clear hwX hX hwY hY hYs r4 hrg hdY
  refine wp_loop_f (σ := Nat) (fun s f => #[.pointer (some ⟨q, 0, none⟩), .int .i64 (a : Nat), f 2, f 3, .pointer (some ⟨w.heap.size, 0, none⟩), .int .i64 0, .pointer (some ⟨w.heap.size + 1, 0, none⟩), f 7, f 8, f 9, f 10, f 11, f 12, f 13, f 14, f 15, f 16, f 17, f 18, f 19, f 20, f 21, f 22, f 23, f 24, f 25, f 26, f 27, f 28, f 29, f 30, f 31, f 32, f 33, f 34, f 35, .slice p0 S.hangs.length c, .int .i64 (S.hangs.length : Nat), .int .i64 (s : Nat), f 39, f 40, f 41, f 42, f 43, f 44, f 45, f 46, f 47, f 48, f 49]) (fun s W => s ≤ S.hangs.length ∧ Hid (RowAt W (w.heap.size + 1) 32 (blkA (lookN S s a))) ∧ Hid (Kept (fun k => k = w.heap.size + 1) X W)) (fun s => S.hangs.length - s) 0 [] rfl rfl ⟨Nat.zero_le _, r6, hid (Kept.refl _ _)⟩ ?_
  rintro i f W ⟨hi, hR, hK⟩ K hKK
  dsimp only at hi hR hK hKK ⊢
  replace hKK := hid hKK
  by_cases hlti : i < S.hangs.length
  · have g1 : decide ((i : Int) < (S.hangs.length : Int)) = true := decide_eq_true (by omega)
    obtain ⟨g, rfl, hvg⟩ := hq.out (by omega)
    obtain ⟨p, hp⟩ : ∃ p, S.hangs[i]? = some p := ⟨_, List.getElem?_eq_getElem hlti⟩
    have hglt : g < w.heap.size := hlt.out g (.inr (.inr hvg))
    have hrg := hangs_range (ownsRow_kept hdX.out.hangs hK.out (fun x hx => by rw [hvg] at hx; cases hx; omega)) hvg hp
    have hiw : (Try.prog.info? 68).map (·.size) = some (wrA p).toList.length := by rw [Array.length_toList, wrA_size]; exact info_rwr
    have hz2 := zero_rwr
    have hzs2 := zeroWr_size
    have hws := wrA_size p
    have hadd : IntKind.i64.wrap ((i : Int) + 1) = ((i + 1 : Nat) : Int) := by rw [IntKind.wrap_i64]; omega
    have hst := cells_rwr W p
    have i1 : (0 : Int) ≤ (i : Int) := by omega
    have i2 : (i : Int) < (S.hangs.length : Int) := by omega
    have hsz := hK.out.size
    have r8 := RowAt.new W (wrA p) 68
    have c80 : (W.alloc (.cells (wrA p) 68)).cell? ⟨W.heap.size, 0, none⟩ = some (.int .i64 (p.1 : Nat)) := r8.cell (wrA_get0 p)
    have hrb : (W.alloc (.cells (wrA p) 68)).rangeAt W.heap.size 1 (blkA p.2).toList := by
      intro j u hj
      refine r8.cell ?_
      rw [Nat.add_comm, wrA_get, ← Array.getElem?_toList]
      exact hj
    have r6W := hR.out.alloc (.cells (wrA p) 68)
    have hst6 := cells_block _ _ _ (blkA p.2) r6W (blkA_size _) (blkA_size _) (blkA_one _)
    have hsucc := lookN_succ S i a p hp
    have hkW : Kept (fun k => k = w.heap.size + 1) X (W.alloc (.cells (wrA p) 68)) := hK.out.trans (Kept.of_below (below_al (Below.refl _ _) _))
    replace hrg := hid hrg
    replace hiw := hid hiw
    replace hp := hid hp
    replace hvg := hid hvg
    replace hrb := hid hrb
    replace r8 := hid r8
    replace r6W := hid r6W
    replace hsz := hid hsz
    replace hsucc := hid hsucc
    replace hkW := hid hkW
    have gg : (((p.1 : Int) == (a : Int)) = true ∧ lookN S (i + 1) a = p.2) ∨ (((p.1 : Int) == (a : Int)) = false ∧ lookN S (i + 1) a = lookN S i a) := by
      by_cases e : (p.1 : Int) = (a : Int)
      · exact .inl ⟨by rw [beq_iff_eq]; exact e, by rw [hsucc.out, if_pos e]⟩
      · exact .inr ⟨by rw [beq_eq_false_iff_ne]; exact e, by rw [hsucc.out, if_neg e]⟩
    rcases gg with ⟨ge, hl⟩ | ⟨ge, hl⟩
    all_goals
      replace hl := hid hl
      go_wp2_with (first
        | (with_reducible refine at_op (some 41) (.load 68 (.tmp 40)) ?_
           refine wpList_load_mid (op := ⟨some 41, _, _, _, _, _⟩) rfl 68 (.tmp 40) rfl g (i * 129) rfl (wrA p).toList _ hrg.out Try.underlying68 rfl hiw.out ?_
           simp only [Array.toArray_toList])
        | (with_reducible refine at_op (some 47) (.load 32 (.tmp 46)) ?_
           refine wpList_load_mid (op := ⟨some 47, _, _, _, _, _⟩) rfl 32 (.tmp 46) rfl W.heap.size 1 rfl (blkA p.2).toList _ hrb.out Try.underlying32 rfl (hib.out _) ?_
           simp only [Array.toArray_toList]))
    · refine hKK.out (i + 1) _ _ rfl (by omega) ⟨hlti, hid ?_, hid ?_⟩
      · rw [hl.out]; exact setRow_heap _ _ _ _ _ _ r6W.out
      · exact kept_setRow hkW.out _ rfl _
    · refine hKK.out (i + 1) _ _ rfl (by omega) ⟨hlti, hid ?_, hid hkW.out⟩
      rw [hl.out]; exact r6W.out
  · obtain rfl : i = S.hangs.length := by omega
    have g1 : decide (((S.hangs.length : Nat) : Int) < (S.hangs.length : Int)) = false := decide_eq_false (by omega)
    clear hKK
    have hR6 := hR.out
    rw [lookN_all] at hR6
    have r4W := hK.out.row r4X.out (by omega)
    have hst4 := cells_block _ _ _ (blkA (S.look (a : Nat))) r4W zeroBlk_size (blkA_size _) (blkA_one _)
    have hend : RowAt (W.setRow w.heap.size (blkA (S.look (a : Nat)))) w.heap.size 32 (blkA (S.look (a : Nat))) := setRow_heap _ _ _ _ _ _ r4W
    have hbel : Below w.heap.size w (W.setRow w.heap.size (blkA (S.look (a : Nat)))) := below_setRow (below_kept hbX.out hK.out (by have := hXs.out; omega) (fun k hk => by omega)) (Nat.le_refl _) _
    replace hR6 := hid hR6
    replace hR := hid hR
    replace r4W := hid r4W
    replace hend := hid hend
    replace hbel := hid hbel
    go_wp2_with (first
      | (with_reducible refine at_op (some 49) (.load 32 (.tmp 6)) ?_
         refine wpList_load_row (o := ⟨some 49, _, _, _, _, _⟩) rfl 32 (.tmp 6) rfl (w.heap.size + 1) rfl 32 (blkA (S.look (a : Nat))) (0, 0) _ hR6.out Try.underlying32 rfl (infoBlkCs _) ?_)
      | fail)
    exact bodyPost_ret (results_row_tmpD rfl _ _ w.heap.size 32 (blkA (S.look (a : Nat))) (0, 0) _ rfl hend.out Try.underlying32 rfl (infoBlkCs _)) rfl ⟨rfl, hbel.out⟩
/-- **READ (document).** -/
theorem refRead_any {F : Nat → Prop} {q : Nat} {S : DS} {w : World} (h : Rk w F q S) (a : Int) (hn : S.hangs.length < 1000000000) :
    Calls Try.prog 29 #[.pointer (some ⟨q, 0, none⟩), .int .i64 a] w fun e w' => e = .returned (.tuple #[.agg (blkA (S.read a).1), .int .i64 (S.read a).2]) ∧ Below w.heap.size w w' := by
  obtain ⟨L, v, hd, hF⟩ := h
  by_cases hm : S.mayE a = 0
  · rw [show S.read a = (S.look a, 0) by simp [DS.read, hm]]
    obtain ⟨hdn, h0, hlt⟩ := mayN_zero hm
    obtain ⟨k, rfl⟩ : ∃ k : Nat, a = (k : Int) := ⟨a.toNat, by omega⟩
    exact refRead_in hd k hdn (by omega) hn
  · rw [show S.read a = (fun _ => 0, S.mayE a) by simp [DS.read, hm], ← zero_blkA]
    exact refRead_bad hd a hm
end Go.Proofs.Ytaofpeajfgcjcaa
