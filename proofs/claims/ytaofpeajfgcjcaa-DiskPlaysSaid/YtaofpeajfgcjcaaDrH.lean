/- Disk: Do. -/
import Derived.Test.YtaofpeajfgcjcaaDrG
namespace Go.Proofs.Ytaofpeajfgcjcaa
open Go Go.RowKit Go.Maps
set_option linter.unusedSimpArgs false
set_option linter.unusedVariables false

theorem box_act (q : ActT) (w : World) : (Instr.box 29 (.agg #[.int .i64 q.1, .int .i64 q.2.1, .int .u8 (q.2.2.toNat : Nat)])).run Try.prog w = .ok (.pointer (some ⟨w.heap.size, 0, none⟩)) (w.alloc (.cells #[.int .i64 q.1, .int .i64 q.2.1, .int .u8 (q.2.2.toNat : Nat)] 29)) := by
  simp [Instr.box, newVar, newRow, Value.cells]

set_option maxRecDepth 1000000 in
set_option maxHeartbeats 16000000 in
theorem do_sync {F G : Nat → Prop} {d p : Nat} {S : DS} {w : World} (h : Pair w F G d p S) (hok : S.Ok) (q : ActT) (hq : actOk q) (hr : q.1.tmod 5 = 1 ∨ q.1.tmod 5 = -1) :
    Calls Try.prog 18 #[.pointer (some ⟨d, 0, none⟩), .pointer (some ⟨p, 0, none⟩), .agg #[.int .i64 q.1, .int .i64 q.2.1, .int .u8 (q.2.2.toNat : Nat)]] w fun e w' => e = .returned (.bool true) ∧ PairTo w F G d p (S.sync).2 w' := by
  have hbx := box_act q
  obtain ⟨A, hA⟩ : ∃ A, A = Obj.cells #[.int .i64 q.1, .int .i64 q.2.1, .int .u8 (q.2.2.toNat : Nat)] 29 := ⟨_, rfl⟩
  have rb := RowAt.new w #[.int .i64 q.1, .int .i64 q.2.1, .int .u8 (q.2.2.toNat : Nat)] 29
  have c0 := rb.cell (j := 0) rfl
  have c1 := rb.cell (j := 1) rfl
  have hp := h.below (below_al (Below.refl _ _) (.cells #[.int .i64 q.1, .int .i64 q.2.1, .int .u8 (q.2.2.toNat : Nat)] 29))
  have hb0 := below_al (Below.refl w.heap.size w) (.cells #[.int .i64 q.1, .int .i64 q.2.1, .int .u8 (q.2.2.toNat : Nat)] 29)
  have hn := hok.hn
  clear hA A
  replace h := hid h
  replace hp := hid hp
  replace hb0 := hid hb0
  replace hok := hid hok
  replace hq := hid hq
  replace rb := hid rb
  rcases hr with hr | hr
  all_goals
    go_enter Try.func18, Try.ntmps18
    go_wp2_with (first
      | (go_at_call 13; refine (sync_any hp.out.dk hok.out).mono ?_; rintro e w2 ⟨rfl, ht⟩
         have hm := hid (hp.out.mid (Below.refl _ _) ht)
         replace ht := hid ht)
      | (go_at_call 28; obtain ⟨F', m1, m2, m3, m4⟩ := hm.out; refine (refSync_any m2 hok.out).mono ?_; rintro e w3 ⟨rfl, ht2⟩
         replace ht2 := hid ht2
         clear m1 m2 m3 m4))
    go_ret
    exact ⟨rfl, h.out.both hb0.out ht.out ht2.out⟩

set_option maxRecDepth 1000000 in
set_option maxHeartbeats 16000000 in
theorem do_crash {F G : Nat → Prop} {d p : Nat} {S : DS} {w : World} (h : Pair w F G d p S) (hok : S.Ok) (q : ActT) (hq : actOk q) (hr : q.1.tmod 5 = 4 ∨ q.1.tmod 5 = -4) :
    Calls Try.prog 18 #[.pointer (some ⟨d, 0, none⟩), .pointer (some ⟨p, 0, none⟩), .agg #[.int .i64 q.1, .int .i64 q.2.1, .int .u8 (q.2.2.toNat : Nat)]] w fun e w' => e = .returned (.bool true) ∧ PairTo w F G d p (S.crash q.2.1) w' := by
  have hbx := box_act q
  obtain ⟨A, hA⟩ : ∃ A, A = Obj.cells #[.int .i64 q.1, .int .i64 q.2.1, .int .u8 (q.2.2.toNat : Nat)] 29 := ⟨_, rfl⟩
  have rb := RowAt.new w #[.int .i64 q.1, .int .i64 q.2.1, .int .u8 (q.2.2.toNat : Nat)] 29
  have c0 := rb.cell (j := 0) rfl
  have c1 := rb.cell (j := 1) rfl
  have hp := h.below (below_al (Below.refl _ _) (.cells #[.int .i64 q.1, .int .i64 q.2.1, .int .u8 (q.2.2.toNat : Nat)] 29))
  have hb0 := below_al (Below.refl w.heap.size w) (.cells #[.int .i64 q.1, .int .i64 q.2.1, .int .u8 (q.2.2.toNat : Nat)] 29)
  have hn := hok.hn
  clear hA A
  replace h := hid h
  replace hp := hid hp
  replace hb0 := hid hb0
  replace hok := hid hok
  replace hq := hid hq
  replace rb := hid rb
  have hk := bounds_i64 hq.out.2
  have hko : keepOk q.2.1 := ⟨by omega, by omega⟩
  replace hko := hid hko
  clear hk
  rcases hr with hr | hr
  all_goals
    go_enter Try.func18, Try.ntmps18
    go_wp2_with (first
      | (go_at_call 11; refine (crash_any hp.out.dk hok.out q.2.1 hko.out).mono ?_; rintro e w2 ⟨rfl, ht⟩
         have hm := hid (hp.out.mid (Below.refl _ _) ht)
         have c1b : w2.cell? ⟨w.heap.size, 1, none⟩ = some (.int .i64 q.2.1) := by
           obtain ⟨F', _, k2, _⟩ := id ht
           exact (k2.row rb.out (fun hf => by have := h.out.dk.lt _ hf; omega)).cell rfl
         replace ht := hid ht)
      | (go_at_call 30; obtain ⟨F', m1, m2, m3, m4⟩ := hm.out; refine (refCrash_any m2 hok.out q.2.1 hko.out).mono ?_; rintro e w3 ⟨rfl, ht2⟩
         replace ht2 := hid ht2
         clear m1 m2 m3 m4))
    go_ret
    exact ⟨rfl, h.out.both hb0.out ht.out ht2.out⟩

set_option maxRecDepth 1000000 in
set_option maxHeartbeats 16000000 in
theorem do_fuse {F G : Nat → Prop} {d p : Nat} {S : DS} {w : World} (h : Pair w F G d p S) (hok : S.Ok) (q : ActT) (hq : actOk q) (hr : q.1.tmod 5 = 3 ∨ q.1.tmod 5 = -3) :
    Calls Try.prog 18 #[.pointer (some ⟨d, 0, none⟩), .pointer (some ⟨p, 0, none⟩), .agg #[.int .i64 q.1, .int .i64 q.2.1, .int .u8 (q.2.2.toNat : Nat)]] w fun e w' => e = .returned (.bool true) ∧ PairTo w F G d p (S.setFuse q.2.1) w' := by
  have hbx := box_act q
  obtain ⟨A, hA⟩ : ∃ A, A = Obj.cells #[.int .i64 q.1, .int .i64 q.2.1, .int .u8 (q.2.2.toNat : Nat)] 29 := ⟨_, rfl⟩
  have rb := RowAt.new w #[.int .i64 q.1, .int .i64 q.2.1, .int .u8 (q.2.2.toNat : Nat)] 29
  have c0 := rb.cell (j := 0) rfl
  have c1 := rb.cell (j := 1) rfl
  have hp := h.below (below_al (Below.refl _ _) (.cells #[.int .i64 q.1, .int .i64 q.2.1, .int .u8 (q.2.2.toNat : Nat)] 29))
  have hb0 := below_al (Below.refl w.heap.size w) (.cells #[.int .i64 q.1, .int .i64 q.2.1, .int .u8 (q.2.2.toNat : Nat)] 29)
  have hn := hok.hn
  clear hA A
  replace h := hid h
  replace hp := hid hp
  replace hb0 := hid hb0
  replace hok := hid hok
  replace hq := hid hq
  replace rb := hid rb
  have hmx : ∀ w, (Builtin.max_ #[3, 3] 3 #[.int .i64 q.2.1, .int .i64 (-1)]).run Try.prog w = .ok (.int .i64 (max q.2.1 (-1))) w := fun w => run_mx2 _ _ _ _ _ _
  obtain ⟨L, v, hrk, hG⟩ := id hp.out.rk
  have hdp : p ≠ d := fun e => hp.out.dis d hp.out.dk.mem (by rw [← e]; exact (hG p).2 (.inl rfl))
  replace hrk := hid hrk
  replace hG := hid hG
  rcases hr with hr | hr
  all_goals
    go_enter Try.func18, Try.ntmps18
    go_wp2_with (first
      | (go_at_call 21; refine (fuse_any hp.out.dk q.2.1).mono ?_; rintro e w2 ⟨rfl, hd2, hk2⟩
         have c1b : w2.cell? ⟨w.heap.size, 1, none⟩ = some (.int .i64 q.2.1) := (hk2.row rb.out (fun e => by have := h.out.dk.lt _ h.out.dk.mem; omega)).cell rfl
         have rp2 := hk2.row hrk.out.row hdp
         have c3 : w2.cell? ⟨p, 3, none⟩ = some (.int .i64 S.fuse) := rp2.cell rfl
         have f3 := rp2.free 3
         replace rp2 := hid rp2
         replace hd2 := hid hd2
         replace hk2 := hid hk2)
      | fail)
    go_ret
    have hk3 : Kept (fun k => k = p) w2 (w2.setCell ⟨p, 3, none⟩ (.int .i64 (max q.2.1 (-1)))) := (Kept.refl (· = p) _).setCell ⟨p, 3, none⟩ (.inl rfl) _
    have hrk2 : RkAt w2 p L v S := hrk.out.kept hk2.out (fun k hk e => hp.out.dis k (by rw [e]; exact hp.out.dk.mem) ((hG.out k).2 hk))
    have hrk3 : RkAt (w2.setCell ⟨p, 3, none⟩ (.int .i64 (max q.2.1 (-1)))) p L v (S.setFuse q.2.1) := Rk.num (S' := S.setFuse q.2.1) hrk2 hG.out (rp2.out.set 3 _) hk3 rfl rfl rfl
    have hFd := hp.out.dk.mem
    have hGp := (hG.out p).2 (.inl rfl)
    exact ⟨rfl, h.out.both hb0.out ⟨F, hd2.out, hk2.out.mono (fun k _ e => by rw [e]; exact hFd), fun k hk => .inl hk⟩ ⟨G, ⟨L, v, hrk3, hG.out⟩, hk3.mono (fun k _ e => by rw [e]; exact hGp), fun k hk => .inl hk⟩⟩

set_option maxRecDepth 1000000 in
set_option maxHeartbeats 16000000 in
theorem do_read {F G : Nat → Prop} {d p : Nat} {S : DS} {w : World} (h : Pair w F G d p S) (hok : S.Ok) (q : ActT) (hq : actOk q) (hr : q.1.tmod 5 = 2 ∨ q.1.tmod 5 = -2) :
    Calls Try.prog 18 #[.pointer (some ⟨d, 0, none⟩), .pointer (some ⟨p, 0, none⟩), .agg #[.int .i64 q.1, .int .i64 q.2.1, .int .u8 (q.2.2.toNat : Nat)]] w fun e w' => e = .returned (.bool true) ∧ PairTo w F G d p S w' := by
  have hbx := box_act q
  obtain ⟨A, hA⟩ : ∃ A, A = Obj.cells #[.int .i64 q.1, .int .i64 q.2.1, .int .u8 (q.2.2.toNat : Nat)] 29 := ⟨_, rfl⟩
  have rb := RowAt.new w #[.int .i64 q.1, .int .i64 q.2.1, .int .u8 (q.2.2.toNat : Nat)] 29
  have c0 := rb.cell (j := 0) rfl
  have c1 := rb.cell (j := 1) rfl
  have hp := h.below (below_al (Below.refl _ _) (.cells #[.int .i64 q.1, .int .i64 q.2.1, .int .u8 (q.2.2.toNat : Nat)] 29))
  have hb0 := below_al (Below.refl w.heap.size w) (.cells #[.int .i64 q.1, .int .i64 q.2.1, .int .u8 (q.2.2.toNat : Nat)] 29)
  have hn := hok.hn
  clear hA A
  replace h := hid h
  replace hp := hid hp
  replace hb0 := hid hb0
  replace hok := hid hok
  replace hq := hid hq
  replace rb := hid rb
  have hz := zero_block
  have hzs := zeroBlk_size
  have hbs := blkA_size
  have E1 := blk_eql (S.read q.2.1).1
  have E2 : ∀ op x y W, (eqGuard op 32 x y (.agg (blkA (S.read q.2.1).1)) (.agg (blkA (S.read q.2.1).1))).run Try.prog W = .ok () W := fun op x y W => blk_guard op x y _ _ W
  rcases hr with hr | hr
  all_goals
    go_enter Try.func18, Try.ntmps18
    go_wp2_with (first
      | (with_reducible refine at_op (some 54) (.load 32 (.tmp 7)) ?_
         refine wpList_load_row (o := ⟨some 54, _, _, _, _, _⟩) rfl 32 (.tmp 7) rfl w1.heap.size rfl 32 (blkA (S.read q.2.1).1) (0, 0) _ r7b.out Try.underlying32 rfl (infoBlkCs _) ?_)
      | (with_reducible refine at_op (some 55) (.load 32 (.tmp 9)) ?_
         refine wpList_load_row (o := ⟨some 55, _, _, _, _, _⟩) rfl 32 (.tmp 9) rfl w2.heap.size rfl 32 (blkA (S.read q.2.1).1) (0, 0) _ r9.out Try.underlying32 rfl (infoBlkCs _) ?_)
      | (go_at_call 15; refine (read_any hp.out.dk q.2.1 hq.out.2).mono ?_; rintro e w1 ⟨rfl, hB⟩
         have hst := cells_block _ _ _ (blkA (S.read q.2.1).1) (RowAt.new w1 zeroBlk 32) zeroBlk_size (blkA_size _) (blkA_one _)
         rw [World.setRow_alloc_new] at hst
         have b1 := below_al (below_cat hB hb0.out) (.cells (blkA (S.read q.2.1).1) 32)
         have r7 := RowAt.new w1 (blkA (S.read q.2.1).1) 32
         have rb1 := (rb.out.below hB rb.out.lt).alloc (.cells (blkA (S.read q.2.1).1) 32)
         have c1b := rb1.cell (j := 1) rfl
         have hp1 := h.out.below b1
         replace r7 := hid r7
         replace rb1 := hid rb1
         replace hp1 := hid hp1
         replace b1 := hid b1
         clear hB)
      | (go_at_call 29; refine (refRead_any hp1.out.rk q.2.1 hn).mono ?_; rintro e w2 ⟨rfl, hB⟩
         have hst2 := cells_block _ _ _ (blkA (S.read q.2.1).1) (RowAt.new w2 zeroBlk 32) zeroBlk_size (blkA_size _) (blkA_one _)
         rw [World.setRow_alloc_new] at hst2
         have b2 := below_al (below_cat hB b1.out) (.cells (blkA (S.read q.2.1).1) 32)
         have r9 := RowAt.new w2 (blkA (S.read q.2.1).1) 32
         have r7b := (r7.out.below hB r7.out.lt).alloc (.cells (blkA (S.read q.2.1).1) 32)
         replace r9 := hid r9
         replace r7b := hid r7b
         replace b2 := hid b2
         clear hB))
    go_ret
    exact ⟨rfl, ⟨F, G, h.out.below b2.out, fun k hk => hk.imp id .inl⟩, Kept.of_below b2.out⟩

set_option maxRecDepth 1000000 in
set_option maxHeartbeats 16000000 in
theorem do_write {F G : Nat → Prop} {d p : Nat} {S : DS} {w : World} (h : Pair w F G d p S) (hok : S.Ok) (q : ActT) (hq : actOk q) (hr : q.1.tmod 5 = 0) :
    Calls Try.prog 18 #[.pointer (some ⟨d, 0, none⟩), .pointer (some ⟨p, 0, none⟩), .agg #[.int .i64 q.1, .int .i64 q.2.1, .int .u8 (q.2.2.toNat : Nat)]] w fun e w' => e = .returned (.bool true) ∧ PairTo w F G d p (S.write q.2.1 (fillB q.2.2)).2 w' := by
  have hbx := box_act q
  obtain ⟨A, hA⟩ : ∃ A, A = Obj.cells #[.int .i64 q.1, .int .i64 q.2.1, .int .u8 (q.2.2.toNat : Nat)] 29 := ⟨_, rfl⟩
  have rb := RowAt.new w #[.int .i64 q.1, .int .i64 q.2.1, .int .u8 (q.2.2.toNat : Nat)] 29
  have c0 := rb.cell (j := 0) rfl
  have c1 := rb.cell (j := 1) rfl
  have hp := h.below (below_al (Below.refl _ _) (.cells #[.int .i64 q.1, .int .i64 q.2.1, .int .u8 (q.2.2.toNat : Nat)] 29))
  have hb0 := below_al (Below.refl w.heap.size w) (.cells #[.int .i64 q.1, .int .i64 q.2.1, .int .u8 (q.2.2.toNat : Nat)] 29)
  have hn := hok.hn
  clear hA A
  replace h := hid h
  replace hp := hid hp
  replace hb0 := hid hb0
  replace hok := hid hok
  replace hq := hid hq
  replace rb := hid rb
  go_enter Try.func18, Try.ntmps18
  go_wp2
  have hbF : ¬ F w.heap.size := fun hf => by have := h.out.dk.lt _ hf; omega
  refine do_r2 (q := q) hp hok hbF rb _ _ _ _ _ _ _ _ _ _ _ _ _ _ _ _ _ _ _ _ _ _ _ _ _ _ _ _ _ _ _ _ _ _ _ _ _ _ _ _ _ _ _ _ _ _ _ _ _ _ _ _ _ _ _ _ _ _ _ _ _ _ _ _ _ _ _ _ _ _ _ _ _ _ _ _ _ _ _ _ _ _ _ ?_
  intro v14 v15 v16 v17 v18 v19 v20 v21 v22 v23 v24 v25 v26 v27 v28 W hG hkT
  have hb1 := hb0.out
  have hfin : PairTo w F G d p (S.write q.2.1 (fillB q.2.2)).2 W := by
    obtain ⟨F', G', h1, h2⟩ := hG
    exact ⟨⟨F', G', h1, fun k hk => (h2 k hk).imp id (fun h => h.imp id (Nat.le_trans hb1.size))⟩, (Kept.of_below hb1).trans hkT⟩
  replace hfin := hid hfin
  clear hG hkT hb1
  go_wp2
  go_ret
  exact ⟨rfl, hfin.out⟩
/-- **DO.** -/
theorem do_any {F G : Nat → Prop} {d p : Nat} {S : DS} {w : World} (h : Pair w F G d p S) (hok : S.Ok) (q : ActT) (hq : actOk q) :
    Calls Try.prog 18 #[.pointer (some ⟨d, 0, none⟩), .pointer (some ⟨p, 0, none⟩), .agg #[.int .i64 q.1, .int .i64 q.2.1, .int .u8 (q.2.2.toNat : Nat)]] w fun e w' => e = .returned (.bool true) ∧ PairTo w F G d p (S.act q) w' := by
  unfold DS.act
  split
  · exact do_sync h hok q hq (by assumption)
  · split
    · exact do_read h hok q hq (by assumption)
    · split
      · exact do_fuse h hok q hq (by assumption)
      · split
        · exact do_crash h hok q hq (by assumption)
        · have h1 := Int.tmod_lt_of_pos q.1 (b := 5) (by decide)
          have h2 : -5 < q.1.tmod 5 := by have := Int.lt_tmod_of_pos q.1 (b := 5) (by decide); omega
          exact do_write h hok q hq (by omega)
end Go.Proofs.Ytaofpeajfgcjcaa
