/- The document's disk: Write. -/
import Derived.Test.YtaofpeajfgcjcaaDrC
namespace Go.Proofs.Ytaofpeajfgcjcaa
open Go Go.RowKit Go.Maps
set_option linter.unusedSimpArgs false
set_option linter.unusedVariables false

theorem read_snd (S : DS) (a : Int) : (S.read a).2 = S.mayE a := by
  unfold DS.read; split
  · rename_i h; exact h.symm
  · rfl
/-- The disk's numbers are turned, its blocks are not. -/
theorem Rk.num {w w' : World} {F : Nat → Prop} {L q : Nat} {v : Value} {S S' : DS} (h : RkAt w q L v S) (hF : ∀ k, F k ↔ footR q L v k) (hr : RowAt w' q 50 (refDA L S'.n v S'.steps S'.fuse S'.down)) (hk : Kept (· = q) w w')
    (e1 : S'.n = S.n) (e2 : S'.lasts = S.lasts) (e3 : S'.hangs = S.hangs) : RkAt w' q L v S' :=
  ⟨hr, by rw [e1, e2]; exact hk.row h.lasts (fun e => h.ne.1 e.symm), by rw [e3]; exact ownsRow_kept h.hangs hk (fun g hg => (h.ne.2 g hg).1), by rw [e1]; exact h.size, by rw [e1, e3]; exact h.inn, h.ne⟩
set_option maxRecDepth 1000000 in
set_option maxHeartbeats 4000000 in
theorem refWrite_bad {F : Nat → Prop} {q : Nat} {S : DS} {w : World} (h : Rk w F q S) (a : Int) (b : Blk) (hn : S.hangs.length < 1000000000) (hm : S.mayE a ≠ 0) :
    Calls Try.prog 31 #[.pointer (some ⟨q, 0, none⟩), .int .i64 a, .agg (blkA b)] w fun e w' => e = .returned (.int .i64 (S.mayE a)) ∧ Below w.heap.size w w' := by
  have hbx := box_block b
  have hz := zero_block
  have hzs := zeroBlk_size
  have hbs := blkA_size
  have hb : (S.mayE a != 0) = true := by rw [bne_iff_ne]; exact hm
  have hread := refRead_any (h.below (below_al (Below.refl _ _) (.cells (blkA b) 32))) a hn
  rw [read_snd] at hread
  replace hread := hid hread
  replace h := hid h
  go_enter Try.func31, Try.ntmps31
  go_wp2_with (go_at_call 29; refine hread.out.mono ?_; rintro e w1 ⟨rfl, hB⟩
               have hst := cells_block _ _ _ (blkA (S.read a).1) (RowAt.new w1 zeroBlk 32) zeroBlk_size (blkA_size _) (blkA_one _)
               rw [World.setRow_alloc_new] at hst
               replace hB := hid hB)
  go_ret
  exact ⟨rfl, below_al (below_cat hB.out (below_al (Below.refl _ _) _)) _⟩
set_option maxRecDepth 1000000 in
set_option maxHeartbeats 4000000 in
theorem refWrite_down {F : Nat → Prop} {q : Nat} {S : DS} {w : World} (h : Rk w F q S) (a : Int) (b : Blk) (hn : S.hangs.length < 1000000000) (hm : S.mayE a = 0) (h0 : S.fuse = 0) :
    Calls Try.prog 31 #[.pointer (some ⟨q, 0, none⟩), .int .i64 a, .agg (blkA b)] w fun e w' => e = .returned (.int .i64 13) ∧ RkTo w F q S.burnt w' := by
  have hbx := box_block b
  have hz := zero_block
  have hzs := zeroBlk_size
  have hbs := blkA_size
  have hread := refRead_any (h.below (below_al (Below.refl _ _) (.cells (blkA b) 32))) a hn
  rw [read_snd, hm] at hread
  obtain ⟨L, v, hd, hF⟩ := h
  replace hread := hid hread
  replace hm := hid hm
  replace h0 := hid h0
  replace hd := hid hd
  replace hF := hid hF
  go_enter Try.func31, Try.ntmps31
  go_wp2_with (first
    | (go_at_call 29; refine hread.out.mono ?_; rintro e w1 ⟨rfl, hB⟩
       have hst := cells_block _ _ _ (blkA (S.read a).1) (RowAt.new w1 zeroBlk 32) zeroBlk_size (blkA_size _) (blkA_one _)
       rw [World.setRow_alloc_new] at hst
       have b1 := below_al (below_cat hB (below_al (Below.refl _ _) (.cells (blkA b) 32))) (.cells (blkA (S.read a).1) 32)
       have r1 := hd.out.row.below b1 hd.out.row.lt
       rw [h0.out] at r1
       replace r1 := hid r1
       replace b1 := hid b1
       clear hB)
    | (go_at_call 32; refine (refStep_down q L S.n v S.steps S.down _ r1.out).mono ?_; rintro e w2 ⟨rfl, hr2, hk2⟩
       replace hr2 := hid hr2
       replace hk2 := hid hk2))
  go_ret
  have hk : Kept (· = q) w w2 := (Kept.of_below b1.out).trans hk2.out
  refine ⟨rfl, F, ⟨L, v, Rk.num (S' := S.burnt) hd.out hF.out ?_ hk rfl rfl rfl, hF.out⟩, hk.mono (fun k _ e => by rw [e]; exact (hF.out q).2 (.inl rfl)), fun k hk => .inl hk⟩
  have := hr2.out
  rw [← h0.out] at this
  exact this
set_option maxRecDepth 1000000 in
set_option maxHeartbeats 4000000 in
theorem refWrite_on {F : Nat → Prop} {q : Nat} {S : DS} {w : World} (h : Rk w F q S) (hok : S.Ok) (a : Nat) (b : Blk) (hm : S.mayE (a : Int) = 0) (h0 : S.fuse ≠ 0) :
    Calls Try.prog 31 #[.pointer (some ⟨q, 0, none⟩), .int .i64 (a : Nat), .agg (blkA b)] w fun e w' => e = .returned (.int .i64 0) ∧ RkTo w F q ((S.stepped).push (a, b)) w' := by
  have hbx := box_block b
  have hz := zero_block
  have hzs := zeroBlk_size
  have hbs := blkA_size
  have hn := hok.hn
  have hread := refRead_any (h.below (below_al (Below.refl _ _) (.cells (blkA b) 32))) (a : Int) hn
  rw [read_snd, hm] at hread
  obtain ⟨L, v, hd, hF⟩ := h
  have han := (mayN_zero hm).2.2
  have hlt := hd.lt
  have f1 : -9223372036854775808 < S.fuse := by have := hok.f1; omega
  have s1 : -9223372036854775808 ≤ S.steps := by have := hok.s1; omega
  have hfs := hid (And.intro f1 s1)
  clear f1 s1
  replace hread := hid hread
  replace hm := hid hm
  replace h0 := hid h0
  replace hd := hid hd
  replace hF := hid hF
  replace hlt := hid hlt
  replace hok := hid hok
  go_enter Try.func31, Try.ntmps31
  go_wp2_with (first
    | (go_at_call 29; refine hread.out.mono ?_; rintro e w1 ⟨rfl, hB⟩
       have hst := cells_block _ _ _ (blkA (S.read (a : Int)).1) (RowAt.new w1 zeroBlk 32) zeroBlk_size (blkA_size _) (blkA_one _)
       rw [World.setRow_alloc_new] at hst
       have b1 := below_al (below_cat hB (below_al (Below.refl _ _) (.cells (blkA b) 32))) (.cells (blkA (S.read (a : Int)).1) 32)
       have r1 := hd.out.row.below b1 hd.out.row.lt
       have rb1 := ((RowAt.new w (blkA b) 32).below hB (by rw [World.size_alloc]; omega)).alloc (.cells (blkA (S.read (a : Int)).1) 32)
       replace r1 := hid r1
       replace b1 := hid b1
       replace rb1 := hid rb1
       clear hB)
    | (go_at_call 32; refine (refStep_on q L S.n v S.steps S.fuse S.down h0.out hfs.out.1 hok.out.f2 hfs.out.2 hok.out.s2 _ r1.out).mono ?_; rintro e w2 ⟨rfl, hr2, hk2⟩
       replace hr2 := hid hr2
       replace hk2 := hid hk2))
  have hk : Kept (· = q) w w2 := (Kept.of_below b1.out).trans hk2.out
  have hqlt : q < w.heap.size := hlt.out q (.inl rfl)
  have rb2 : RowAt w2 w.heap.size 32 (blkA b) := hk2.out.row rb1.out (by omega)
  have hd2 : RkAt w2 q L v S.stepped := Rk.num (S' := S.stepped) hd.out hF.out hr2.out hk rfl rfl rfl
  replace hd2 := hid hd2
  replace rb2 := hid rb2
  replace hk := hid hk
  refine refWrite_r6 (p := (a, b)) (S := S.stepped) hd2.out rb2 hn _ _ _ _ _ _ _ _ _ _ _ _ _ _ _ _ _ _ _ _ _ _ _ _ _ _ _ _ _ _ ?_
  intro v21 v22 v23 v24 v25 v26 v27 v28 v29 v30 v31 v32 w3 hr3 hk3
  obtain ⟨v', hr3, hv3, hl3⟩ := hr3
  replace hr3 := hid hr3
  replace hv3 := hid hv3
  replace hl3 := hid hl3
  replace hk3 := hid hk3
  go_wp2
  go_ret
  have hLlt := hlt.out L (.inr (.inl rfl))
  have hs2 := hk.out.size
  have hgne : ∀ g, v'.ownBlock = some g → g ≠ q ∧ g ≠ L := by
    intro g hg
    rcases hl3.out g hg with h | h
    · exact hd.out.ne.2 g h
    · exact ⟨by omega, by omega⟩
  have hLq : L ≠ q := fun e => hd.out.ne.1 e.symm
  have hLv : ¬ v.ownBlock = some L := fun e => (hd.out.ne.2 L e).2 rfl
  refine ⟨rfl, footR q L v', ⟨L, v', ⟨hr3.out, hk3.out.row hd2.out.lasts (fun h => h.elim hLq hLv), ?_, hd.out.size, ?_, ⟨hd.out.ne.1, hgne⟩⟩, fun k => Iff.rfl⟩, ?_, ?_⟩
  · rw [show (S.stepped.push (a, b)).hangs.length = S.hangs.length + 1 by simp [DS.push, DS.stepped]]
    exact hv3.out
  · intro x hx
    rcases List.mem_append.1 hx with hx | hx
    · exact hd.out.inn x hx
    · obtain rfl : x = (a, b) := by simpa using hx
      show a < S.n
      omega
  · refine (hk.out.mono fun k _ e => ?_).trans (hk3.out.mono fun k _ e => ?_)
    · rw [e]; exact (hF.out q).2 (.inl rfl)
    · rcases e with e | e
      · rw [e]; exact (hF.out q).2 (.inl rfl)
      · exact (hF.out k).2 (.inr (.inr e))
  · rintro k (rfl | rfl | hk)
    · exact .inl ((hF.out _).2 (.inl rfl))
    · exact .inl ((hF.out _).2 (.inr (.inl rfl)))
    · rcases hl3.out k hk with h | h
      · exact .inl ((hF.out _).2 (.inr (.inr h)))
      · exact .inr (by omega)
/-- **WRITE (document).** -/
theorem refWrite_any {F : Nat → Prop} {q : Nat} {S : DS} {w : World} (h : Rk w F q S) (hok : S.Ok) (a : Int) (b : Blk) :
    Calls Try.prog 31 #[.pointer (some ⟨q, 0, none⟩), .int .i64 a, .agg (blkA b)] w fun e w' => e = .returned (.int .i64 (S.write a b).1) ∧ RkTo w F q (S.write a b).2 w' := by
  by_cases hm : S.mayE a = 0
  · by_cases h0 : S.fuse = 0
    · rw [show S.write a b = (13, S.burnt) by simp [DS.write, hm, h0]]
      exact refWrite_down h a b hok.hn hm h0
    · obtain ⟨hdn, ha0, hlt⟩ := mayN_zero hm
      obtain ⟨k, rfl⟩ : ∃ k : Nat, a = (k : Int) := ⟨a.toNat, by omega⟩
      rw [show S.write (k : Int) b = (0, (S.stepped).push (k, b)) by simp [DS.write, hm, h0]]
      exact refWrite_on h hok k b hm h0
  · rw [show S.write a b = (S.mayE a, S) by simp [DS.write, hm]]
    exact (refWrite_bad h a b hok.hn hm).mono fun e w' he => ⟨he.1, h.to he.2⟩
end Go.Proofs.Ytaofpeajfgcjcaa
