/- Disk: Write, whole. -/
import Derived.Test.YtaofpeajfgcjcaaDkH
namespace Go.Proofs.Ytaofpeajfgcjcaa
open Go Go.RowKit Go.Maps
set_option linter.unusedSimpArgs false
set_option linter.unusedVariables false

/-- The numbers of a disk are such as can be counted on. -/
structure DS.Ok (S : DS) : Prop where
  f1 : -1 ≤ S.fuse
  f2 : S.fuse ≤ 9223372036854775807
  s1 : 0 ≤ S.steps
  s2 : S.steps < 9223372036854775807
  hn : S.hangs.length < 1000000000
def DS.burnt (S : DS) : DS := { S with down := true }
def DS.stepped (S : DS) : DS := { S with steps := S.steps + 1, fuse := burn S.fuse }
def DS.push (S : DS) (p : Nat × Blk) : DS := { S with hangs := S.hangs ++ [p] }
def DS.write (S : DS) (a : Int) (b : Blk) : Int × DS :=
  if S.mayE a ≠ 0 then (S.mayE a, S) else if S.fuse = 0 then (13, S.burnt) else (0, (S.stepped).push (a.toNat, b))
theorem agrees_put {hs : List (Nat × Blk)} {D : DataW Value} (h : Agrees hs D) (hm : IsMap D) (p : Nat × Blk) (hp : p.1 < 4096) : Agrees (hs ++ [p]) (D.put (.int .i64 (p.1 : Nat)) (.held (.agg (blkA p.2)))) := by
  intro a ha
  rw [shownZ_snoc]
  have h1 := h a ha
  by_cases e : (p.1 : Int) = a
  · subst e
    rw [if_pos rfl]
    exact ⟨Maps.has_put_same hm (by simp [WideAt.IsKeyLit]) _, fun zd => Maps.atKey_put_same hm (by simp [WideAt.IsKeyLit]) _ _⟩
  · rw [if_neg e]
    have hne : (Lit.int .i64 a) ≠ .int .i64 (p.1 : Nat) := fun h => e (by cases h; rfl)
    revert h1
    cases shownZ hs a with
    | none => exact fun h1 => ⟨(Maps.has_put_other hne _).trans h1.1, (Maps.atKey_put_other hne _ _).trans h1.2⟩
    | some b => exact fun h1 => ⟨(Maps.has_put_other hne _).trans h1.1, fun zd => (Maps.atKey_put_other hne _ _).trans (h1.2 zd)⟩
theorem box_block (b : Blk) (w : World) : (Instr.box 32 (.agg (blkA b))).run Try.prog w = .ok (.pointer (some ⟨w.heap.size, 0, none⟩)) (w.alloc (.cells (blkA b) 32)) := by
  simp [Instr.box, newVar, newRow, Value.cells]
theorem write_bad {w : World} {pd : Option Addr} (a k : Int) (b : Blk) (hk : k ≠ 0) (hm : ∀ o, Calls Try.prog 24 #[.pointer pd, .int .i64 a] (w.alloc o) fun e w' => e = .returned (.int .i64 k) ∧ w.alloc o = w') :
    Calls Try.prog 9 #[.pointer pd, .int .i64 a, .agg (blkA b)] w fun e w' => e = .returned (.int .i64 k) ∧ Below w.heap.size w w' := by
  have hb : (k != 0) = true := by rw [bne_iff_ne]; exact hk
  have hbx := box_block b
  replace hm := hid hm
  go_enter Try.func9, Try.ntmps9
  go_wp2_with (go_at_call 24; refine (hm.out _).mono ?_; rintro e w1 ⟨rfl, rfl⟩)
  go_ret
  exact ⟨rfl, below_al (Below.refl _ _) _⟩
theorem write_down {F : Nat → Prop} {d : Nat} {S : DS} {w : World} (h : Dk w F d S) (a : Int) (b : Blk) (hm : S.mayE a = 0) (h0 : S.fuse = 0) :
    Calls Try.prog 9 #[.pointer (some ⟨d, 0, none⟩), .int .i64 a, .agg (blkA b)] w fun e w' => e = .returned (.int .i64 13) ∧ DkTo w F d S.burnt w' := by
  obtain ⟨L, M, v, hd, hF⟩ := h
  have hbx := box_block b
  have hmay := fun o => may_any d L S.n v M S.steps S.fuse S.down a (w.alloc o) (hd.row.alloc o)
  rw [show mayN S.down S.n a = 0 from hm] at hmay
  have hst := step_down d L S.n v M S.steps S.down (w.alloc (.cells (blkA b) 32)) (by rw [← h0]; exact hd.row.alloc _)
  have hlt := hd.lt
  have hdone : ∀ w1, RowAt w1 d 57 (diskA L S.n v M S.steps 0 true) → Kept (· = d) (w.alloc (.cells (blkA b) 32)) w1 → DkTo w F d S.burnt w1 := by
    intro w1 hr hk
    have hk2 : Kept (· = d) w w1 := (Kept.of_below (below_al (Below.refl _ _) _)).trans hk
    obtain ⟨D, hs, hA⟩ := hd.shown
    refine ⟨F, ⟨L, M, v, ⟨?_, hk2.row hd.lasts (fun e => hd.ne.1 e.symm), ⟨D, hs.kept hk2 (fun e => hd.ne.2.1 e.symm), hA⟩, ownsRow_kept hd.hangs hk2 (fun g hg => (hd.ne.2.2.2 g hg).1), hd.size, hd.inn, hd.ne⟩, hF⟩, hk2.mono (fun k _ e => by rw [e]; exact (hF d).2 (.inl rfl)), fun k hk => .inl hk⟩
    rw [← h0] at hr
    exact hr
  replace hmay := hid hmay
  replace hst := hid hst
  replace hdone := hid hdone
  clear hd
  replace hm := hid hm
  replace h0 := hid h0
  go_enter Try.func9, Try.ntmps9
  go_wp2_with (first
    | (go_at_call 24; refine (hmay.out _).mono ?_; rintro e w1 ⟨rfl, rfl⟩)
    | (go_at_call 25; refine hst.out.mono ?_; rintro e w1 ⟨rfl, hr1, hk1⟩; replace hr1 := hid hr1; replace hk1 := hid hk1))
  go_ret
  exact ⟨rfl, hdone.out _ hr1.out hk1.out⟩
set_option maxRecDepth 1000000 in
set_option maxHeartbeats 4000000 in
theorem write_on {F : Nat → Prop} {d : Nat} {S : DS} {w : World} (h : Dk w F d S) (hok : S.Ok) (a : Nat) (b : Blk) (hm : S.mayE (a : Int) = 0) (h0 : S.fuse ≠ 0) :
    Calls Try.prog 9 #[.pointer (some ⟨d, 0, none⟩), .int .i64 (a : Nat), .agg (blkA b)] w fun e w' => e = .returned (.int .i64 0) ∧ DkTo w F d ((S.stepped).push (a, b)) w' := by
  obtain ⟨L, M, v, hd, hF⟩ := h
  have hbx := box_block b
  have han := (mayN_zero hm).2.2
  have hmay := fun o => may_any d L S.n v M S.steps S.fuse S.down (a : Int) (w.alloc o) (hd.row.alloc o)
  rw [show mayN S.down S.n (a : Int) = 0 from hm] at hmay
  have hst := step_on d L S.n v M S.steps S.fuse S.down h0 (by have := hok.f1; omega) hok.f2 (by have := hok.s1; omega) hok.s2 (w.alloc (.cells (blkA b) 32)) (hd.row.alloc _)
  have hn := hok.hn
  have hsz := hd.size.2
  have hB : w.heap.size < (w.alloc (.cells (blkA b) 32)).heap.size := by simp
  have rb := RowAt.new w (blkA b) 32
  replace hmay := hid hmay
  replace hst := hid hst
  replace hm := hid hm
  replace h0 := hid h0
  replace hok := hid hok
  replace hF := hid hF
  replace rb := hid rb
  replace hd := hid hd
  go_enter Try.func9, Try.ntmps9
  go_wp2_with (first
    | (go_at_call 24; refine (hmay.out _).mono ?_; rintro e w1 ⟨rfl, rfl⟩)
    | (go_at_call 25; refine hst.out.mono ?_; rintro e w1 ⟨rfl, hr1, hk1⟩; replace hr1 := hid hr1; replace hk1 := hid hk1))
  obtain ⟨W0, hW0⟩ : ∃ W0, W0 = w.alloc (.cells (blkA b) 32) := ⟨_, rfl⟩
  have hlt := hd.out.lt
  have hb0 : Below w.heap.size w W0 := by rw [hW0]; exact below_al (Below.refl _ _) _
  have hb0s : W0.heap.size = w.heap.size + 1 := by rw [hW0]; simp
  rw [← hW0] at hk1 hst hB
  have rb0 : RowAt W0 w.heap.size 32 (blkA b) := by rw [hW0]; exact rb.out
  have hk1' : Kept (· = d) w w1 := (Kept.of_below hb0).trans (hk1.out)
  obtain ⟨D, hs, hA⟩ := hd.out.shown
  have hd1 : DiskAt w1 d L M v S.stepped := ⟨hr1.out, hk1'.row hd.out.lasts (fun e => hd.out.ne.1 e.symm), ⟨D, hs.kept hk1' (fun e => hd.out.ne.2.1 e.symm), hA⟩, ownsRow_kept hd.out.hangs hk1' (fun g hg => (hd.out.ne.2.2.2 g hg).1), hd.out.size, hd.out.inn, hd.out.ne⟩
  have rb1 : RowAt w1 w.heap.size 32 (blkA b) := hk1.out.row rb0 (by have := hlt d (.inl rfl); omega)
  have hs1 := hk1.out.size
  replace hd1 := hid hd1
  replace rb1 := hid rb1
  refine write_r7 (p := (a, b)) hd1.out rb1 hn _ _ _ _ _ _ _ _ _ _ _ _ _ _ _ _ _ _ _ _ _ _ _ _ _ _ _ _ _ _ _ _ _ _ _ ?_
  intro v20 v21 v22 v23 v24 v25 v26 v27 v28 v29 v30 v31 w2 hr2 hk2
  obtain ⟨v', hr2, hv2, hl2⟩ := hr2
  have hMd : M ≠ d := fun e => hd.out.ne.2.1 e.symm
  have hMv : ¬ v.ownBlock = some M := fun e => (hd.out.ne.2.2.2 M e).2.2 rfl
  have hs2 : Shown w2 M S.hangs.length D := (hs.kept hk1' hMd).kept hk2 (fun h => h.elim hMd hMv)
  have hwd : w.heap.size ≠ d := by have := hlt d (.inl rfl); omega
  have hwv : ¬ v.ownBlock = some w.heap.size := fun e => by have := hlt w.heap.size (.inr (.inr (.inr e))); omega
  have rb2 : RowAt w2 w.heap.size 32 (blkA b) := hk2.row rb1.out (fun h => h.elim hwd hwv)
  replace hr2 := hid hr2
  replace hs2 := hid hs2
  replace rb2 := hid rb2
  replace hv2 := hid hv2
  replace hk2 := hid hk2
  replace hl2 := hid hl2
  have ha4 : a < 4096 := by omega
  go_wp2
  refine write_r8 (p := (a, b)) ha4 hr2 rb2 hs2 hn _ _ _ _ _ _ _ _ _ _ _ _ _ _ _ _ _ _ _ _ _ _ _ _ _ _ _ _ _ _ _ _ _ _ _ ?_
  intro v32 v33 v34 v35 v36 v37 w3 hs3 hk3
  replace hs3 := hid hs3
  replace hk3 := hid hk3
  go_wp2
  go_ret
  refine ⟨rfl, ?_⟩
  have hgne : ∀ g, v'.ownBlock = some g → g ≠ d ∧ g ≠ L ∧ g ≠ M := by
    intro g hg
    rcases hl2.out g hg with h | h
    · exact hd.out.ne.2.2.2 g h
    · have h1 := hlt d (.inl rfl); have h2 := hlt L (.inr (.inl rfl)); have h3 := hlt M (.inr (.inr (.inl rfl)))
      exact ⟨by omega, by omega, by omega⟩
  have hLd : L ≠ d := fun e => hd.out.ne.1 e.symm
  have hLv : ¬ v.ownBlock = some L := fun e => (hd.out.ne.2.2.2 L e).2.1 rfl
  have hlasts := hk3.out.row (hk2.out.row (hk1'.row hd.out.lasts hLd) (fun h => h.elim hLd hLv)) hd.out.ne.2.2.1
  refine ⟨footD d L M v', ⟨L, M, v', ⟨hk3.out.row hr2.out hd.out.ne.2.1, hlasts, ⟨_, ?_, agrees_put hA hs.isMap (a, b) ha4⟩, ?_, hd.out.size, ?_, ⟨hd.out.ne.1, hd.out.ne.2.1, hd.out.ne.2.2.1, hgne⟩⟩, fun k => Iff.rfl⟩, ?_, ?_⟩
  · rw [show (S.stepped.push (a, b)).hangs.length = S.hangs.length + 1 by simp [DS.push, DS.stepped]]
    exact hs3.out
  · have := ownsRow_kept hv2.out hk3.out (fun g hg => (hgne g hg).2.2)
    rw [show (S.stepped.push (a, b)).hangs.length = S.hangs.length + 1 by simp [DS.push, DS.stepped]]
    exact this
  · intro q hq
    rcases List.mem_append.1 hq with hq | hq
    · exact hd.out.inn q hq
    · obtain rfl : q = (a, b) := by simpa using hq
      show a < S.n
      omega
  · refine (hk1'.mono fun k _ e => ?_).trans ((hk2.out.mono fun k _ e => ?_).trans (hk3.out.mono fun k _ e => ?_))
    · rw [e]; exact (hF.out d).2 (.inl rfl)
    · rcases e with e | e
      · rw [e]; exact (hF.out d).2 (.inl rfl)
      · exact (hF.out k).2 (.inr (.inr (.inr e)))
    · rw [e]; exact (hF.out M).2 (.inr (.inr (.inl rfl)))
  · rintro k (rfl | rfl | rfl | hk)
    · exact .inl ((hF.out _).2 (.inl rfl))
    · exact .inl ((hF.out _).2 (.inr (.inl rfl)))
    · exact .inl ((hF.out _).2 (.inr (.inr (.inl rfl))))
    · rcases hl2.out k hk with h | h
      · exact .inl ((hF.out _).2 (.inr (.inr (.inr h))))
      · exact .inr (by omega)
/-- **WRITE.** -/
theorem write_any {F : Nat → Prop} {d : Nat} {S : DS} {w : World} (h : Dk w F d S) (hok : S.Ok) (a : Int) (b : Blk) :
    Calls Try.prog 9 #[.pointer (some ⟨d, 0, none⟩), .int .i64 a, .agg (blkA b)] w fun e w' => e = .returned (.int .i64 (S.write a b).1) ∧ DkTo w F d (S.write a b).2 w' := by
  by_cases hm : S.mayE a = 0
  · by_cases h0 : S.fuse = 0
    · rw [show S.write a b = (13, S.burnt) by simp [DS.write, hm, h0]]
      exact write_down h a b hm h0
    · have hr := mayN_zero hm
      obtain ⟨k, rfl⟩ : ∃ k : Nat, a = (k : Int) := ⟨a.toNat, by omega⟩
      rw [show S.write (k : Int) b = (0, (S.stepped).push (k, b)) by simp [DS.write, hm, h0]]
      exact write_on h hok k b hm h0
  · rw [show S.write a b = (S.mayE a, S) by simp [DS.write, hm]]
    obtain ⟨L, M, v, hd, hF⟩ := id h
    exact (write_bad a (S.mayE a) b hm (fun o => may_any d L S.n v M S.steps S.fuse S.down a (w.alloc o) (hd.row.alloc o))).mono fun e w' he => ⟨he.1, h.to he.2⟩
end Go.Proofs.Ytaofpeajfgcjcaa
