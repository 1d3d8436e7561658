/- Disk: Sync, whole. -/
import Derived.Test.YtaofpeajfgcjcaaDkN
namespace Go.Proofs.Ytaofpeajfgcjcaa
open Go Go.RowKit Go.Maps Go.ChangeMaps
set_option linter.unusedSimpArgs false
set_option linter.unusedVariables false

theorem ranges_kept {H : Type} {P : Program} {k : TypeId} {R : Value → Option (DataW H × List MemPlace)} {w w' : World} {b r n : Nat} {D : DataW H} {left : Lit → Bool} {cnt : Nat} {T : Nat → Prop} (h : w.ranges P k R b r n D left cnt) (hk : Kept T w w') (hb' : ¬ T b) (hr' : ¬ T r) : w'.ranges P k R b r n D left cnt := by
  obtain ⟨es, clock, since, seen, c0, hb, F, hs, hD, hr, rest⟩ := h
  exact ⟨es, clock, since, seen, c0, (hk.block b (Array.getElem?_eq_some_iff.1 hb).1 hb').trans hb, F, hs, hD, (hk.block r (Array.getElem?_eq_some_iff.1 hr).1 hr').trans hr, rest⟩
/-- What lasts, all that is shown but what is left having been taken over. -/
def syncL (hs : List (Nat × Blk)) (left : Lit → Bool) (l : Nat → UInt8) : Nat → UInt8 := fun j =>
  match shownZ hs ((j / 128 : Nat) : Int) with
  | some b => if left (.int .i64 ((j / 128 : Nat) : Int)) then l j else b (j % 128)
  | none => l j
def allL (hs : List (Nat × Blk)) (l : Nat → UInt8) : Nat → UInt8 := fun j =>
  match shownZ hs ((j / 128 : Nat) : Int) with
  | some b => b (j % 128)
  | none => l j
theorem syncL_end {hs : List (Nat × Blk)} {left : Lit → Bool} {l : Nat → UInt8} (h : ∀ kl, left kl = false) : syncL hs left l = allL hs l := by
  funext j
  unfold syncL allL
  cases shownZ hs ((j / 128 : Nat) : Int) with
  | none => rfl
  | some b => simp [h]
theorem syncL_start {hs : List (Nat × Blk)} {D : DataW Value} {n : Nat} (hA : Agrees hs D) (hn : n ≤ 4096) (hin : ∀ p ∈ hs, p.1 < n) (l : Nat → UInt8) : syncL hs (Maps.has D) l = l := by
  funext j
  unfold syncL
  cases h : shownZ hs ((j / 128 : Nat) : Int) with
  | none => rfl
  | some b =>
    obtain ⟨p, hp, h1, _⟩ := shownZ_in h
    have h2 := hA _ (wf_nat (n := j / 128) (by have := hin p hp; omega))
    rw [h] at h2
    show (if Maps.has D (.int .i64 ((j / 128 : Nat) : Int)) = true then l j else b (j % 128)) = l j
    rw [h2.1]; rfl
theorem sameKey_int (a b : Int) : (Lit.int .i64 a).sameKey (.int .i64 b) = decide (a = b) := by
  cases h : (Lit.int .i64 a).sameKey (.int .i64 b) with
  | true => have := WideAt.sameKey_eq h; cases this; simp
  | false =>
    symm; rw [decide_eq_false_iff_not]; rintro rfl
    rw [WideAt.sameKey_self (by simp [WideAt.IsKeyLit])] at h; cases h
theorem syncL_step {hs : List (Nat × Blk)} {left : Lit → Bool} {l : Nat → UInt8} {a : Nat} {b : Blk} (hs' : shownZ hs (a : Int) = some b) :
    ovl (syncL hs left l) a 128 b = syncL hs (fun z => left z && !z.sameKey (.int .i64 (a : Int))) l := by
  funext j
  unfold ovl
  by_cases h : a * 128 ≤ j ∧ j < a * 128 + 128
  · rw [if_pos h]
    have h1 : j / 128 = a := by omega
    unfold syncL
    rw [h1, hs']
    have h2 : j - a * 128 = j % 128 := by omega
    simp [sameKey_int, h2]
  · rw [if_neg h]
    have h1 : j / 128 ≠ a := by omega
    have h2 : ¬ (((j / 128 : Nat) : Int) = (a : Int)) := by omega
    unfold syncL
    cases shownZ hs ((j / 128 : Nat) : Int) with
    | none => rfl
    | some b' =>
      simp only [sameKey_int, h2, decide_false, Bool.not_false, Bool.and_true]
def DS.sync (S : DS) : Int × DS :=
  if S.mayE 0 ≠ 0 then (S.mayE 0, S) else if S.fuse = 0 then (13, S.burnt) else (0, { S.stepped with lasts := allL S.hangs S.lasts, hangs := [] })
theorem sync_bad {w : World} {d : Nat} (k : Int) (hk : k ≠ 0) (hm : Calls Try.prog 24 #[.pointer (some ⟨d, 0, none⟩), .int .i64 0] w fun e w' => e = .returned (.int .i64 k) ∧ w = w') :
    Calls Try.prog 13 #[.pointer (some ⟨d, 0, none⟩)] w fun e w' => e = .returned (.int .i64 k) ∧ w = w' := by
  have hb : (k != 0) = true := by rw [bne_iff_ne]; exact hk
  replace hm := hid hm
  go_enter Try.func13, Try.ntmps13
  go_wp2_with (go_at_call 24; refine hm.out.mono ?_; rintro e w1 ⟨rfl, rfl⟩)
  go_ret
  exact ⟨rfl, rfl⟩
theorem sync_nil (w : World) : Calls Try.prog 13 #[.pointer none] w fun e w' => e = .returned (.int .i64 1) ∧ w = w' := by
  have hm := hid (may_nil 0 w)
  go_enter Try.func13, Try.ntmps13
  go_wp2_with (go_at_call 24; refine hm.out.mono ?_; rintro e w1 ⟨rfl, rfl⟩)
  go_ret
  exact ⟨rfl, rfl⟩
theorem sync_down {F : Nat → Prop} {d : Nat} {S : DS} {w : World} (h : Dk w F d S) (hm : S.mayE 0 = 0) (h0 : S.fuse = 0) :
    Calls Try.prog 13 #[.pointer (some ⟨d, 0, none⟩)] w fun e w' => e = .returned (.int .i64 13) ∧ DkTo w F d S.burnt w' := by
  obtain ⟨L, M, v, hd, hF⟩ := h
  have hmay := may_any d L S.n v M S.steps S.fuse S.down 0 w hd.row
  rw [show mayN S.down S.n 0 = 0 from hm] at hmay
  have hst := step_down d L S.n v M S.steps S.down w (by rw [← h0]; exact hd.row)
  have hdone : ∀ w1, RowAt w1 d 57 (diskA L S.n v M S.steps 0 true) → Kept (· = d) w w1 → DkTo w F d S.burnt w1 := by
    intro w1 hr hk2
    obtain ⟨D, hs, hA⟩ := hd.shown
    refine ⟨F, ⟨L, M, v, ⟨?_, hk2.row hd.lasts (fun e => hd.ne.1 e.symm), ⟨D, hs.kept hk2 (fun e => hd.ne.2.1 e.symm), hA⟩, ownsRow_kept hd.hangs hk2 (fun g hg => (hd.ne.2.2.2 g hg).1), hd.size, hd.inn, hd.ne⟩, hF⟩, hk2.mono (fun k _ e => by rw [e]; exact (hF d).2 (.inl rfl)), fun k hk => .inl hk⟩
    rw [← h0] at hr
    exact hr
  replace hmay := hid hmay
  replace hst := hid hst
  replace hdone := hid hdone
  clear hd
  replace hm := hid hm
  replace h0 := hid h0
  go_enter Try.func13, Try.ntmps13
  go_wp2_with (first
    | (go_at_call 24; refine hmay.out.mono ?_; rintro e w1 ⟨rfl, rfl⟩)
    | (go_at_call 25; refine hst.out.mono ?_; rintro e w1 ⟨rfl, hr1, hk1⟩; replace hr1 := hid hr1; replace hk1 := hid hk1))
  go_ret
  exact ⟨rfl, hdone.out _ hr1.out hk1.out⟩
set_option maxRecDepth 1000000 in
set_option maxHeartbeats 4000000 in
theorem sync_on {F : Nat → Prop} {d : Nat} {S : DS} {w : World} (h : Dk w F d S) (hok : S.Ok) (hm : S.mayE 0 = 0) (h0 : S.fuse ≠ 0) :
    Calls Try.prog 13 #[.pointer (some ⟨d, 0, none⟩)] w fun e w' => e = .returned (.int .i64 0) ∧ DkTo w F d { S.stepped with lasts := allL S.hangs S.lasts, hangs := [] } w' := by
  obtain ⟨L, M, v, hd, hF⟩ := h
  have hmay := may_any d L S.n v M S.steps S.fuse S.down 0 w hd.row
  rw [show mayN S.down S.n 0 = 0 from hm] at hmay
  have hst := step_on d L S.n v M S.steps S.fuse S.down h0 (by have := hok.f1; omega) hok.f2 (by have := hok.s1; omega) hok.s2 w hd.row
  have hlt := hd.lt
  obtain ⟨D, hs, hA⟩ := hd.shown
  replace hmay := hid hmay
  replace hst := hid hst
  replace hm := hid hm
  replace h0 := hid h0
  replace hok := hid hok
  replace hF := hid hF
  replace hd := hid hd
  replace hs := hid hs
  replace hA := hid hA
  replace hlt := hid hlt
  go_enter Try.func13, Try.ntmps13
  go_wp2_with (first
    | (go_at_call 24; refine hmay.out.mono ?_; rintro e w1 ⟨rfl, rfl⟩)
    | (go_at_call 25; refine hst.out.mono ?_; rintro e w1 ⟨rfl, hr1, hk1⟩; have c2 : w1.cell? ⟨d, 2, none⟩ = some (.map (some M)) := hr1.cell rfl; replace hr1 := hid hr1; replace hk1 := hid hk1)
    | (at_range; refine wpList_range_own _ rfl _ _ rfl 3 32 kint Try.underlying54 rdr M S.hangs.length D rfl (hs.out.kept hk1.out (fun e => hd.out.ne.2.1 e.symm)) ?_
       intro w2 hrg hg2 hs2
       replace hrg := hid hrg
       replace hg2 := hid hg2
       replace hs2 := hid hs2))
  go_frame
  have hk1' : Kept (fun k => k = d) w w1 := hk1.out
  have hk2 : Kept (fun k => k = d) w w2 := hk1'.trans ⟨hg2.out.os, hg2.out.tape, hg2.out.output, hg2.out.size, fun k hk hs => hg2.out.block k hk (by simp)⟩
  have hLd : L ≠ d := fun e => hd.out.ne.1 e.symm
  have hML : M ≠ L := fun e => hd.out.ne.2.2.1 e.symm
  have hMd : M ≠ d := fun e => hd.out.ne.2.1 e.symm
  have rd2 : RowAt w2 d 57 (diskA L S.n v M (S.steps + 1) (burn S.fuse) S.down) := by
    have := hr1.out
    exact (hg2.out.block d this.lt (by simp)).trans this
  have rL2 := hk2.row hd.out.lasts hLd
  have hstart := syncL_start hA.out hd.out.size.2 hd.out.inn S.lasts
  have hs1 := hk1.out.size
  have hdw := hlt.out d (.inl rfl)
  have hLw := hlt.out L (.inr (.inl rfl))
  have hMw := hlt.out M (.inr (.inr (.inl rfl)))
  obtain ⟨r, hr⟩ : ∃ r, r = w1.heap.size := ⟨_, rfl⟩
  rw [← hr] at hrg hs2 ⊢
  have hrd : d ≠ r := by omega
  have hrL : L ≠ r := by omega
  have hrM : M ≠ r := by omega
  replace hr := hid hr
  replace hk2 := hid hk2
  replace hk1' := hid hk1'
  replace rd2 := hid rd2
  replace rL2 := hid rL2
  refine wp_loop_f (σ := (Lit → Bool) × Nat) (fun s f => #[.pointer (some ⟨d, 0, none⟩), f 1, .int .i64 0, f 3, f 4, f 5, f 6, f 7, f 8, f 9, f 10, f 11, f 12, f 13, f 14, f 15, f 16, f 17, f 18, f 19, f 20, .pointer (some ⟨r, 0, none⟩), f 22, f 23, f 24, f 25, f 26, f 27, f 28, f 29, f 30, f 31, f 32, f 33, f 34, f 35, f 36, f 37, f 38, f 39, f 40]) (fun s W => Hid (W.ranges Try.prog 3 rdr M r S.hangs.length D s.1 s.2) ∧ Hid (∀ kl, s.1 kl = true → Maps.has D kl = true) ∧ Hid (RowAt W L 32 (lastsA S.n (syncL S.hangs s.1 S.lasts))) ∧ Hid (Kept (fun k => k = L ∨ k = r) w2 W)) (fun s => s.2) (Maps.has D, Maps.size D) [] rfl rfl ⟨hrg, hid (fun kl h => h), hid (by rw [hstart]; exact rL2.out), hid (Kept.refl _ _)⟩ ?_
  clear hrg hstart
  rintro ⟨left, cnt⟩ f W ⟨hrg, hsub, hL, hK⟩ K hKK
  dsimp only at hrg hsub hL hK hKK ⊢
  replace hKK := hid hKK
  go_wp2_with (at_next; refine wpList_next_ranges _ rfl _ rfl 3 kint rdr (Value.int .i64) id (fun key kl hkey => by obtain ⟨x, rfl, _⟩ := Maps.keyOf_int_inv Try.underlying3 hkey; exact ⟨x, rfl⟩) (fun v y hv => ⟨v, rfl⟩) M r S.hangs.length D left cnt rfl hrg.out ?nx1 ?nx2)
  case nx1 =>
    intro hc0 hl0
    clear hKK
    have hend : syncL S.hangs left S.lasts = allL S.hangs S.lasts := syncL_end hl0
    replace hend := hid hend
    clear hl0
    have hdF : ¬ (d = L ∨ d = r) := fun h => h.elim (fun e => hLd e.symm) hrd
    have rdW : RowAt W d 57 (diskA L S.n v M (S.steps + 1) (burn S.fuse) S.down) := hK.out.row rd2.out hdF
    have c2 : W.cell? ⟨d, 2, none⟩ = some (.map (some M)) := rdW.cell rfl
    have howns : W.ownsMap Try.prog 3 rdr M S.hangs.length D := hrg.out.owns
    replace howns := hid howns
    replace rdW := hid rdW
    go_wp2_with (first
      | (with_reducible refine at_op none (.call { callee := .builtin .clear, args := #[.tmp 37], argTypes := #[54] }) ?_
         refine wpList_clear (o := ⟨none, _, _, _, _, _⟩) rfl (.tmp 37) 54 rfl 3 32 Try.underlying54 rdr M S.hangs.length D rfl howns.out ?_
         intro W3 hs3 hg3
         have hk3 : Kept (fun k => k = M) W W3 := (grown_kept hg3).mono (fun k _ h => by cases h; rfl)
         have rd3 := hk3.row rdW.out (fun e => hMd e.symm)
         have f1 := rd3.free 1
         have c1 : W3.cell? ⟨d, 1, none⟩ = some v := rd3.cell rfl
         replace hs3 := hid hs3
         replace hg3 := hid hg3
         replace hk3 := hid hk3
         replace rd3 := hid rd3)
      | fail)
    go_ret
    have hk4 : Kept (fun k => k = d) W3 (W3.setCell ⟨d, 1, none⟩ (.slice none 0 0)) := (Kept.refl (· = d) _).setCell ⟨d, 1, none⟩ (.inl rfl) _
    refine ⟨rfl, footD d L M (.slice none 0 0), ⟨L, M, .slice none 0 0, ⟨rd3.out.set 1 _, ?_, ⟨_, Shown.kept hs3.out hk4 hMd, agrees_nil⟩, World.ownsRow_nil _ _ _ _, hd.out.size, fun p hp => (by cases hp), ⟨hd.out.ne.1, hd.out.ne.2.1, hd.out.ne.2.2.1, fun g hg => (by cases hg)⟩⟩, fun k => Iff.rfl⟩, ?_, fun k h => .inl ((hF.out k).2 ?_)⟩
    · have := hk4.row (hk3.out.row hL.out (fun e => hML e.symm)) hLd
      rw [hend.out] at this
      exact this
    · have hw2 := hk2.out.size
      have h1 : Kept (fun k => k = L ∨ k = M ∨ k = d ∨ k = r) w2 (W3.setCell ⟨d, 1, none⟩ (.slice none 0 0)) :=
        (hK.out.mono fun k _ h => h.elim .inl fun h => .inr (.inr (.inr h))).trans ((hk3.out.mono fun k _ h => .inr (.inl h)).trans (hk4.mono fun k _ h => .inr (.inr (.inl h))))
      have hrw : w.heap.size ≤ r := by rw [hr.out]; exact hk1'.out.size
      refine (hk2.out.mono fun k _ e => ?_).after h1 fun k hk h => (hF.out k).2 ?_
      · rw [e]; exact (hF.out d).2 (.inl rfl)
      · rcases h with h | h | h | h
        · exact .inr (.inl h)
        · exact .inr (.inr (.inl h))
        · exact .inl h
        · omega
    · exact h.elim .inl fun h => .inr (h.elim .inl fun h => .inr (h.elim .inl fun h => (by cases h)))
  case nx2 =>
    intro x c kl y ps W1 cnt1 hkey hlf hRy hat hrg1 hlt1 hg1 hs1 hen
    obtain ⟨x', hx', rfl, hwx⟩ := Maps.keyOf_int_inv Try.underlying3 hkey
    cases hx'
    have hhas := hsub.out _ hlf
    have hAx := hA.out x hwx
    cases hsh : shownZ S.hangs x with
    | none => rw [hsh] at hAx; rw [hAx.1] at hhas; cases hhas
    | some b =>
      rw [hsh] at hAx
      have hy : y = .held c := by have := hRy; simp only [rdr, Option.some.injEq, Prod.mk.injEq] at this; exact this.1.symm
      have hc : c = .agg (blkA b) := by
        have h1 := hat (.held (.agg zeroBlk))
        rw [hAx.2, hy] at h1
        simp only [DataW.held.injEq] at h1
        exact h1.symm
      obtain ⟨p, hp, hpx, hpb⟩ := shownZ_in hsh
      subst hc
      subst hpx
      subst hpb
      have hpn := hd.out.inn p hp
      have hstep := syncL_step (left := left) (l := S.lasts) hsh
      clear hy hRy hat hAx hkey hsh hhas hlf
      have hz := zero_block
      have hzs := zeroBlk_size
      have hbs := blkA_size p.2
      have hst1 := cells_block _ _ _ (blkA p.2) (RowAt.new W1 zeroBlk 32) zeroBlk_size (blkA_size _) (blkA_one _)
      rw [World.setRow_alloc_new] at hst1
      replace hstep := hid hstep
      replace hp := hid hp
      replace hrg1 := hid hrg1
      replace hg1 := hid hg1
      replace hs1 := hid hs1
      go_wp2
      obtain ⟨W2, hW2⟩ : ∃ W2, W2 = W1.alloc (.cells (blkA p.2) 32) := ⟨_, rfl⟩
      have hb2 : Below W1.heap.size W1 W2 := by rw [hW2]; exact below_al (Below.refl _ _) _
      have rb : RowAt W2 W1.heap.size 32 (blkA p.2) := by rw [hW2]; exact RowAt.new _ _ _
      rw [← hW2]
      clear hst1
      have hkr : Kept (fun k => k = r) W W1 := (grown_kept hg1.out).mono (fun k _ h => by cases h; rfl)
      have rdW : RowAt W d 57 (diskA L S.n v M (S.steps + 1) (burn S.fuse) S.down) := hK.out.row rd2.out (fun h => h.elim (fun e => hLd e.symm) hrd)
      have rdW2 := (hkr.row rdW hrd).below hb2 (hkr.row rdW hrd).lt
      have rLW2 := (hkr.row hL.out hrL).below hb2 (hkr.row hL.out hrL).lt
      replace rdW2 := hid rdW2
      replace rLW2 := hid rLW2
      replace rb := hid rb
      refine sync_r10 (p := p) hpn hd.out.size.2 rdW2 rb rLW2 _ _ _ _ _ _ _ _ _ _ _ _ _ _ _ _ _ _ _ _ _ _ _ _ _ _ _ _ _ _ _ _ _ _ _ _ _ _ ?_
      intro v27 v28 v29 v30 v31 v32 v33 W3 hL3 hk3
      rw [hstep.out] at hL3
      have hkk : Kept (fun k => k = L ∨ k = r) w2 W3 := hK.out.trans ((hkr.mono fun k _ h => .inr h).trans ((Kept.of_below hb2).trans (hk3.mono fun k _ h => .inl h)))
      have hrg3 : W3.ranges Try.prog 3 rdr M r S.hangs.length D (fun z => left z && !z.sameKey (.int .i64 (p.1 : Int))) cnt1 := by
        exact ranges_kept (T := fun k => k = L) (ranges_kept (T := fun k => k = L) hrg1.out (Kept.of_below hb2) hML (fun e => hrL e.symm)) hk3 hML (fun e => hrL e.symm)
      simp only [Exit.inBlock, Exit.then]
      exact hKK.out (_, cnt1) _ _ rfl hlt1 ⟨hid hrg3, hid (fun z hz => hsub.out z ((Bool.and_eq_true_iff.1 hz).1)), hid hL3, hid hkk⟩
/-- **SYNC.** -/
theorem sync_any {F : Nat → Prop} {d : Nat} {S : DS} {w : World} (h : Dk w F d S) (hok : S.Ok) :
    Calls Try.prog 13 #[.pointer (some ⟨d, 0, none⟩)] w fun e w' => e = .returned (.int .i64 (S.sync).1) ∧ DkTo w F d (S.sync).2 w' := by
  by_cases hm : S.mayE 0 = 0
  · by_cases h0 : S.fuse = 0
    · rw [show S.sync = (13, S.burnt) by simp [DS.sync, hm, h0]]
      exact sync_down h hm h0
    · rw [show S.sync = (0, { S.stepped with lasts := allL S.hangs S.lasts, hangs := [] }) by simp [DS.sync, hm, h0]]
      exact sync_on h hok hm h0
  · rw [show S.sync = (S.mayE 0, S) by simp [DS.sync, hm]]
    obtain ⟨L, M, v, hd, hF⟩ := id h
    exact (sync_bad (S.mayE 0) hm (may_any d L S.n v M S.steps S.fuse S.down 0 w hd.row)).mono fun e w' he => ⟨he.1, by rw [← he.2]; exact h.to (Below.refl _ _)⟩
end Go.Proofs.Ytaofpeajfgcjcaa
