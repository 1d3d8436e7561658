/- The document's disk: Sync, Crash. -/
import Derived.Test.YtaofpeajfgcjcaaDrD
namespace Go.Proofs.Ytaofpeajfgcjcaa
open Go Go.RowKit Go.Maps
set_option linter.unusedSimpArgs false
set_option linter.unusedVariables false

theorem fullL_succ (hs : List (Nat × Blk)) (i : Nat) (p : Nat × Blk) (hp : hs[i]? = some p) (l : Nat → UInt8) : fullL (hs.take (i + 1)) l = ovl (fullL (hs.take i) l) p.1 128 p.2 := by
  obtain ⟨h, rfl⟩ := List.getElem?_eq_some_iff.1 hp
  rw [List.take_succ_eq_append_getElem h, fullL, List.foldl_append]
  rfl
theorem refSync_no {F : Nat → Prop} {q : Nat} {S : DS} {w : World} (h : Rk w F q S) (hd' : S.down = true) :
    Calls Try.prog 28 #[.pointer (some ⟨q, 0, none⟩)] w fun e w' => e = .returned (.int .i64 13) ∧ w = w' := by
  obtain ⟨L, v, hd, hF⟩ := h
  have c4 : w.cell? ⟨q, 4, none⟩ = some (.bool true) := by rw [← hd']; exact hd.row.cell rfl
  replace hd := hid hd
  replace hF := hid hF
  clear hd'
  go_enter Try.func28, Try.ntmps28
  go_wp2
  go_ret
  exact ⟨rfl, rfl⟩
theorem refSync_down {F : Nat → Prop} {q : Nat} {S : DS} {w : World} (h : Rk w F q S) (hd' : S.down = false) (h0 : S.fuse = 0) :
    Calls Try.prog 28 #[.pointer (some ⟨q, 0, none⟩)] w fun e w' => e = .returned (.int .i64 13) ∧ RkTo w F q S.burnt w' := by
  obtain ⟨L, v, hd, hF⟩ := h
  have c4 : w.cell? ⟨q, 4, none⟩ = some (.bool false) := by rw [← hd']; exact hd.row.cell rfl
  have r1 := hd.row
  rw [h0] at r1
  replace r1 := hid r1
  replace hd := hid hd
  replace hF := hid hF
  replace h0 := hid h0
  clear hd'
  go_enter Try.func28, Try.ntmps28
  go_wp2_with (go_at_call 32; refine (refStep_down q L S.n v S.steps S.down _ r1.out).mono ?_; rintro e w2 ⟨rfl, hr2, hk2⟩
               replace hr2 := hid hr2
               replace hk2 := hid hk2)
  go_ret
  refine ⟨rfl, F, ⟨L, v, Rk.num (S' := S.burnt) hd.out hF.out ?_ hk2.out rfl rfl rfl, hF.out⟩, hk2.out.mono (fun k _ e => by rw [e]; exact (hF.out q).2 (.inl rfl)), fun k hk => .inl hk⟩
  have := hr2.out
  rw [← h0.out] at this
  exact this
set_option maxRecDepth 1000000 in
set_option maxHeartbeats 4000000 in
theorem refSync_on {F : Nat → Prop} {q : Nat} {S : DS} {w : World} (h : Rk w F q S) (hok : S.Ok) (hd' : S.down = false) (h0 : S.fuse ≠ 0) :
    Calls Try.prog 28 #[.pointer (some ⟨q, 0, none⟩)] w fun e w' => e = .returned (.int .i64 0) ∧ RkTo w F q { S.stepped with lasts := allL S.hangs S.lasts, hangs := [] } w' := by
  obtain ⟨L, v, hd, hF⟩ := h
  obtain ⟨p0, c, hv, hq⟩ := hangs_slice hd.hangs
  have c4 : w.cell? ⟨q, 4, none⟩ = some (.bool false) := by rw [← hd']; exact hd.row.cell rfl
  have f1 : -9223372036854775808 < S.fuse := by have := hok.f1; omega
  have s1 : -9223372036854775808 ≤ S.steps := by have := hok.s1; omega
  have hfs := hid (And.intro f1 s1)
  clear f1 s1
  have hn := hok.hn
  replace hd := hid hd
  replace hF := hid hF
  replace h0 := hid h0
  replace hok := hid hok
  replace hq := hid hq
  replace hv := hid hv
  replace hd' := hid hd'
  go_enter Try.func28, Try.ntmps28
  go_wp2_with (go_at_call 32; refine (refStep_on q L S.n v S.steps S.fuse S.down h0.out hfs.out.1 hok.out.f2 hfs.out.2 hok.out.s2 _ hd.out.row).mono ?_; rintro e w1 ⟨rfl, hr1, hk1⟩
               have c1 : w1.cell? ⟨q, 1, none⟩ = some v := hr1.cell rfl
               rw [hv.out] at c1
               replace hr1 := hid hr1
               replace hk1 := hid hk1)
  have hd1 : RkAt w1 q L v S.stepped := Rk.num (S' := S.stepped) hd.out hF.out hr1.out hk1.out rfl rfl rfl
  replace hd1 := hid hd1
  have hLq : L ≠ q := fun e => hd.out.ne.1 e.symm
  refine wp_loop_f (σ := Nat) (fun s f => #[.pointer (some ⟨q, 0, none⟩), f 1, .int .i64 0, f 3, f 4, f 5, f 6, f 7, f 8, f 9, f 10, f 11, f 12, f 13, f 14, f 15, f 16, .slice p0 S.hangs.length c, .int .i64 (S.hangs.length : Nat), .int .i64 (s : Nat), f 20, f 21, f 22, f 23, f 24, f 25, f 26, f 27, f 28, f 29, f 30, f 31, f 32, f 33, f 34, f 35]) (fun s W => s ≤ S.hangs.length ∧ Hid (RowAt W L 32 (lastsA S.n (fullL (S.hangs.take s) S.lasts))) ∧ Hid (Kept (fun k => k = L) w1 W)) (fun s => S.hangs.length - s) 0 [] rfl rfl ⟨Nat.zero_le _, hid hd1.out.lasts, hid (Kept.refl _ _)⟩ ?_
  rintro i f W ⟨hi, hR, hK⟩ K hKK
  dsimp only at hi hR hK hKK ⊢
  replace hKK := hid hKK
  by_cases hlti : i < S.hangs.length
  · have g1 : decide ((i : Int) < (S.hangs.length : Int)) = true := decide_eq_true (by omega)
    obtain ⟨g, rfl, hvg⟩ := hq.out (by omega)
    obtain ⟨p, hp⟩ : ∃ p, S.hangs[i]? = some p := ⟨_, List.getElem?_eq_getElem hlti⟩
    have hpn := hd.out.inn p (List.mem_of_getElem? hp)
    have hrg := hangs_range (ownsRow_kept hd1.out.hangs hK.out (fun x hx e => (hd.out.ne.2 x hx).2 e)) hvg hp
    have hiw : (Try.prog.info? 68).map (·.size) = some (wrA p).toList.length := by rw [Array.length_toList, wrA_size]; exact info_rwr
    have hz2 := zero_rwr
    have hzs2 := zeroWr_size
    have hws := wrA_size p
    have hadd : IntKind.i64.wrap ((i : Int) + 1) = ((i + 1 : Nat) : Int) := by rw [IntKind.wrap_i64]; omega
    have hst := cells_rwr W p
    have i1 : (0 : Int) ≤ (i : Int) := by omega
    have i2 : (i : Int) < (S.hangs.length : Int) := by omega
    have hsucc := fullL_succ S.hangs i p hp S.lasts
    replace hrg := hid hrg
    replace hiw := hid hiw
    replace hp := hid hp
    replace hvg := hid hvg
    replace hsucc := hid hsucc
    go_wp2_with (first
      | (with_reducible refine at_op (some 22) (.load 68 (.tmp 21)) ?_
         refine wpList_load_mid (op := ⟨some 22, _, _, _, _, _⟩) rfl 68 (.tmp 21) rfl g (i * 129) rfl (wrA p).toList _ hrg.out Try.underlying68 rfl hiw.out ?_
         simp only [Array.toArray_toList])
      | fail)
    obtain ⟨W1, hW1⟩ : ∃ W1, W1 = W.alloc (.cells (wrA p) 68) := ⟨_, rfl⟩
    have hb1 : Below W.heap.size W W1 := by rw [hW1]; exact below_al (Below.refl _ _) _
    have rb : RowAt W1 W.heap.size 68 (wrA p) := by rw [hW1]; exact RowAt.new _ _ _
    rw [← hW1]
    clear hW1 hst
    have rd0 := hK.out.row hd1.out.row (fun e => hLq e.symm)
    have rd1 := hid (rd0.below hb1 rd0.lt)
    have rL1 := hid (hR.out.below hb1 hR.out.lt)
    replace rb := hid rb
    replace hb1 := hid hb1
    clear rd0
    refine refSync_r6 (p := p) hpn hd.out.size.2 rd1 rb rL1 _ _ _ _ _ _ _ _ _ _ _ _ _ _ _ _ _ _ _ _ _ _ _ _ _ _ _ _ _ _ _ _ _ _ ?_
    intro v23 v24 v25 v26 v27 v28 v29 v30 v31 W2 hL2 hk2
    rw [← hsucc.out] at hL2
    replace hL2 := hid hL2
    replace hk2 := hid hk2
    go_wp2
    exact hKK.out (i + 1) _ _ rfl (by omega) ⟨hlti, hL2, hid (hK.out.trans ((Kept.of_below hb1.out).trans hk2.out))⟩
  · obtain rfl : i = S.hangs.length := by omega
    have g1 : decide (((S.hangs.length : Nat) : Int) < (S.hangs.length : Int)) = false := decide_eq_false (by omega)
    clear hKK
    have hR6 := hR.out
    rw [List.take_length, fullL_all] at hR6
    have rdW := hK.out.row hd1.out.row (fun e => hLq e.symm)
    have f1 := rdW.free 1
    have c1' : W.cell? ⟨q, 1, none⟩ = some v := rdW.cell rfl
    have rd2 := rdW.set 1 (.slice none 0 0)
    have hk2 : Kept (fun k => k = q) W (W.setCell ⟨q, 1, none⟩ (.slice none 0 0)) := (Kept.refl (· = q) _).setCell ⟨q, 1, none⟩ (.inl rfl) _
    have hL2 := hk2.row hR6 hLq
    replace hR6 := hid hR6
    replace hR := hid hR
    replace rdW := hid rdW
    replace rd2 := hid rd2
    replace hk2 := hid hk2
    replace hL2 := hid hL2
    go_wp2
    go_ret
    refine ⟨rfl, footR q L (.slice none 0 0), ⟨L, .slice none 0 0, ⟨rd2.out, hL2.out, World.ownsRow_nil _ _ _ _, hd.out.size, fun p hp => (by cases hp), ⟨hd.out.ne.1, fun g hg => (by cases hg)⟩⟩, fun k => Iff.rfl⟩, ?_, ?_⟩
    · refine (hk1.out.mono fun k _ e => ?_).trans ((hK.out.mono fun k _ e => ?_).trans (hk2.out.mono fun k _ e => ?_))
      · rw [e]; exact (hF.out q).2 (.inl rfl)
      · rw [e]; exact (hF.out L).2 (.inr (.inl rfl))
      · rw [e]; exact (hF.out q).2 (.inl rfl)
    · rintro k (rfl | rfl | hk)
      · exact .inl ((hF.out _).2 (.inl rfl))
      · exact .inl ((hF.out _).2 (.inr (.inl rfl)))
      · cases hk
/-- **SYNC (document).** -/
theorem refSync_any {F : Nat → Prop} {q : Nat} {S : DS} {w : World} (h : Rk w F q S) (hok : S.Ok) :
    Calls Try.prog 28 #[.pointer (some ⟨q, 0, none⟩)] w fun e w' => e = .returned (.int .i64 (S.sync).1) ∧ RkTo w F q (S.sync).2 w' := by
  have hsz : 1 ≤ S.n := by obtain ⟨L, v, hd, _⟩ := h; exact hd.size.1
  have hm0 : S.mayE 0 = if S.down then 13 else 0 := by
    unfold DS.mayE mayN
    split
    · rfl
    · rw [if_neg (by omega)]
  cases hdn : S.down with
  | true =>
    rw [hdn] at hm0
    rw [show S.sync = (13, S) by simp [DS.sync, hm0]]
    exact (refSync_no h hdn).mono fun e w' he => ⟨he.1, by rw [← he.2]; exact h.to (Below.refl _ _)⟩
  | false =>
    rw [hdn] at hm0
    by_cases h0 : S.fuse = 0
    · rw [show S.sync = (13, S.burnt) by simp [DS.sync, hm0, h0]]
      exact refSync_down h hdn h0
    · rw [show S.sync = (0, { S.stepped with lasts := allL S.hangs S.lasts, hangs := [] }) by simp [DS.sync, hm0, h0]]
      exact refSync_on h hok hdn h0
/-- So many bytes of a write, once i of them were looked at. -/
def cnt (k : Int) (i : Nat) : Nat := (min (max k 0) (i : Int)).toNat
theorem cnt_on {k : Int} {i : Nat} (h : 0 < k - cnt k i) : cnt k i = i ∧ cnt k (i + 1) = i + 1 := by unfold cnt at *; omega
theorem cnt_off {k : Int} {i : Nat} (h : ¬ 0 < k - cnt k i) : cnt k (i + 1) = cnt k i := by unfold cnt at *; omega
theorem cnt_zero (k : Int) : cnt k 0 = 0 := by unfold cnt; omega
theorem cnt_all (k : Int) : (cnt k 128 : Int) = min (max k 0) 128 := by unfold cnt; omega
set_option maxRecDepth 1000000 in
set_option maxHeartbeats 8000000 in
/-- **CRASH (document).** -/
theorem refCrash_any {F : Nat → Prop} {q : Nat} {S : DS} {w : World} (h : Rk w F q S) (hok : S.Ok) (keep : Int) (hk : keepOk keep) :
    Calls Try.prog 30 #[.pointer (some ⟨q, 0, none⟩), .int .i64 keep] w fun e w' => e = .returned (.tuple #[]) ∧ RkTo w F q (S.crash keep) w' := by
  obtain ⟨L, v, hd, hF⟩ := h
  obtain ⟨p0, c, hv, hq⟩ := hangs_slice hd.hangs
  have c1 : w.cell? ⟨q, 1, none⟩ = some v := hd.row.cell rfl
  rw [hv] at c1
  have hn := hok.hn
  replace hd := hid hd
  replace hF := hid hF
  replace hok := hid hok
  replace hq := hid hq
  replace hv := hid hv
  replace hk := hid hk
  have hLq : L ≠ q := fun e => hd.out.ne.1 e.symm
  go_enter Try.func30, Try.ntmps30
  go_wp2
  refine wp_loop_f (σ := Nat × Int × (Nat → UInt8)) (fun s f => #[.pointer (some ⟨q, 0, none⟩), .int .i64 s.2.1, f 2, f 3, f 4, f 5, f 6, f 7, f 8, f 9, .slice p0 S.hangs.length c, .int .i64 (S.hangs.length : Nat), .int .i64 (s.1 : Nat), f 13, f 14, f 15, f 16, f 17, f 18, f 19, f 20, f 21, f 22, f 23, f 24, f 25, f 26, f 27, f 28, f 29, f 30, f 31, f 32, f 33, f 34, f 35, f 36, f 37, f 38, f 39, f 40, f 41, f 42, f 43, f 44, f 45, f 46]) (fun s W => s.1 ≤ S.hangs.length ∧ Hid (settleL (S.hangs.drop s.1) s.2.1 s.2.2 = settleL S.hangs keep S.lasts) ∧ Hid (RowAt W L 32 (lastsA S.n s.2.2)) ∧ Hid (Kept (fun k => k = L) w W) ∧ Hid (keepOk s.2.1)) (fun s => S.hangs.length - s.1) (0, keep, S.lasts) [] rfl rfl ⟨Nat.zero_le _, hid rfl, hid hd.out.lasts, hid (Kept.refl _ _), hk⟩ ?_
  rintro ⟨i, k, l⟩ f W ⟨hi, hR, hL, hK, hko⟩ K hKK
  dsimp only at hi hR hL hK hko hKK ⊢
  replace hKK := hid hKK
  by_cases hlti : i < S.hangs.length
  · have g1 : decide ((i : Int) < (S.hangs.length : Int)) = true := decide_eq_true (by omega)
    obtain ⟨g, rfl, hvg⟩ := hq.out (by omega)
    obtain ⟨p, hp⟩ : ∃ p, S.hangs[i]? = some p := ⟨_, List.getElem?_eq_getElem hlti⟩
    have hpn := hd.out.inn p (List.mem_of_getElem? hp)
    have hrg := hangs_range (ownsRow_kept hd.out.hangs hK.out (fun x hx e => (hd.out.ne.2 x hx).2 e)) hvg hp
    have hiw : (Try.prog.info? 68).map (·.size) = some (wrA p).toList.length := by rw [Array.length_toList, wrA_size]; exact info_rwr
    have hz2 := zero_rwr
    have hzs2 := zeroWr_size
    have hws := wrA_size p
    have hst := cells_rwr W p
    have i1 : (0 : Int) ≤ (i : Int) := by omega
    have i2 : (i : Int) < (S.hangs.length : Int) := by omega
    replace hrg := hid hrg
    replace hiw := hid hiw
    replace hp := hid hp
    replace hvg := hid hvg
    go_wp2_with (first
      | (with_reducible refine at_op (some 15) (.load 68 (.tmp 14)) ?_
         refine wpList_load_mid (op := ⟨some 15, _, _, _, _, _⟩) rfl 68 (.tmp 14) rfl g (i * 129) rfl (wrA p).toList _ hrg.out Try.underlying68 rfl hiw.out ?_
         simp only [Array.toArray_toList])
      | fail)
    obtain ⟨b, hb⟩ : ∃ b, b = W.heap.size := ⟨_, rfl⟩
    obtain ⟨W1, hW1⟩ : ∃ W1, W1 = W.alloc (.cells (wrA p) 68) := ⟨_, rfl⟩
    have hb1 : Below W.heap.size W W1 := by rw [hW1]; exact below_al (Below.refl _ _) _
    have rb : RowAt W1 b 68 (wrA p) := by rw [hW1, hb]; exact RowAt.new _ _ _
    rw [← hW1, ← hb]
    clear hW1 hst
    have rd0 := hK.out.row hd.out.row (fun e => hLq e.symm)
    have rd1 := hid (rd0.below hb1 rd0.lt)
    have rL1 := hid (hL.out.below hb1 hL.out.lt)
    have hbL : b ≠ L := by have := hL.out.lt; omega
    replace rb := hid rb
    replace hb1 := hid hb1
    replace hb := hid hb
    clear rd0
    refine wp_loop_f (σ := Nat) (fun s f => #[.pointer (some ⟨q, 0, none⟩), .int .i64 (k - (cnt k s : Nat)), f 2, f 3, f 4, .pointer (some ⟨b, 0, none⟩), .int .i64 (s : Nat), f 7, f 8, f 9, .slice (some ⟨g, 0, none⟩) S.hangs.length c, .int .i64 (S.hangs.length : Nat), .int .i64 (i : Nat), f 13, f 14, f 15, f 16, f 17, f 18, f 19, f 20, f 21, f 22, f 23, f 24, f 25, f 26, f 27, f 28, f 29, f 30, f 31, f 32, f 33, f 34, f 35, f 36, f 37, f 38, f 39, f 40, f 41, f 42, f 43, f 44, f 45, f 46]) (fun s X => s ≤ 128 ∧ Hid (RowAt X L 32 (lastsA S.n (ovl l p.1 (cnt k s) p.2))) ∧ Hid (Kept (fun k => k = L) W1 X)) (fun s => 128 - s) 0 [] rfl (by simp [cnt_zero]) ⟨Nat.zero_le _, hid (by rw [cnt_zero, ovl_zero]; exact rL1.out), hid (Kept.refl _ _)⟩ ?_
    rintro j f' X ⟨hj, hX, hkX⟩ K' hKK'
    dsimp only at hj hX hkX hKK' ⊢
    replace hKK' := hid hKK'
    have hadd2 : IntKind.i64.wrap ((i : Int) + 1) = ((i + 1 : Nat) : Int) := by rw [IntKind.wrap_i64]; omega
    by_cases hj2 : j < 128
    · have g2 : decide ((j : Int) < 128) = true := decide_eq_true (by omega)
      have hadd : IntKind.i64.wrap ((j : Int) + 1) = ((j + 1 : Nat) : Int) := by rw [IntKind.wrap_i64]; omega
      by_cases hpos : 0 < k - (cnt k j : Int)
      · have g3 : decide ((cnt k j : Int) < k) = true := decide_eq_true (by omega)
        obtain ⟨e1, e2⟩ := cnt_on hpos
        have hX' := hX.out
        rw [e1] at hX'
        have hsub : IntKind.i64.wrap (k - (cnt k j : Int) - 1) = k - (cnt k (j + 1) : Int) := by rw [IntKind.wrap_i64]; have h1 := hko.out.1; have h2 := hko.out.2; omega
        have rdX := hid (hkX.out.row rd1.out (fun e => hLq e.symm))
        have rbX := hid (hkX.out.row rb.out hbL)
        replace hX' := hid hX'
        replace e1 := hid e1
        replace e2 := hid e2
        go_wp2
        refine refCrash_r7 (p := p) (l := l) hpn hd.out.size.2 hj2 rdX rbX hX' _ _ _ _ _ _ _ _ _ _ _ _ _ _ _ _ _ _ _ _ _ _ _ _ _ _ _ _ _ _ _ _ _ _ _ _ _ _ _ _ _ _ _ _ ?_
        intro v22 v23 v24 v25 v26 v27 v28 v29 v30 v31 v32 v33 v34 X2 hX2 hk2
        rw [← e2.out] at hX2
        replace hX2 := hid hX2
        replace hk2 := hid hk2
        go_wp2
        exact hKK'.out (j + 1) _ _ rfl (by omega) ⟨hj2, hX2, hid (hkX.out.trans hk2.out)⟩
      · have g3 : decide ((cnt k j : Int) < k) = false := decide_eq_false (by omega)
        have e2 := cnt_off hpos
        clear hpos
        have hX' := hX.out
        rw [← e2] at hX'
        rw [← e2] at g3 ⊢
        replace hX' := hid hX'
        replace e2 := hid e2
        go_wp2
        exact hKK'.out (j + 1) _ _ rfl (by omega) ⟨hj2, hX', hkX⟩
    · obtain rfl : j = 128 := by omega
      clear hKK'
      have hm := cnt_all k
      obtain ⟨m, hm'⟩ : ∃ m, m = cnt k 128 := ⟨_, rfl⟩
      rw [← hm'] at hm hX ⊢
      replace hm := hid hm
      replace hm' := hid hm'
      go_wp2
      have hdr : S.hangs.drop i = p :: S.hangs.drop (i + 1) := by
        rw [List.drop_eq_getElem_cons hlti]
        congr 1
        have := hp.out
        rw [List.getElem?_eq_getElem hlti] at this
        exact Option.some.inj this
      have hR' := hR.out
      rw [hdr, settleL, ← hm.out, Int.toNat_natCast] at hR'
      have hkL : Kept (fun k => k = L) w X := hK.out.trans ((Kept.of_below hb1.out).trans hkX.out)
      refine hKK.out (i + 1, k - (m : Int), ovl l p.1 m p.2) _ _ rfl (by dsimp only; omega) ⟨hlti, hid hR', hX, hid hkL, hid ⟨?_, ?_⟩⟩
      · have h1 := hko.out.1; have h2 := hm.out; dsimp only; omega
      · have h1 := hko.out.2; have h2 := hm.out; dsimp only; omega
  · obtain rfl : i = S.hangs.length := by omega
    have g1 : decide (((S.hangs.length : Nat) : Int) < (S.hangs.length : Int)) = false := decide_eq_false (by omega)
    clear hKK
    have hR' : l = settleL S.hangs keep S.lasts := by have := hR.out; simpa [settleL] using this
    replace hR' := hid hR'
    have rdW := hK.out.row hd.out.row (fun e => hLq e.symm)
    have f1 := rdW.free 1
    have c1' : W.cell? ⟨q, 1, none⟩ = some v := rdW.cell rfl
    obtain ⟨X1, hX1⟩ : ∃ X1, X1 = W.setCell ⟨q, 1, none⟩ (.slice none 0 0) := ⟨_, rfl⟩
    have r1 : RowAt X1 q 50 (refDA L S.n (.slice none 0 0) S.steps S.fuse S.down) := by rw [hX1]; exact rdW.set 1 _
    have k1 : Kept (fun k => k = q) W X1 := by rw [hX1]; exact (Kept.refl (· = q) _).setCell ⟨q, 1, none⟩ (.inl rfl) _
    have f4 := r1.free 4
    have c4 : X1.cell? ⟨q, 4, none⟩ = some (.bool S.down) := r1.cell rfl
    obtain ⟨X2, hX2⟩ : ∃ X2, X2 = X1.setCell ⟨q, 4, none⟩ (.bool false) := ⟨_, rfl⟩
    have r2 : RowAt X2 q 50 (refDA L S.n (.slice none 0 0) S.steps S.fuse false) := by rw [hX2]; exact r1.set 4 _
    have k2 : Kept (fun k => k = q) X1 X2 := by rw [hX2]; exact (Kept.refl (· = q) _).setCell ⟨q, 4, none⟩ (.inl rfl) _
    have f3 := r2.free 3
    have c3 : X2.cell? ⟨q, 3, none⟩ = some (.int .i64 S.fuse) := r2.cell rfl
    have r3 : RowAt (X2.setCell ⟨q, 3, none⟩ (.int .i64 (-1))) q 50 (refDA L S.n (.slice none 0 0) S.steps (-1) false) := r2.set 3 _
    have k3 : Kept (fun k => k = q) X2 (X2.setCell ⟨q, 3, none⟩ (.int .i64 (-1))) := (Kept.refl (· = q) _).setCell ⟨q, 3, none⟩ (.inl rfl) _
    have hkq := k1.trans (k2.trans k3)
    have hLe := hkq.row hL.out hLq
    have hfin : RkTo w F q (S.crash keep) (X2.setCell ⟨q, 3, none⟩ (.int .i64 (-1))) := by
      refine ⟨footR q L (.slice none 0 0), ⟨L, .slice none 0 0, ⟨r3, by rw [hR'.out] at hLe; exact hLe, World.ownsRow_nil _ _ _ _, hd.out.size, fun p hp => (by cases hp), ⟨hd.out.ne.1, fun g hg => (by cases hg)⟩⟩, fun k => Iff.rfl⟩, ?_, ?_⟩
      · refine (hK.out.mono fun k _ e => ?_).trans (hkq.mono fun k _ e => ?_)
        · rw [e]; exact (hF.out L).2 (.inr (.inl rfl))
        · rw [e]; exact (hF.out q).2 (.inl rfl)
      · rintro k (rfl | rfl | hk)
        · exact .inl ((hF.out _).2 (.inl rfl))
        · exact .inl ((hF.out _).2 (.inr (.inl rfl)))
        · cases hk
    rw [hX2] at c3 f3
    rw [hX1] at c3 f3 c4 f4
    rw [hX2, hX1] at hfin
    clear r1 r2 r3 k1 k2 k3 hkq hLe hX1 hX2
    replace hfin := hid hfin
    replace rdW := hid rdW
    go_wp2
    go_end0
    exact ⟨rfl, hfin.out⟩
end Go.Proofs.Ytaofpeajfgcjcaa
