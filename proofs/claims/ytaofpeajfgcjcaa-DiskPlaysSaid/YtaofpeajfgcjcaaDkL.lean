/- Disk: Crash, Fuse, and what is asked of a disk. -/
import Derived.Test.YtaofpeajfgcjcaaDkK
namespace Go.Proofs.Ytaofpeajfgcjcaa
open Go Go.RowKit Go.Maps
set_option linter.unusedSimpArgs false
set_option linter.unusedVariables false

def DS.crash (S : DS) (keep : Int) : DS := { S with lasts := settleL S.hangs keep S.lasts, hangs := [], down := false, fuse := -1 }
def DS.setFuse (S : DS) (n : Int) : DS := { S with fuse := max n (-1) }
theorem crash_any {F : Nat → Prop} {d : Nat} {S : DS} {w : World} (h : Dk w F d S) (hok : S.Ok) (keep : Int) (hk : keepOk keep) :
    Calls Try.prog 11 #[.pointer (some ⟨d, 0, none⟩), .int .i64 keep] w fun e w' => e = .returned (.tuple #[]) ∧ DkTo w F d (S.crash keep) w' := by
  obtain ⟨L, M, v, hd, hF⟩ := h
  have hset := hid (settle_on hd keep hk hok.hn)
  go_enter Try.func11, Try.ntmps11
  go_wp2_with (go_at_call 26; refine hset.out.mono ?_; rintro e w1 ⟨rfl, hd1, hk1⟩; have f5 := hd1.row.free 5; have c5 : w1.cell? ⟨d, 5, none⟩ = some (.bool S.down) := hd1.row.cell rfl; have c4 : w1.cell? ⟨d, 4, none⟩ = some (.int .i64 S.fuse) := hd1.row.cell rfl; have f4 := hd1.row.free 4; replace hd1 := hid hd1; replace hk1 := hid hk1)
  go_end0
  have hr2 : RowAt ((w1.setCell ⟨d, 5, none⟩ (.bool false)).setCell ⟨d, 4, none⟩ (.int .i64 (-1))) d 57 (diskA L S.n (.slice none 0 0) M S.steps (-1) false) := (hd1.out.row.set 5 (.bool false)).set 4 (.int .i64 (-1))
  have hk2 : Kept (· = d) w1 ((w1.setCell ⟨d, 5, none⟩ (.bool false)).setCell ⟨d, 4, none⟩ (.int .i64 (-1))) := ((Kept.refl (· = d) _).setCell ⟨d, 5, none⟩ (.inl rfl) _).setCell ⟨d, 4, none⟩ (.inl rfl) _
  obtain ⟨D, hs, hA⟩ := hd1.out.shown
  refine ⟨rfl, footD d L M (.slice none 0 0), ⟨L, M, .slice none 0 0, ⟨hr2, hk2.row hd1.out.lasts (fun e => hd1.out.ne.1 e.symm), ⟨D, hs.kept hk2 (fun e => hd1.out.ne.2.1 e.symm), hA⟩, World.ownsRow_nil _ _ _ _, hd1.out.size, fun p hp => (by cases hp), ⟨hd1.out.ne.1, hd1.out.ne.2.1, hd1.out.ne.2.2.1, fun g hg => (by cases hg)⟩⟩, fun k => Iff.rfl⟩, (hk1.out.mono fun k _ h => ?_).trans (hk2.mono fun k _ h => ?_), fun k h => .inl ?_⟩
  · exact (hF k).2 (h.elim .inl fun h => .inr (h.elim .inl fun h => .inr (.inl h)))
  · exact (hF k).2 (.inl h)
  · exact (hF k).2 (h.elim .inl fun h => .inr (h.elim .inl fun h => .inr (h.elim .inl fun h => (by cases h))))
theorem crash_nil (keep : Int) (w : World) : Calls Try.prog 11 #[.pointer none, .int .i64 keep] w fun e w' => e = .returned (.tuple #[]) ∧ w = w' := by
  go_enter Try.func11, Try.ntmps11
  go_wp2
  refine bodyPost_ret (results_none rfl _ _ _) rfl ?_
  exact ⟨rfl, rfl⟩
theorem fuse_any {F : Nat → Prop} {d : Nat} {S : DS} {w : World} (h : Dk w F d S) (n : Int) :
    Calls Try.prog 21 #[.pointer (some ⟨d, 0, none⟩), .int .i64 n] w fun e w' => e = .returned (.tuple #[]) ∧ Dk w' F d (S.setFuse n) ∧ Kept (· = d) w w' := by
  obtain ⟨L, M, v, hd, hF⟩ := h
  have c4 : w.cell? ⟨d, 4, none⟩ = some (.int .i64 S.fuse) := hd.row.cell rfl
  have f4 := hd.row.free 4
  have hmx : ∀ w, (Builtin.max_ #[3, 3] 3 #[.int .i64 n, .int .i64 (-1)]).run Try.prog w = .ok (.int .i64 (max n (-1))) w := fun w => run_mx2 _ _ _ _ _ _
  have hr2 : RowAt (w.setCell ⟨d, 4, none⟩ (.int .i64 (max n (-1)))) d 57 (diskA L S.n v M S.steps (max n (-1)) S.down) := hd.row.set 4 (.int .i64 (max n (-1)))
  have hk2 : Kept (· = d) w (w.setCell ⟨d, 4, none⟩ (.int .i64 (max n (-1)))) := (Kept.refl (· = d) _).setCell ⟨d, 4, none⟩ (.inl rfl) _
  obtain ⟨D, hs, hA⟩ := hd.shown
  have hfin : Dk (w.setCell ⟨d, 4, none⟩ (.int .i64 (max n (-1)))) F d (S.setFuse n) := ⟨L, M, v, ⟨hr2, hk2.row hd.lasts (fun e => hd.ne.1 e.symm), ⟨D, hs.kept hk2 (fun e => hd.ne.2.1 e.symm), hA⟩, ownsRow_kept hd.hangs hk2 (fun g hg => (hd.ne.2.2.2 g hg).1), hd.size, hd.inn, hd.ne⟩, hF⟩
  replace hd := hid hd
  replace hF := hid hF
  replace hs := hid hs
  replace hA := hid hA
  replace hfin := hid hfin
  replace hk2 := hid hk2
  replace hr2 := hid hr2
  go_enter Try.func21, Try.ntmps21
  go_wp2
  go_end0
  exact ⟨rfl, hfin.out, hk2.out⟩
theorem fuse_nil (n : Int) (w : World) : Calls Try.prog 21 #[.pointer none, .int .i64 n] w fun e w' => e = .returned (.tuple #[]) ∧ w = w' := by
  go_enter Try.func21, Try.ntmps21
  go_wp2
  go_end0
  exact ⟨rfl, rfl⟩
theorem down_any {F : Nat → Prop} {d : Nat} {S : DS} {w : World} (h : Dk w F d S) : Calls Try.prog 16 #[.pointer (some ⟨d, 0, none⟩)] w fun e w' => e = .returned (.bool S.down) ∧ w = w' := by
  obtain ⟨L, M, v, hd, hF⟩ := h
  have c5 : w.cell? ⟨d, 5, none⟩ = some (.bool S.down) := hd.row.cell rfl
  replace hd := hid hd
  replace hF := hid hF
  go_enter Try.func16, Try.ntmps16
  go_wp2
  go_ret
  exact ⟨rfl, rfl⟩
theorem down_nil (w : World) : Calls Try.prog 16 #[.pointer none] w fun e w' => e = .returned (.bool false) ∧ w = w' := by
  go_enter Try.func16, Try.ntmps16
  go_wp2
  go_ret
  exact ⟨rfl, rfl⟩
theorem steps_any {F : Nat → Prop} {d : Nat} {S : DS} {w : World} (h : Dk w F d S) : Calls Try.prog 19 #[.pointer (some ⟨d, 0, none⟩)] w fun e w' => e = .returned (.int .i64 S.steps) ∧ w = w' := by
  obtain ⟨L, M, v, hd, hF⟩ := h
  have c3 : w.cell? ⟨d, 3, none⟩ = some (.int .i64 S.steps) := hd.row.cell rfl
  replace hd := hid hd
  replace hF := hid hF
  go_enter Try.func19, Try.ntmps19
  go_wp2
  go_ret
  exact ⟨rfl, rfl⟩
theorem steps_nil (w : World) : Calls Try.prog 19 #[.pointer none] w fun e w' => e = .returned (.int .i64 0) ∧ w = w' := by
  go_enter Try.func19, Try.ntmps19
  go_wp2
  go_ret
  exact ⟨rfl, rfl⟩
theorem hangs_any {F : Nat → Prop} {d : Nat} {S : DS} {w : World} (h : Dk w F d S) (hok : S.Ok) : Calls Try.prog 14 #[.pointer (some ⟨d, 0, none⟩)] w fun e w' => e = .returned (.int .i64 ((S.hangs.length * 128 : Nat) : Int)) ∧ w = w' := by
  obtain ⟨L, M, v, hd, hF⟩ := h
  obtain ⟨q, c, hv⟩ : ∃ q c, v = .slice q S.hangs.length c := by
    rcases hd.hangs.2 with ⟨h1, h2⟩ | ⟨g, cap, cur, h1, _⟩
    · exact ⟨none, 0, by rw [h1, h2]⟩
    · exact ⟨_, _, h1⟩
  have c1 : w.cell? ⟨d, 1, none⟩ = some v := hd.row.cell rfl
  rw [hv] at c1
  have hw : IntKind.i64.wrap ((S.hangs.length : Int) * 128) = (S.hangs.length : Int) * 128 := by rw [IntKind.wrap_i64]; have := hok.hn; omega
  replace hd := hid hd
  replace hF := hid hF
  replace hv := hid hv
  go_enter Try.func14, Try.ntmps14
  go_wp2
  go_ret
  exact ⟨by simp, rfl⟩
theorem hangs_nil (w : World) : Calls Try.prog 14 #[.pointer none] w fun e w' => e = .returned (.int .i64 0) ∧ w = w' := by
  go_enter Try.func14, Try.ntmps14
  go_wp2
  go_ret
  exact ⟨rfl, rfl⟩
theorem sectors_any {F : Nat → Prop} {d : Nat} {S : DS} {w : World} (h : Dk w F d S) : Calls Try.prog 22 #[.pointer (some ⟨d, 0, none⟩)] w fun e w' => e = .returned (.int .i64 (S.n : Nat)) ∧ w = w' := by
  obtain ⟨L, M, v, hd, hF⟩ := h
  have c0 : w.cell? ⟨d, 0, none⟩ = some (.slice (some ⟨L, 0, none⟩) S.n S.n) := hd.row.cell rfl
  replace hd := hid hd
  replace hF := hid hF
  go_enter Try.func22, Try.ntmps22
  go_wp2
  go_ret
  exact ⟨rfl, rfl⟩
theorem sectors_nil (w : World) : Calls Try.prog 22 #[.pointer none] w fun e w' => e = .returned (.int .i64 0) ∧ w = w' := by
  go_enter Try.func22, Try.ntmps22
  go_wp2
  go_ret
  exact ⟨rfl, rfl⟩
end Go.Proofs.Ytaofpeajfgcjcaa
