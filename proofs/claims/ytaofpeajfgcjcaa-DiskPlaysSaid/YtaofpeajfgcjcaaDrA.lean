/- Disk: the document's disk in memory; New, step. -/
import Derived.Test.YtaofpeajfgcjcaaDkZ
namespace Go.Proofs.Ytaofpeajfgcjcaa
open Go Go.RowKit Go.Maps
set_option linter.unusedSimpArgs false
set_option linter.unusedVariables false

/-- The cells of the document's disk. -/
def refDA (L n : Nat) (v : Value) (steps fuse : Int) (down : Bool) : Array Value := #[.slice (some ⟨L, 0, none⟩) n n, v, .int .i64 steps, .int .i64 fuse, .bool down]
structure RkAt (w : World) (q L : Nat) (v : Value) (S : DS) : Prop where
  row : RowAt w q 50 (refDA L S.n v S.steps S.fuse S.down)
  lasts : RowAt w L 32 (lastsA S.n S.lasts)
  hangs : w.ownsRow 0 68 129 v S.hangs.length (hangA S.hangs)
  size : 1 ≤ S.n ∧ S.n ≤ 4096
  inn : ∀ p ∈ S.hangs, p.1 < S.n
  ne : q ≠ L ∧ ∀ g, v.ownBlock = some g → g ≠ q ∧ g ≠ L
def footR (q L : Nat) (v : Value) (k : Nat) : Prop := k = q ∨ k = L ∨ v.ownBlock = some k
theorem RkAt.lt {w : World} {q L : Nat} {v : Value} {S : DS} (h : RkAt w q L v S) : ∀ k, footR q L v k → k < w.heap.size := by
  rintro k (rfl | rfl | hk)
  · exact h.row.lt
  · exact h.lasts.lt
  · exact (World.ownsRow.lt h.hangs k hk).2
theorem RkAt.kept {T : Nat → Prop} {w w' : World} {q L : Nat} {v : Value} {S : DS} (h : RkAt w q L v S) (hk : Kept T w w') (hT : ∀ k, footR q L v k → ¬ T k) : RkAt w' q L v S :=
  ⟨hk.row h.row (hT _ (.inl rfl)), hk.row h.lasts (hT _ (.inr (.inl rfl))), ownsRow_kept h.hangs hk (fun g hg => hT _ (.inr (.inr hg))), h.size, h.inn, h.ne⟩
/-- The document's disk whose blocks are F. -/
def Rk (w : World) (F : Nat → Prop) (q : Nat) (S : DS) : Prop := ∃ L v, RkAt w q L v S ∧ ∀ k, F k ↔ footR q L v k
theorem Rk.lt {w : World} {F : Nat → Prop} {q : Nat} {S : DS} (h : Rk w F q S) : ∀ k, F k → k < w.heap.size := by
  obtain ⟨L, v, hd, hF⟩ := h
  exact fun k hk => hd.lt k ((hF k).1 hk)
theorem Rk.kept {T : Nat → Prop} {w w' : World} {F : Nat → Prop} {q : Nat} {S : DS} (h : Rk w F q S) (hk : Kept T w w') (hT : ∀ k, F k → ¬ T k) : Rk w' F q S := by
  obtain ⟨L, v, hd, hF⟩ := h
  exact ⟨L, v, hd.kept hk (fun k hk' => hT k ((hF k).2 hk')), hF⟩
theorem Rk.below {w w' : World} {F : Nat → Prop} {q : Nat} {S : DS} (h : Rk w F q S) (hb : Below w.heap.size w w') : Rk w' F q S := h.kept (Kept.of_below (S := fun _ => False) hb) (fun _ _ h => h)
def RkTo (w : World) (F : Nat → Prop) (q : Nat) (S' : DS) (w' : World) : Prop := ∃ F', Rk w' F' q S' ∧ Kept F w w' ∧ ∀ k, F' k → F k ∨ w.heap.size ≤ k
theorem Rk.to {w w' : World} {F : Nat → Prop} {q : Nat} {S : DS} (h : Rk w F q S) (hb : Below w.heap.size w w') : RkTo w F q S w' := ⟨F, h.below hb, Kept.of_below hb, fun k hk => .inl hk⟩
theorem refNew_dk (n : Nat) (h1 : 16 ≤ n) (h2 : n ≤ 4096) (w : World) : Calls Try.prog 17 #[.int .i64 (n : Nat)] w fun e w' =>
    ∃ q F, e = .returned (.pointer (some ⟨q, 0, none⟩)) ∧ Rk w' F q (DS.new n) ∧ Below w.heap.size w w' ∧ ∀ k, F k → w.heap.size ≤ k := by
  have g1 : decide ((n : Int) < 16) = false := decide_eq_false (by omega)
  have g1' : ¬ (n : Int) < 16 := by omega
  have g2 : decide ((4096 : Int) < (n : Int)) = false := decide_eq_false (by omega)
  have g2' : ¬ (4096 : Int) < (n : Int) := by omega
  have hmk := fun w => run_makeBlocks n h2 w
  have hfin : ∃ q F, Ending.returned (.pointer (some ⟨w.heap.size + 1, 0, none⟩)) = .returned (.pointer (some ⟨q, 0, none⟩)) ∧ Rk ((w.alloc (.cells (zeroRows n) 32)).alloc (.cells (refDA w.heap.size n (.slice none 0 0) 0 (-1) false) 50)) F q (DS.new n) ∧ Below w.heap.size w ((w.alloc (.cells (zeroRows n) 32)).alloc (.cells (refDA w.heap.size n (.slice none 0 0) 0 (-1) false) 50)) ∧ ∀ k, F k → w.heap.size ≤ k := by
    refine ⟨_, footR (w.heap.size + 1) w.heap.size (.slice none 0 0), rfl, ⟨_, _, ⟨?_, ?_, World.ownsRow_nil _ _ _ _, ⟨by show 1 ≤ n; omega, h2⟩, fun p hp => (by cases hp), ⟨by omega, fun g hg => (by cases hg)⟩⟩, fun k => Iff.rfl⟩, below_al (below_al (Below.refl _ _) _) _, ?_⟩
    · have := RowAt.new (w.alloc (.cells (zeroRows n) 32)) (refDA w.heap.size n (.slice none 0 0) 0 (-1) false) 50
      rw [show (w.alloc (.cells (zeroRows n) 32)).heap.size = w.heap.size + 1 by simp] at this
      exact this
    · exact ((RowAt.new w (zeroRows n) 32).alloc _).eqA (zeroRows_eq n)
    · rintro k (rfl | rfl | hk)
      · omega
      · omega
      · cases hk
  replace hfin := hid hfin
  go_enter Try.func17, Try.ntmps17
  go_wp2
  go_ret
  obtain ⟨q, F, h1, h2, h3, h4⟩ := hfin.out
  exact ⟨q, h1, F, h2, h3, h4⟩
theorem refNew_no (n : Int) (h : n < 16 ∨ 4096 < n) (w : World) : Calls Try.prog 17 #[.int .i64 n] w fun e w' => e = .returned (.pointer none) ∧ w = w' := by
  by_cases h1 : n < 16
  · have g1 : decide (n < 16) = true := decide_eq_true h1
    go_enter Try.func17, Try.ntmps17
    go_wp2
    go_ret
    exact ⟨rfl, rfl⟩
  · have g1 : decide (n < 16) = false := decide_eq_false h1
    have g2 : decide ((4096 : Int) < n) = true := decide_eq_true (by omega)
    have g2' : (4096 : Int) < n := by omega
    go_enter Try.func17, Try.ntmps17
    go_wp2
    go_ret
    exact ⟨rfl, rfl⟩
theorem refStep_down (q L n : Nat) (v : Value) (steps : Int) (down : Bool) (w : World) (hr : RowAt w q 50 (refDA L n v steps 0 down)) :
    Calls Try.prog 32 #[.pointer (some ⟨q, 0, none⟩)] w fun e w' => e = .returned (.bool false) ∧ RowAt w' q 50 (refDA L n v steps 0 true) ∧ Kept (· = q) w w' := by
  have c3 : w.cell? ⟨q, 3, none⟩ = some (.int .i64 0) := hr.cell rfl
  have f4 := hr.free 4
  have c4 : w.cell? ⟨q, 4, none⟩ = some (.bool down) := hr.cell rfl
  have hr' := hid (hr.set 4 (.bool true))
  have hk : Kept (· = q) w (w.setCell ⟨q, 4, none⟩ (.bool true)) := (Kept.refl (· = q) w).setCell ⟨q, 4, none⟩ (.inl rfl) _
  replace hr := hid hr
  replace hk := hid hk
  go_enter Try.func32, Try.ntmps32
  go_wp2
  go_ret
  exact ⟨rfl, hr'.out, hk.out⟩
theorem refStep_on (q L n : Nat) (v : Value) (steps fuse : Int) (down : Bool) (h0 : fuse ≠ 0) (hf1 : -9223372036854775808 < fuse) (hf2 : fuse ≤ 9223372036854775807) (hs1 : -9223372036854775808 ≤ steps) (hs2 : steps < 9223372036854775807)
    (w : World) (hr : RowAt w q 50 (refDA L n v steps fuse down)) :
    Calls Try.prog 32 #[.pointer (some ⟨q, 0, none⟩)] w fun e w' => e = .returned (.bool true) ∧ RowAt w' q 50 (refDA L n v (steps + 1) (burn fuse) down) ∧ Kept (· = q) w w' := by
  have c3 : w.cell? ⟨q, 3, none⟩ = some (.int .i64 fuse) := hr.cell rfl
  have c2 : w.cell? ⟨q, 2, none⟩ = some (.int .i64 steps) := hr.cell rfl
  have f3 := hr.free 3
  have f2 := hr.free 2
  have hz : (fuse == 0) = false := by simpa using h0
  have hw1 : IntKind.i64.wrap (fuse - 1) = fuse - 1 := by rw [IntKind.wrap_i64]; omega
  have hw2 : IntKind.i64.wrap (steps + 1) = steps + 1 := by rw [IntKind.wrap_i64]; omega
  rcases (by unfold burn; omega : (0 < fuse ∧ burn fuse = fuse - 1) ∨ (fuse < 0 ∧ burn fuse = fuse)) with ⟨hp, hb⟩ | ⟨hp, hb⟩
  · have hr' : RowAt ((w.setCell ⟨q, 3, none⟩ (.int .i64 (fuse - 1))).setCell ⟨q, 2, none⟩ (.int .i64 (steps + 1))) q 50 (refDA L n v (steps + 1) (fuse - 1) down) := (hr.set 3 (.int .i64 (fuse - 1))).set 2 (.int .i64 (steps + 1))
    have hk : Kept (· = q) w ((w.setCell ⟨q, 3, none⟩ (.int .i64 (fuse - 1))).setCell ⟨q, 2, none⟩ (.int .i64 (steps + 1))) := ((Kept.refl (· = q) w).setCell ⟨q, 3, none⟩ (.inl rfl) _).setCell ⟨q, 2, none⟩ (.inl rfl) _
    have g1 : decide (0 < fuse) = true := decide_eq_true hp
    replace hr := hid hr
    replace hr' := hid hr'
    replace hk := hid hk
    replace hb := hid hb
    go_enter Try.func32, Try.ntmps32
    go_wp2
    go_ret
    rw [hb.out]
    exact ⟨rfl, hr'.out, hk.out⟩
  · have hr' : RowAt (w.setCell ⟨q, 2, none⟩ (.int .i64 (steps + 1))) q 50 (refDA L n v (steps + 1) fuse down) := hr.set 2 (.int .i64 (steps + 1))
    have hk : Kept (· = q) w (w.setCell ⟨q, 2, none⟩ (.int .i64 (steps + 1))) := (Kept.refl (· = q) w).setCell ⟨q, 2, none⟩ (.inl rfl) _
    have g1 : decide (0 < fuse) = false := decide_eq_false (by omega)
    replace hr := hid hr
    replace hr' := hid hr'
    replace hk := hid hk
    replace hb := hid hb
    go_enter Try.func32, Try.ntmps32
    go_wp2
    go_ret
    rw [hb.out]
    exact ⟨rfl, hr'.out, hk.out⟩
end Go.Proofs.Ytaofpeajfgcjcaa
