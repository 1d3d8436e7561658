/- Disk: step. -/
import Derived.Test.YtaofpeajfgcjcaaDkA
namespace Go.Proofs.Ytaofpeajfgcjcaa
open Go Go.RowKit
set_option linter.unusedSimpArgs false
set_option linter.unusedVariables false

/-- The fuse after a step. -/
def burn (fuse : Int) : Int := max (fuse - 1) (min fuse (-1))
theorem step_down (d L n : Nat) (v : Value) (M : Nat) (steps : Int) (down : Bool) (w : World) (hr : RowAt w d 57 (diskA L n v M steps 0 down)) :
    Calls Try.prog 25 #[.pointer (some ⟨d, 0, none⟩)] w fun e w' => e = .returned (.int .i64 13) ∧ RowAt w' d 57 (diskA L n v M steps 0 true) ∧ Kept (· = d) w w' := by
  have c4 : w.cell? ⟨d, 4, none⟩ = some (.int .i64 0) := hr.cell rfl
  have f5 := hr.free 5
  have c5 : w.cell? ⟨d, 5, none⟩ = some (.bool down) := hr.cell rfl
  have hr' := hr.set 5 (.bool true)
  have hk : Kept (· = d) w (w.setCell ⟨d, 5, none⟩ (.bool true)) := (Kept.refl (· = d) w).setCell ⟨d, 5, none⟩ (.inl rfl) _
  replace hr := hid hr
  replace hr' := hid hr'
  replace hk := hid hk
  go_enter Try.func25, Try.ntmps25
  go_wp2
  go_ret
  exact ⟨rfl, hr'.out, hk.out⟩

theorem step_on (d L n : Nat) (v : Value) (M : Nat) (steps fuse : Int) (down : Bool) (h0 : fuse ≠ 0) (hf1 : -9223372036854775808 < fuse) (hf2 : fuse ≤ 9223372036854775807) (hs1 : -9223372036854775808 ≤ steps) (hs2 : steps < 9223372036854775807)
    (w : World) (hr : RowAt w d 57 (diskA L n v M steps fuse down)) :
    Calls Try.prog 25 #[.pointer (some ⟨d, 0, none⟩)] w fun e w' => e = .returned (.int .i64 0) ∧ RowAt w' d 57 (diskA L n v M (steps + 1) (burn fuse) down) ∧ Kept (· = d) w w' := by
  have c4 : w.cell? ⟨d, 4, none⟩ = some (.int .i64 fuse) := hr.cell rfl
  have c3 : w.cell? ⟨d, 3, none⟩ = some (.int .i64 steps) := hr.cell rfl
  have f4 := hr.free 4
  have f3 := hr.free 3
  have hz : (fuse == 0) = false := by simpa using h0
  have hw1 : IntKind.i64.wrap (fuse - 1) = fuse - 1 := by rw [IntKind.wrap_i64]; omega
  have hw2 : IntKind.i64.wrap (steps + 1) = steps + 1 := by rw [IntKind.wrap_i64]; omega
  have hcase : ∃ g, burn fuse = g ∧ ((0 < fuse ∧ g = fuse - 1) ∨ (fuse < 0 ∧ g = fuse)) := by
    refine ⟨_, rfl, ?_⟩
    unfold burn
    omega
  obtain ⟨g, hg, hcase⟩ := hcase
  rw [hg]
  have hr' : RowAt ((w.setCell ⟨d, 4, none⟩ (.int .i64 g)).setCell ⟨d, 3, none⟩ (.int .i64 (steps + 1))) d 57 (diskA L n v M (steps + 1) g down) := (hr.set 4 (.int .i64 g)).set 3 (.int .i64 (steps + 1))
  have hk : Kept (· = d) w ((w.setCell ⟨d, 4, none⟩ (.int .i64 g)).setCell ⟨d, 3, none⟩ (.int .i64 (steps + 1))) := ((Kept.refl (· = d) w).setCell ⟨d, 4, none⟩ (.inl rfl) _).setCell ⟨d, 3, none⟩ (.inl rfl) _
  clear hg
  replace hr := hid hr
  replace hr' := hid hr'
  replace hk := hid hk
  rcases hcase with ⟨hp, rfl⟩ | ⟨hp, rfl⟩
  all_goals
    go_enter Try.func25, Try.ntmps25
    go_wp2
    go_region
    all_goals go_wp2
    all_goals go_ret
    all_goals first | exact ⟨rfl, hr'.out.drew, hk.out.drew⟩ | (exfalso; simp only [decide_eq_true_eq, decide_eq_false_iff_not] at *; omega) | trace_state
end Go.Proofs.Ytaofpeajfgcjcaa
