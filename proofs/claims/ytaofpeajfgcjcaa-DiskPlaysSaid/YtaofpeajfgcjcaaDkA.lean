/- Disk: New, may, step. -/
import Derived.Test.YtaofpeajfgcjcaaWkX
import Derived.Carry
namespace Go.Proofs.Ytaofpeajfgcjcaa
open Go Go.RowKit
set_option linter.unusedSimpArgs false
set_option linter.unusedVariables false

/-- A disk's cells. -/
def diskA (L n : Nat) (v : Value) (M : Nat) (steps fuse : Int) (down : Bool) : Array Value := #[.slice (some ⟨L, 0, none⟩) n n, v, .map (some M), .int .i64 steps, .int .i64 fuse, .bool down]
def zeroRows (n : Nat) : Array Value := rowA (n * 128) fun _ => .int .u8 0
theorem infoDisk : (Try.prog.info? 57).map (·.size) = some 6 := by kernel_rfl
theorem infoBlock : (Try.prog.info? 32).map (fun i => (i.zero, i.size, i.bytes)) = some (some (.agg (Array.replicate 128 (.int .u8 0))), 128, 128) := by kernel_rfl
theorem run_makeBlocks (n : Nat) (hn : n ≤ 4096) (w : World) :
    (Instr.makeSlice 35 (.int .i64 (n : Int)) (.int .i64 (n : Int))).run Try.prog w = .ok (.slice (some ⟨w.heap.size, 0, none⟩) n n) (w.alloc (.cells (zeroRows n) 32)) := by
  have hi := infoBlock
  cases hq : Try.prog.info? 32 with
  | none => rw [hq] at hi; cases hi
  | some i =>
    rw [hq] at hi
    simp only [Option.map_some, Option.some.injEq, Prod.mk.injEq] at hi
    obtain ⟨hz, hs, hb⟩ := hi
    have := run_make (P := Try.prog) w 35 32 i _ Try.underlying35 hq hz .i64 .i64 n n (by omega) (Int.le_refl _) (by rw [hb]; omega) (by omega)
    simp only [Int.toNat_natCast, hs] at this
    rw [this]
    congr 3
    refine rowA_of (size_madeCells _ _) (fun j hj => ?_)
    simp [madeCells, hj, Value.cells]
    have h128 : j % 128 < 128 := Nat.mod_lt _ (by decide)
    rw [getElem!_pos _ _ (by simpa using h128)]
    simp
theorem new_any (n : Nat) (h1 : 16 ≤ n) (h2 : n ≤ 4096) (w : World) : Calls Try.prog 8 #[.int .i64 (n : Nat)] w fun e w' =>
    e = .returned (.tuple #[.pointer (some ⟨w.heap.size + 2, 0, none⟩), .int .i64 0]) ∧ w' = ((w.alloc (.cells (zeroRows n) 32)).alloc (.map #[] 0)).alloc (.cells (diskA w.heap.size n (.slice none 0 0) (w.heap.size + 1) 0 (-1) false) 57) := by
  have g1 : decide ((n : Int) < 16) = false := decide_eq_false (by omega)
  have g1' : ¬ (n : Int) < 16 := by omega
  have g2 : decide ((4096 : Int) < (n : Int)) = false := decide_eq_false (by omega)
  have g2' : ¬ (4096 : Int) < (n : Int) := by omega
  have hmk := fun w => run_makeBlocks n h2 w
  have hmm := @run_makeMap Try.prog
  go_enter Try.func8, Try.ntmps8
  go_wp2
  go_ret2
  exact ⟨rfl, rfl⟩
theorem may_nil (at' : Int) (w : World) : Calls Try.prog 24 #[.pointer none, .int .i64 at'] w fun e w' => e = .returned (.int .i64 1) ∧ w = w' := by
  go_enter Try.func24, Try.ntmps24
  go_wp2
  go_ret
  exact ⟨rfl, rfl⟩
/-- What is wrong with a place. -/
def mayN (down : Bool) (n : Nat) (at' : Int) : Int := if down then 13 else if at' < 0 ∨ (n : Int) ≤ at' then 2 else 0
theorem may_any (d L n : Nat) (v : Value) (M : Nat) (steps fuse : Int) (down : Bool) (at' : Int) (w : World) (hr : RowAt w d 57 (diskA L n v M steps fuse down)) :
    Calls Try.prog 24 #[.pointer (some ⟨d, 0, none⟩), .int .i64 at'] w fun e w' => e = .returned (.int .i64 (mayN down n at')) ∧ w = w' := by
  have c5 : w.cell? ⟨d, 5, none⟩ = some (.bool down) := hr.cell rfl
  have c0 : w.cell? ⟨d, 0, none⟩ = some (.slice (some ⟨L, 0, none⟩) n n) := hr.cell rfl
  replace hr := hid hr
  cases down with
  | true =>
    go_enter Try.func24, Try.ntmps24
    go_wp2
    go_ret
    exact ⟨rfl, rfl⟩
  | false =>
    have hcase : (decide (at' < 0) = true ∧ mayN false n at' = 2) ∨ (decide (at' < 0) = false ∧ decide ((n : Int) ≤ at') = true ∧ mayN false n at' = 2) ∨ (decide (at' < 0) = false ∧ decide ((n : Int) ≤ at') = false ∧ mayN false n at' = 0) := by
      by_cases h1 : at' < 0
      · exact .inl ⟨decide_eq_true h1, by simp [mayN, h1]⟩
      · by_cases h2 : (n : Int) ≤ at'
        · exact .inr (.inl ⟨decide_eq_false h1, decide_eq_true h2, by simp [mayN, h2]⟩)
        · exact .inr (.inr ⟨decide_eq_false h1, decide_eq_false h2, by simp [mayN, h1, h2]⟩)
    rcases hcase with ⟨h1, h2⟩ | ⟨h1, h3, h2⟩ | ⟨h1, h3, h2⟩
    all_goals
      replace h2 := hid h2
      go_enter Try.func24, Try.ntmps24
      go_wp2
      go_ret
      exact ⟨by rw [h2.out]; rfl, rfl⟩
end Go.Proofs.Ytaofpeajfgcjcaa
