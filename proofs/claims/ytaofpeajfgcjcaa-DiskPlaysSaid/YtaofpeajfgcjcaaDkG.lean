/- Disk: a write's own cells. -/
import Derived.Test.YtaofpeajfgcjcaaDkF
import Derived.Test.YtaofpeajfgcjcaaFil
import Derived.Test.YtaofpeajfgcjcaaRgn
namespace Go.Proofs.Ytaofpeajfgcjcaa
open Go Go.RowKit Go.Maps
set_option linter.unusedSimpArgs false
set_option linter.unusedVariables false

theorem info_write : (Try.prog.info? 60).map (fun i => (i.size, i.bytes)) = some (129, 136) := by kernel_rfl
theorem zero_write : ((Try.prog.info? 60).bind (·.zero)).map (fun z => z.cells.size) = some 129 := by kernel_rfl
theorem places_write : ∃ fs : Array Field, Try.prog.underlying 60 = some (.struct fs) ∧ fs.toList.mapM (fun f => (Try.prog.info? f.type).map fun i => (f.offset, i.size)) = some [(0, 1), (1, 128)] := ⟨_, Try.underlying60, by kernel_rfl⟩
theorem wrA_get0 (p : Nat × Blk) : (wrA p)[0]? = some (.int .i64 (p.1 : Nat)) := by
  unfold wrA
  rw [Array.getElem?_append_left (by simp)]
  rfl
theorem wrA_get (p : Nat × Blk) (j : Nat) : (wrA p)[j + 1]? = (blkA p.2)[j]? := by
  unfold wrA
  rw [Array.getElem?_append_right (by simp)]
  simp
theorem built_write (p : Nat × Blk) : Try.prog.built 60 [(0, .int .i64 (p.1 : Nat)), (1, .agg (blkA p.2))] = some (wrA p) := by
  obtain ⟨fs, hu, hp⟩ := places_write
  have hz := zero_write
  unfold Program.built
  cases hit : Try.prog.info? 60 with
  | none => rw [hit] at hz; cases hz
  | some it =>
    rw [hit] at hz
    simp only [Option.bind_some] at hz
    cases hzz : it.zero with
    | none => rw [hzz] at hz; cases hz
    | some z =>
      rw [hzz] at hz
      have hzs : z.cells.size = 129 := by simpa using hz
      simp only [hu, hzz, hp]
      generalize z.cells = Z at hzs ⊢
      have e0 : (Value.int .i64 (p.1 : Nat)).cells = #[.int .i64 (p.1 : Nat)] := rfl
      have e1 : (Value.agg (blkA p.2)).cells = blkA p.2 := rfl
      rw [fill_cons (v := .int .i64 (p.1 : Nat)) (off := 0) rfl (by rw [e0]; simp; omega), fill_cons (v := .agg (blkA p.2)) (off := 1) (by rw [e1, blkA_size]; rfl) (by rw [fold_put_size, e1, blkA_size]; omega), Instr.fill]
      congr 1
      apply Array.ext_getElem?
      intro i
      rw [fold_put_get 1 _ 0 _ i (by rw [fold_put_size, e1, Array.length_toList, blkA_size]; omega), e0, e1]
      simp only [Array.length_toList, blkA_size, Nat.add_zero]
      by_cases h1 : 1 ≤ i ∧ i < 1 + 128
      · rw [if_pos h1]
        obtain ⟨j, rfl⟩ : ∃ j, i = j + 1 := ⟨i - 1, by omega⟩
        rw [wrA_get]; simp
      · rw [if_neg h1, fold_put_get 0 _ 0 _ i (by simp; omega)]
        by_cases h2 : i = 0
        · subst h2; rw [if_pos (by simp), wrA_get0]; simp
        · rw [if_neg (by simp; omega), Array.getElem?_eq_none (by omega), Array.getElem?_eq_none (by rw [wrA_size]; omega)]
theorem build_write (p : Nat × Blk) (w : World) : (Instr.build 60 #[(0, .int .i64 (p.1 : Nat)), (1, .agg (blkA p.2))]).run Try.prog w = .ok (.agg (wrA p)) w := run_build w _ _ _ (built_write p)
theorem infoW1 : (Try.prog.info? 60).map (fun i => (i.zero.isSome, i.size)) = some (true, 129) := by kernel_rfl
theorem buildSlice_write (p : Nat × Blk) (w : World) : (Instr.buildSlice 55 1 #[(0, .agg (wrA p))]).run Try.prog w = .ok (.slice (some ⟨w.heap.size, 0, none⟩) 1 1) (w.alloc (.cells (wrA p) 60)) :=
  run_buildSlice1 w _ _ (wrA p) Try.underlying55 (by rw [wrA_size]; exact infoW1) (by rw [wrA_size]; omega) (by rw [wrA_size]; omega)
end Go.Proofs.Ytaofpeajfgcjcaa
