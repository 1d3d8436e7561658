/- Plain laws on values that are built out of parts: a part of many cells. -/
import Derived.Test.YtaofpeajfgcjcaaWkX
import Derived.Great.BuildSlice
namespace Go.Proofs.Ytaofpeajfgcjcaa
open Go Go.RowKit
set_option linter.unusedSimpArgs false
set_option linter.unusedVariables false

theorem fold_put_size (off : Nat) : ∀ (vs : List Value) (k : Nat) (cells : Array Value), ((vs.zipIdx k).foldl (fun cs (x : Value × Nat) => cs.setIfInBounds (off + x.2) x.1) cells).size = cells.size
  | [], _, _ => rfl
  | v :: vs, k, cells => by
    rw [List.zipIdx_cons, List.foldl_cons, fold_put_size off vs (k + 1)]
    simp
theorem fold_put_get (off : Nat) : ∀ (vs : List Value) (k : Nat) (cells : Array Value) (i : Nat), off + k + vs.length ≤ cells.size →
    ((vs.zipIdx k).foldl (fun cs (x : Value × Nat) => cs.setIfInBounds (off + x.2) x.1) cells)[i]? = if off + k ≤ i ∧ i < off + k + vs.length then vs[i - (off + k)]? else cells[i]?
  | [], k, cells, i, _ => by simp; intros; omega
  | v :: vs, k, cells, i, h => by
    simp only [List.length_cons] at h
    rw [List.zipIdx_cons, List.foldl_cons, fold_put_get off vs (k + 1) _ i (by simp; omega)]
    simp only [List.length_cons]
    by_cases h1 : off + (k + 1) ≤ i ∧ i < off + (k + 1) + vs.length
    · rw [if_pos h1, if_pos (by omega), show i - (off + k) = (i - (off + (k + 1))) + 1 by omega]
      simp
    · rw [if_neg h1]
      by_cases h2 : i = off + k
      · subst h2
        rw [if_pos (by omega)]
        simp [show off + k < cells.size by omega]
      · rw [if_neg (by omega), Array.getElem?_setIfInBounds_ne (by omega)]
theorem fill_cons {place : Nat → Option (Nat × Nat)} {cells : Array Value} {i off : Nat} {v : Value} {rest : List (Nat × Value)} (hp : place i = some (off, v.cells.size)) (ho : off + v.cells.size ≤ cells.size) :
    Instr.fill place cells ((i, v) :: rest) = Instr.fill place ((v.cells.toList.zipIdx 0).foldl (fun cs (x : Value × Nat) => cs.setIfInBounds (off + x.2) x.1) cells) rest := by
  rw [Instr.fill, hp]
  simp only [ne_eq, not_true_eq_false, decide_false, Bool.false_or, decide_eq_true_eq]
  rw [if_neg (by omega)]
  congr 1
  rw [← Array.foldl_toList, Array.toList_zipIdx]
theorem fill_whole {place : Nat → Option (Nat × Nat)} {old new : Array Value} (hp : place 0 = some (0, new.size)) (hs : old.size = new.size) : Instr.fill place old [(0, .agg new)] = some new := by
  rw [fill_cons (v := .agg new) hp (by simp only [Value.cells]; omega), Instr.fill]
  congr 1
  apply Array.ext_getElem?
  intro i
  rw [fold_put_get 0 _ 0 old i (by simp [Value.cells]; omega)]
  simp only [Value.cells, Array.length_toList, Nat.add_zero, Nat.zero_add, Nat.zero_le, true_and, Nat.sub_zero]
  split
  · simp
  · rw [Array.getElem?_eq_none (by omega), Array.getElem?_eq_none (by omega)]
/-- '[]T{v}', v of many cells. -/
theorem run_buildSlice1 {P : Program} (w : World) (t e : TypeId) (cells : Array Value) (hu : P.underlying t = some (.slice e)) (hi : (P.info? e).map (fun i => (i.zero.isSome, i.size)) = some (true, cells.size)) (h1 : 0 < cells.size) (h2 : cells.size ≤ 1000000) :
    (Instr.buildSlice t 1 #[(0, .agg cells)]).run P w = .ok (.slice (some ⟨w.heap.size, 0, none⟩) 1 1) (w.alloc (.cells cells e)) := by
  cases hie : P.info? e with
  | none => rw [hie] at hi; cases hi
  | some ie =>
    rw [hie] at hi
    simp only [Option.map_some, Option.some.injEq, Prod.mk.injEq] at hi
    obtain ⟨z, hz⟩ := Option.isSome_iff_exists.1 hi.1
    refine run_buildSlice w t e 1 _ cells ie z hu hie hz (by omega) (by omega) ?_
    exact fill_whole (by simp [hi.2]) (by simp [hi.2])
end Go.Proofs.Ytaofpeajfgcjcaa
