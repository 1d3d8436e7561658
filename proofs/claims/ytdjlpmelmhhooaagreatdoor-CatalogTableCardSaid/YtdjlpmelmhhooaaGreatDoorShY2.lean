/- Sums: the document's. -/
import Derived.Test.YtdjlpmelmhhooaaGreatDoorSha7
import Derived.Test.YtdjlpmelmhhooaaGreatDoorLibA
import Derived.Test.YtdjlpmelmhhooaaGreatDoorShX4
import Derived.Test.YtdjlpmelmhhooaaGreatDoorShY1
namespace Go.Proofs.YtdjlpmelmhhooaaGreatDoor
section
section
open Go Go.RowKit
set_option linter.unusedSimpArgs false

end
section
open Go Go.RowKit
set_option linter.unusedSimpArgs false

/-- A byte of a text, by its place. -/
theorem run_index_byte {P : Program} (t : TypeId) (s : ByteArray) (k : IntKind) (i c : Nat) (h : P.underlying t = some .string) (hi : i < s.size) (hc : c = s[i].toNat) (w : World) :
    (Instr.index t (.string s) (.int k (i : Int))).run P w = .ok (.int .u8 (c : Int)) w := by
  subst hc
  have h2 : s[i]? = some s[i] := by simp [hi]
  simp [Instr.index, asIntOf, run_underlying h, h2]
/-- The words so far, and a part of the next one. -/
def partA (W : List Nat) (i x : Nat) : Array Value := (rowA 64 (wordsF W i)).setIfInBounds i (.int .u32 ((x : Nat) : Int))
theorem partA_zero (W : List Nat) (i : Nat) : partA W i 0 = rowA 64 (wordsF W i) := by
  unfold partA
  rw [rowA_set]
  refine rowA_ext fun j hj => ?_
  by_cases e : j = i
  · rw [if_pos e]; subst e; simp [wordsF]
  · rw [if_neg e]
theorem partA_set (W : List Nat) (i x y : Nat) : (partA W i x).setIfInBounds i (.int .u32 ((y : Nat) : Int)) = partA W i y := by
  unfold partA; simp
theorem partA_get (W : List Nat) (i x : Nat) (h : i < 64) : (partA W i x)[i]? = some (.int .u32 ((x : Nat) : Int)) := by
  unfold partA; rw [Array.getElem?_setIfInBounds_self_of_lt (by rw [rowA_size]; exact h)]
theorem partA_full (W : List Nat) (i : Nat) (h : i < 64) : partA W i (W.getD i 0) = rowA 64 (wordsF W (i + 1)) := wordsF_set W 64 i h
/-- A word's first bytes. -/
def partN (b : List UInt8) (i j : Nat) : Nat := getN ((b.drop (4 * i)).take j)
theorem partN_succ (b : List UInt8) (i j : Nat) (h : 4 * i + j < b.length) : partN b i (j + 1) = partN b i j * 256 + b[4 * i + j].toNat := by
  unfold partN
  have e : (b.drop (4 * i))[j]? = some b[4 * i + j] := by rw [List.getElem?_drop, List.getElem?_eq_getElem h]
  rw [List.take_add_one, e]
  exact getN_snoc _ _
theorem partN_lt (b : List UInt8) (i j : Nat) (h : j < 4) : partN b i j < 16777216 := by
  unfold partN
  have h1 := getN_lt ((b.drop (4 * i)).take j)
  have h2 : ((b.drop (4 * i)).take j).length ≤ 3 := by simp; omega
  have h3 := Nat.pow_le_pow_right (n := 256) (by decide) h2
  have h4 : (256 : Nat) ^ 3 = 16777216 := by decide
  omega
theorem blk_get (p : ByteArray) (n j : Nat) (hj : j < 64) (hp : 64 * n + 64 ≤ p.size) : (blk p n).data.toList[j]'(by have := blk_size p n hp; simpa [this] using hj) = p[64 * n + j] := by
  have e : (blk p n).data.toList = (p.data.toList.drop (64 * n)).take 64 := by
    unfold blk; rw [Lib.extract_data]; congr 1; omega
  simp only [e, List.getElem_take, List.getElem_drop]
  rfl
end
section
open Go Go.RowKit
set_option linter.unusedSimpArgs false

/-- A sum's first k bytes. -/
def outB (t : St) (k j : Nat) : Value := .int .u8 (((if j < k then shaByte t j else 0 : UInt8).toNat : Nat) : Int)
theorem outB_zero (t : St) : rowA 32 (outB t 0) = rowA 32 (outV t 0) := rowA_ext fun j hj => by simp [outB, outV]
theorem outB_all (t : St) : rowA 32 (outB t 32) = rowA 32 fun j => .int .u8 ((shaByte t j).toNat : Int) := rowA_ext fun j hj => by unfold outB; rw [if_pos hj]
theorem outB_set (t : St) (k : Nat) : (rowA 32 (outB t k)).setIfInBounds k (.int .u8 ((shaByte t k).toNat : Int)) = rowA 32 (outB t (k + 1)) := by
  rw [rowA_set]
  refine rowA_ext fun j hj => ?_
  unfold outB
  by_cases e : j = k
  · subst e; rw [if_pos rfl, if_pos (by omega)]
  · rw [if_neg e]
    by_cases e2 : j < k
    · rw [if_pos e2, if_pos (by omega)]
    · rw [if_neg e2, if_neg (by omega)]
theorem shaByte_shift (t : St) (k : Nat) : ((t.nth (k / 4) : Nat) : Int) / 2 ^ (24 - 8 * (k % 4)) % 256 = ((shaByte t k).toNat : Int) := by
  unfold shaByte
  rw [byteAt_toNat, ← pow256, show 8 * (3 - k % 4) = 24 - 8 * (k % 4) by omega]
  simp
end
end
section
open Go Go.RowKit
set_option linter.unusedSimpArgs false

end
section
open Go Go.RowKit
set_option linter.unusedSimpArgs false

theorem info_u8' : (Tryz.prog.info? 5).map (fun i => (i.zero, i.size, i.bytes)) = some (some (.int .u8 0), 1, 1) := by kernel_rfl
/-- A text, its mark, and noughts. -/
def padB (s : ByteArray) (k : Nat) : List UInt8 := s.data.toList ++ 128 :: List.replicate k 0
theorem padB_len (s : ByteArray) (k : Nat) : (padB s k).length = s.size + 1 + k := by simp [padB]; omega
theorem padB_succ (s : ByteArray) (k : Nat) : padB s k ++ [0] = padB s (k + 1) := by
  unfold padB; rw [List.replicate_succ', List.append_assoc, List.cons_append]
theorem repeatL_rep (k : Nat) : Lib.repeatL [(0 : UInt8)] k = List.replicate k 0 := by
  induction k with
  | zero => rfl
  | succ k ih => rw [Lib.repeatL, ih]; rfl
theorem padB_padS (s : ByteArray) : (⟨(padB s (padK s.size) ++ beL (s.size * 8) 8).toArray⟩ : ByteArray) = padS s := by
  refine ByteArray.ext (Array.ext' ?_)
  unfold padS
  simp only [ByteArray.data_append, Array.toList_append, repeatL_rep, beS, padB]
  simp
theorem beL_take (n i : Nat) (h : i < 8) : (beL n 8).take (i + 1) = (beL n 8).take i ++ [byteAt n (7 - i)] := by
  rw [List.take_add_one]
  congr 1
  simp [beL, h]
end
section
section
open Go Go.RowKit
set_option linter.unusedSimpArgs false

theorem initS_cells : initS.cells = #[.int .u32 1779033703, .int .u32 3144134277, .int .u32 1013904242, .int .u32 2773480762, .int .u32 1359893119, .int .u32 2600822924, .int .u32 528734635, .int .u32 1541459225] := by kernel_rfl
end
section
open Go Go.RowKit
set_option linter.unusedSimpArgs false

theorem make32' (w : World) : (Instr.makeSlice 83 (.int .i64 32) (.int .i64 32)).run Tryz.prog w = .ok (.slice (some ⟨w.heap.size, 0, none⟩) 32 32) (w.alloc (.cells (rowA 32 fun _ => .int .u8 0) 5)) := by kernel_rfl
theorem make32 (t : St) (w : World) : (Instr.makeSlice 83 (.int .i64 32) (.int .i64 32)).run Tryz.prog w = .ok (.slice (some ⟨w.heap.size, 0, none⟩) 32 32) (w.alloc (.cells (rowA 32 (outB t 0)) 5)) :=
  (make32' w).trans (by rw [outB_zero, outV_zero])
theorem sumA_outB (s : ByteArray) : sumA s = rowA 32 (outB (lastS s) 32) := by rw [outB_all]; rfl
theorem outB_none (s t : St) : rowA 32 (outB s 0) = rowA 32 (outB t 0) := by rw [outB_zero, outB_zero, outV_zero, outV_zero]
end
end
end Go.Proofs.YtdjlpmelmhhooaaGreatDoor
