/- The document's whole text (Pad), its constants (K): the walks. -/
import Derived.Test.YtdjlpmelmhhooaaGreatDoorShX4
import Derived.Test.YtdjlpmelmhhooaaGreatDoorShX2
import Derived.Test.YtdjlpmelmhhooaaGreatDoorLibA
namespace Go.Proofs.YtdjlpmelmhhooaaGreatDoor
open Go Go.RowKit
set_option linter.unusedSimpArgs false

theorem info_u8' : (Tryz.prog.info? 5).map (fun i => (i.zero, i.size, i.bytes)) = some (some (.int .u8 0), 1, 1) := by kernel_rfl
/-- A text, its mark, and noughts. -/
def padB (s : ByteArray) (k : Nat) : List UInt8 := s.data.toList ++ 128 :: List.replicate k 0
theorem padB_len (s : ByteArray) (k : Nat) : (padB s k).length = s.size + 1 + k := by simp [padB]; omega
theorem padB_succ (s : ByteArray) (k : Nat) : padB s k ++ [0] = padB s (k + 1) := by
  unfold padB; rw [List.replicate_succ', List.append_assoc, List.cons_append]
theorem repeatL_rep (k : Nat) : Lib.repeatL [(0 : UInt8)] k = List.replicate k 0 := by
  induction k with
  | zero => rfl
  | succ k ih => rw [Lib.repeatL, ih]; rfl
theorem padB_padS (s : ByteArray) : (⟨(padB s (padK s.size) ++ beL (s.size * 8) 8).toArray⟩ : ByteArray) = padS s := by
  refine ByteArray.ext (Array.ext' ?_)
  unfold padS
  simp only [ByteArray.data_append, Array.toList_append, repeatL_rep, beS, padB]
  simp
theorem beL_take (n i : Nat) (h : i < 8) : (beL n 8).take (i + 1) = (beL n 8).take i ++ [byteAt n (7 - i)] := by
  rw [List.take_add_one]
  congr 1
  simp [beL, h]
end Go.Proofs.YtdjlpmelmhhooaaGreatDoor
