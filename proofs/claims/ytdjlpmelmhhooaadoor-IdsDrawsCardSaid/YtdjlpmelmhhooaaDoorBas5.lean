/- The document's Encode. -/
import Derived.Test.YtdjlpmelmhhooaaDoorBas4
namespace Go.Proofs.YtdjlpmelmhhooaaDoor
open Go Go.RowKit
set_option linter.unusedSimpArgs false

theorem ba_app (a b : ByteArray) : (a ++ b).data.toList = a.data.toList ++ b.data.toList := by simp
theorem ba_eq {a : ByteArray} {l : List UInt8} (h : a.data.toList = l) : a = ⟨l.toArray⟩ := ByteArray.ext (Array.ext' (by simpa using h))
/-- The bits from a place on, noughts behind them. -/
def fromB (k : Nat) (l : List Nat) (i : Nat) : List Nat := l.drop i ++ List.replicate k 0
theorem fromB_get (k : Nat) (l : List Nat) (i j : Nat) (hj : j < k) : (fromB k l i)[j]? = some (l.getD (i + j) 0) := by
  unfold fromB
  rcases Nat.lt_or_ge (i + j) l.length with h | h
  · rw [List.getElem?_append_left (by simp; omega), List.getElem?_drop, List.getD_eq_getElem?_getD, List.getElem?_eq_getElem h]; rfl
  · rw [List.getElem?_append_right (by simp; omega), List.getElem?_replicate, if_pos (by simp; omega), List.getD_eq_getElem?_getD, List.getElem?_eq_none h]; rfl
theorem fromB_take (k : Nat) (l : List Nat) (i j : Nat) (hj : j < k) : (fromB k l i).take (j + 1) = (fromB k l i).take j ++ [l.getD (i + j) 0] := by
  rw [List.take_add_one, fromB_get k l i j hj]; rfl
theorem digits_from {k : Nat} (hk : 0 < k) (l : List Nat) (i : Nat) (hi : i < l.length) : digits k (l.drop i) = valB ((fromB k l i).take k) :: digits k (l.drop (i + k)) := by
  have h0 : l.drop i ≠ [] := fun e => by have := congrArg List.length e; simp at this; omega
  rw [digits, dif_neg (by simp only [not_or]; exact ⟨h0, by omega⟩), List.drop_drop]
  congr 2
  unfold fromB
  rw [List.take_append, List.take_replicate]
  congr 2
  omega
theorem isBits_getD {l : List Nat} (h : IsBits l) (i : Nat) : l.getD i 0 < 2 := by
  rw [List.getD_eq_getElem?_getD]
  cases hx : l[i]? with
  | none => simp
  | some b => exact h b (List.mem_of_getElem? hx)
theorem fromB_is {k : Nat} {l : List Nat} (h : IsBits l) (i : Nat) : IsBits (fromB k l i) := isBits_append.2 ⟨isBits_drop h i, isBits_zeros k⟩

end Go.Proofs.YtdjlpmelmhhooaaDoor
