/- A slice of strings that came in. -/
import Derived.Test.YtdjlpmelmhhooaaDoorKit
namespace Go.Proofs.YtdjlpmelmhhooaaDoor
open Go Go.RowKit

/-! ### Rows of strings -/
/-- A slice of strings, read. -/
def IsStrs (w : World) (a : Option Addr) (len : Nat) (ss : List ByteArray) : Prop :=
  (a = none ∧ len = 0 ∧ ss = []) ∨ ∃ x : Addr, a = some x ∧ ss.length = len ∧ (∀ (i : Nat) (s : ByteArray), ss[i]? = some s → w.cell? (x.add i) = some (.string s)) ∧ ∀ s ∈ ss, s.size ≤ maxLen
theorem isStrs_mk {w : World} {x : Addr} {len cap : Nat} {sp : Bool} {ss : List ByteArray} (hl : len ≤ cap) (hz : ss.length = (if sp then cap else len)) (hc : ∀ i, i < ss.length → w.cell? (x.add i) = some (.string (ss.getD i ByteArray.empty))) (hs : ∀ s ∈ ss, s.size ≤ maxLen) :
    ∃ ss', IsStrs w (some x) len ss' := by
  have hge : len ≤ ss.length := by rw [hz]; split <;> omega
  refine ⟨ss.take len, .inr ⟨x, rfl, by simp; omega, fun i s hi => ?_, fun s h => hs s (List.mem_of_mem_take h)⟩⟩
  rw [List.getElem?_take] at hi
  split at hi
  · have hlt := (List.getElem?_eq_some_iff.1 hi).1
    have := hc i hlt
    rw [List.getD_eq_getElem?_getD, hi] at this
    exact this
  · cases hi
theorem IsStrs.len {w : World} {a : Option Addr} {len : Nat} {ss : List ByteArray} (h : IsStrs w a len ss) : ss.length = len := by
  rcases h with ⟨_, rfl, rfl⟩ | ⟨x, _, h, _⟩
  · rfl
  · exact h
theorem IsStrs.at {w : World} {a : Option Addr} {len : Nat} {ss : List ByteArray} (h : IsStrs w a len ss) {i : Nat} {s : ByteArray} (hi : ss[i]? = some s) : ∃ x, a = some x ∧ w.cell? (x.add i) = some (.string s) := by
  rcases h with ⟨_, _, rfl⟩ | ⟨x, hx, _, h, _⟩
  · simp at hi
  · exact ⟨x, hx, h i s hi⟩
theorem IsStrs.below {w w' : World} {a : Option Addr} {len : Nat} {ss : List ByteArray} (h : IsStrs w a len ss) (hB : Below w.heap.size w w') : IsStrs w' a len ss := by
  rcases h with h | ⟨x, hx, hl, hc, hs⟩
  · exact .inl h
  · exact .inr ⟨x, hx, hl, fun i s hi => by
      have h1 := hc i s hi
      exact (hB.cell (World.block_lt_of_cell? w _ h1)).trans h1, hs⟩
end Go.Proofs.YtdjlpmelmhhooaaDoor
