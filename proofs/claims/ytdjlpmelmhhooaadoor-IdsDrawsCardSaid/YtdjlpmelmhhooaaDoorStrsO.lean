/- A row of strings of the call's own, that grows. -/
import Derived.Test.YtdjlpmelmhhooaaDoorLibA
import Derived.Test.YtdjlpmelmhhooaaDoorStrsIn
import Derived.Test.YtdjlpmelmhhooaaDoorProg
import Derived.Maps.AppendAt
import Derived.Maps.OwnIn
import Derived.OneCell
namespace Go.Proofs.YtdjlpmelmhhooaaDoor
open Go Go.RowKit
set_option linter.unusedSimpArgs false

theorem info_str : (Tryd.prog.info? 9).map (fun i => (i.zero, i.size, i.bytes)) = some (some (.string ⟨#[]⟩), 1, 16) := by kernel_rfl
/-- A row of strings of the function's own. -/
def Strs (w : World) (base : Nat) (v : Value) (ss : List ByteArray) : Prop := w.ownsRow base 9 1 v ss.length (ss.map Value.string)
theorem Strs.read {w : World} {base : Nat} {v : Value} {ss : List ByteArray} (h : Strs w base v ss) {n : Nat} (hn : ss.length = n) (hz : ∀ s ∈ ss, s.size ≤ maxLen) : ∃ a c, v = .slice a n c ∧ IsStrs w a n ss := by
  subst hn
  rcases h.2 with ⟨hv, h0⟩ | ⟨g, cap, cur, hv, r⟩
  · exact ⟨none, 0, by rw [hv, h0], .inl ⟨rfl, h0, List.eq_nil_of_length_eq_zero h0⟩⟩
  · refine ⟨some ⟨g, 0, none⟩, cap, hv, .inr ⟨_, rfl, rfl, fun i s hi => ?_, hz⟩⟩
    exact World.ownsRow.cells h (g := g) (by rw [hv]; rfl) i (.string s) (by rw [List.getElem?_map, hi]; rfl)
theorem Strs.kept {T : Nat → Prop} {base : Nat} {v : Value} {ns : List ByteArray} {W W' : World} (h : Strs W base v ns) (hk : Kept T W W') (hT : ∀ g, v.ownBlock = some g → ¬ T g) : Strs W' base v ns := by
  refine ⟨h.1, h.2.imp id ?_⟩
  rintro ⟨g, cap, cur, hv, hb, hg, r⟩
  have hlt : g < W.heap.size := (Array.getElem?_eq_some_iff.1 hg).1
  exact ⟨g, cap, cur, hv, hb, (hk.block g hlt (hT g (by rw [hv]; rfl))).trans hg, r⟩
theorem Strs.shape {w : World} {base : Nat} {v : Value} {ss : List ByteArray} (h : Strs w base v ss) : ∃ a c, v = .slice a ss.length c := by
  rcases h.2 with ⟨hv, h0⟩ | ⟨g, cap, cur, hv, _⟩
  · exact ⟨none, 0, by rw [hv, h0]⟩
  · exact ⟨_, cap, hv⟩
theorem Strs.lt {w : World} {base : Nat} {v : Value} {ss : List ByteArray} (h : Strs w base v ss) : ∀ g, v.ownBlock = some g → base ≤ g ∧ g < w.heap.size := fun g hg => World.ownsRow.lt h g hg

theorem own_shape {w : World} {base n : Nat} {e : TypeId} {v : Value} {xs : List Value} (h : w.ownsRow base e 1 v n xs) : ∃ a c, v = .slice a n c := by
  rcases h.2 with ⟨hv, h0⟩ | ⟨g, cap, cur, hv, _⟩
  · exact ⟨none, 0, by rw [hv, h0]⟩
  · exact ⟨_, cap, hv⟩
theorem grown_row {w w' : World} {row : Option Nat} {b : Nat} {t : TypeId} {A : Array Value} (h : RowAt w b t A) (hg : w.grownBy w' row) (hne : some b ≠ row) : RowAt w' b t A := (hg.block b h.lt hne).trans h

theorem Kept.after {S T : Nat → Prop} {A B C : World} (h : Kept S A B) (k : Kept T B C) (hT : ∀ i, i < A.heap.size → T i → S i) : Kept S A C :=
  ⟨k.os.trans h.os, k.tape.trans h.tape, k.output.trans h.output, Nat.le_trans h.size k.size, fun i hi hs => (k.block i (Nat.lt_of_lt_of_le hi h.size) (fun ht => hs (hT i hi ht))).trans (h.block i hi hs)⟩

/-- A box that holds a row of strings which grows. -/
structure Grows (c base : Nat) (ss : List ByteArray) (w W : World) : Prop where
  bel : Below w.heap.size w W
  hold : ∃ v, RowAt W c 36 #[v] ∧ Strs W base v ss
theorem Grows.kept {c base : Nat} {ss : List ByteArray} {w W W' : World} {T : Nat → Prop} (h : Grows c base ss w W) (hk : Kept T W W') (hc : ¬ T c) (hT : ∀ k, T k → w.heap.size ≤ k) (hB : ∀ k, T k → k < base) : Grows c base ss w W' := by
  obtain ⟨v, h1, h2⟩ := h.hold
  exact ⟨below_kept h.bel hk (Nat.le_refl _) hT, v, hk.row h1 hc, h2.kept hk (fun g hg x => by have := (h2.lt g hg).1; have := hB g x; omega)⟩
end Go.Proofs.YtdjlpmelmhhooaaDoor
