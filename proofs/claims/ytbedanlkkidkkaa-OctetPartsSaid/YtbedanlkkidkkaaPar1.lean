/- The walks of Cut, of the document's Parts, of slices.Equal over strings. -/
import Derived.Test.YtbedanlkkidkkaaOct2
import Derived.Test.YtbedanlkkidkkaaPar0
import Derived.Test.YtbedanlkkidkkaaSub
import Derived.Maps.AppendAt
import Derived.OwnWalk
import Derived.Lib.SmallJoins
namespace Go.Proofs.Ytbedanlkkidkkaa
open Go Go.RowKit
set_option linter.unusedSimpArgs false

theorem take4 (s : ByteArray) : getN (s.extract 0 4).data.toList = sizeOfS s := by rw [Lib.extract_data]; rfl
theorem get_head (s : ByteArray) (h : 4 ≤ s.size) (w : World) :
    Calls Try.prog 18 #[.string (s.extract 0 4)] w fun e w' => e = .returned (.tuple #[.int .u64 (sizeOfS s : Nat), .int .i64 0]) ∧ w = w' := by
  have := get_any (s.extract 0 4) w (by rw [ByteArray.size_extract]; omega) (by rw [ByteArray.size_extract]; omega)
  rwa [take4] at this
theorem rget_head (s : ByteArray) (h : 4 ≤ s.size) (w : World) :
    Calls Try.prog 19 #[.string (s.extract 0 4)] w fun e w' => e = .returned (.int .u64 (sizeOfS s : Nat)) ∧ w = w' := by
  have := rget_any (s.extract 0 4) w (by rw [ByteArray.size_extract]; omega)
  rwa [take4] at this

set_option maxRecDepth 100000 in
theorem cut_none (s : ByteArray) (hs : s.size ≤ 140737488351232) (h : cutS s = none) (w : World) :
    Calls Try.prog 15 #[.string s] w fun e w' => e = .returned (.tuple #[.string ⟨#[]⟩, .string ⟨#[]⟩, .int .i64 3]) ∧ Below w.heap.size w w' := by
  by_cases h4 : s.size < 4
  · have hd : decide ((s.size : Int) < 4) = true := by rw [decide_eq_true_iff]; omega
    go_enter Try.func15, Try.ntmps15
    go_wp2
    go_ret3
    exact ⟨rfl, Below.refl _ _⟩
  · have hover : s.size - 4 < sizeOfS s := by
      rcases Nat.lt_or_ge (s.size - 4) (sizeOfS s) with h' | h'
      · exact h'
      · rw [cutS_yes h4 (by omega)] at h; cases h
    have L := fun w => get_head s (by omega) w
    have hn := sizeOfS_lt s
    obtain ⟨n, hn0⟩ : ∃ n, n = sizeOfS s := ⟨_, rfl⟩
    rw [← hn0] at hover L hn
    have hd : decide ((s.size : Int) < 4) = false := by rw [decide_eq_false_iff_not]; omega
    have hd1 : (4 : Int) ≤ (s.size : Int) := by omega
    have hu : IntKind.u64.wrap (((s.size : Nat) : Int) - 4) = (s.size : Int) - 4 := by rw [IntKind.wrap_u64]; omega
    have hg : decide ((s.size : Int) - 4 < (n : Int)) = true := by rw [decide_eq_true_iff]; omega
    replace L := hid L
    clear h hn0
    go_enter Try.func15, Try.ntmps15
    go_wp2_with (go_at_call 18; refine (L.out _).mono ?_; rintro e w1 ⟨rfl, rfl⟩)
    go_ret3
    exact ⟨rfl, Below.refl _ _⟩

set_option maxRecDepth 100000 in
theorem cut_some (s p r : ByteArray) (hs : s.size ≤ 140737488351232) (h : cutS s = some (p, r)) (w : World) :
    Calls Try.prog 15 #[.string s] w fun e w' => e = .returned (.tuple #[.string p, .string r, .int .i64 0]) ∧ Below w.heap.size w w' := by
  obtain ⟨h4, hnn, rfl, rfl, hp1, hp2⟩ := cutS_size h
  have L := fun w => get_head s (by omega) w
  have hn := sizeOfS_lt s
  obtain ⟨e1, e2⟩ := cut_twice s (sizeOfS s) hnn
  obtain ⟨n, hn0⟩ : ∃ n, n = sizeOfS s := ⟨_, rfl⟩
  rw [← hn0] at hnn L hn e1 e2 ⊢
  have hd : decide ((s.size : Int) < 4) = false := by rw [decide_eq_false_iff_not]; omega
  have hd1 : (4 : Int) ≤ (s.size : Int) := by omega
  have hg : decide (((s.size - 4 : Nat) : Int) < (n : Int)) = false := by rw [decide_eq_false_iff_not]; omega
  have hn2 : (n : Int) ≤ ((s.size - 4 : Nat) : Int) := by omega
  have hn3 : n ≤ s.size - 4 := by omega
  have hsz : (s.extract 4 s.size).size = s.size - 4 := by rw [ByteArray.size_extract]; omega
  have hu : IntKind.u64.wrap (((s.size - 4 : Nat)) : Int) = ((s.size - 4 : Nat) : Int) := by rw [IntKind.wrap_u64]; omega
  replace L := hid L
  replace e1 := hid e1
  replace e2 := hid e2
  clear h hn0 hp1 hp2
  go_enter Try.func15, Try.ntmps15
  go_wp2_with (go_at_call 18; refine (L.out _).mono ?_; rintro e w1 ⟨rfl, rfl⟩)
  obtain ⟨S, hS⟩ : ∃ S, S = s.extract 4 s.size := ⟨_, rfl⟩
  rw [← hS] at e1 e2 hsz ⊢
  clear hS
  refine wp_region_sub (by kernel_rfl) (by kernel_rfl) ?_
  repeat (go_big_quiet_step (fail))
  refine wpQuiet_nil ?_
  intro q
  go_wp2
  go_ret3
  rw [← e1.out, ← e2.out]
  exact ⟨rfl, q.h⟩

/-! ### Rows of strings -/
/-- A slice of strings, read. -/
def IsStrs (w : World) (a : Option Addr) (len : Nat) (ss : List ByteArray) : Prop :=
  (a = none ∧ len = 0 ∧ ss = []) ∨ ∃ x : Addr, a = some x ∧ ss.length = len ∧ (∀ (i : Nat) (s : ByteArray), ss[i]? = some s → w.cell? (x.add i) = some (.string s)) ∧ ∀ s ∈ ss, s.size ≤ maxLen
theorem isStrs_mk {w : World} {x : Addr} {len cap : Nat} {sp : Bool} {ss : List ByteArray} (hl : len ≤ cap) (hz : ss.length = (if sp then cap else len)) (hc : ∀ i, i < ss.length → w.cell? (x.add i) = some (.string (ss.getD i ByteArray.empty))) (hs : ∀ s ∈ ss, s.size ≤ maxLen) :
    ∃ ss', IsStrs w (some x) len ss' := by
  have hge : len ≤ ss.length := by rw [hz]; split <;> omega
  refine ⟨ss.take len, .inr ⟨x, rfl, by simp; omega, fun i s hi => ?_, fun s h => hs s (List.mem_of_mem_take h)⟩⟩
  rw [List.getElem?_take] at hi
  split at hi
  · have hlt := (List.getElem?_eq_some_iff.1 hi).1
    have := hc i hlt
    rw [List.getD_eq_getElem?_getD, hi] at this
    exact this
  · cases hi
theorem IsStrs.len {w : World} {a : Option Addr} {len : Nat} {ss : List ByteArray} (h : IsStrs w a len ss) : ss.length = len := by
  rcases h with ⟨_, rfl, rfl⟩ | ⟨x, _, h, _⟩
  · rfl
  · exact h
theorem IsStrs.at {w : World} {a : Option Addr} {len : Nat} {ss : List ByteArray} (h : IsStrs w a len ss) {i : Nat} {s : ByteArray} (hi : ss[i]? = some s) : ∃ x, a = some x ∧ w.cell? (x.add i) = some (.string s) := by
  rcases h with ⟨_, _, rfl⟩ | ⟨x, hx, _, h, _⟩
  · simp at hi
  · exact ⟨x, hx, h i s hi⟩
theorem IsStrs.below {w w' : World} {a : Option Addr} {len : Nat} {ss : List ByteArray} (h : IsStrs w a len ss) (hB : Below w.heap.size w w') : IsStrs w' a len ss := by
  rcases h with h | ⟨x, hx, hl, hc, hs⟩
  · exact .inl h
  · exact .inr ⟨x, hx, hl, fun i s hi => by
      have h1 := hc i s hi
      exact (hB.cell (World.block_lt_of_cell? w _ h1)).trans h1, hs⟩

set_option maxRecDepth 100000 in
theorem equal_same (a1 a2 : Option Addr) (len c1 c2 : Nat) (ss : List ByteArray) (w : World) (h1 : IsStrs w a1 len ss) (h2 : IsStrs w a2 len ss) (hl : len ≤ 1000000) :
    Calls Try.prog 16 #[.slice a1 len c1, .slice a2 len c2] w fun e w' => e = .returned (.bool true) ∧ Below w.heap.size w w' := by
  have hlen := h1.len
  replace h1 := hid h1
  replace h2 := hid h2
  go_enter Try.func16, Try.ntmps16
  go_wp2
  go_loopw [13] (fun v wr => ∃ i : Nat, i ≤ len ∧ v = .int .i64 i ∧ Hid (Below w.heap.size w wr)) (fun v _ => len - (intOf v).toNat)
  case atStart => exact ⟨0, Nat.zero_le _, rfl, hid (Below.refl _ _)⟩
  case round =>
    obtain ⟨i, hi, rfl, HB⟩ := hrel
    by_cases hlt : i < len
    · obtain ⟨s, hs⟩ : ∃ s, ss[i]? = some s := ⟨_, List.getElem?_eq_getElem (by omega)⟩
      obtain ⟨x, rfl, hx⟩ := (h1.out.below HB.out).at hs
      obtain ⟨y, rfl, hy⟩ := (h2.out.below HB.out).at hs
      have hx2 : ∀ q : Sub wr, q.x.cell? (x.add i) = some (.string s) := fun q => (q.h.cell (World.block_lt_of_cell? wr _ hx)).trans hx
      have hy2 : ∀ q : Sub wr, q.x.cell? (y.add i) = some (.string s) := fun q => (q.h.cell (World.block_lt_of_cell? wr _ hy)).trans hy
      replace hx := hid hx
      replace hy := hid hy
      have hd : decide ((i : Int) < (len : Int)) = true := by rw [decide_eq_true_iff]; omega
      clear hs
      go_wp2
      refine wp_region_sub (by kernel_rfl) (by kernel_rfl) ?_
      repeat (go_big_quiet_step (fail))
      refine wpQuiet_nil ?_
      intro q
      go_wp2
      go_roundw
      case rel => exact ⟨i + 1, by omega, by go_num, hid (below_cat q.h HB.out)⟩
      case measure => simp [intOf]; omega
    · obtain rfl : i = len := by omega
      go_wp2
      go_ret
      exact ⟨rfl, HB.out⟩
end Go.Proofs.Ytbedanlkkidkkaa
