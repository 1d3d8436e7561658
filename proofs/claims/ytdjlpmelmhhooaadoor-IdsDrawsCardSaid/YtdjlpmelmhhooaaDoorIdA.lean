/- Ids, rows of 16 bytes by value: plain words; Raw. -/
import Derived.Test.YtdjlpmelmhhooaaDoorHmA
namespace Go.Proofs.YtdjlpmelmhhooaaDoor
open Go Go.RowKit
set_option linter.unusedSimpArgs false
set_option linter.unusedVariables false

/-- The i-th byte of an id, as a cell. -/
def idV (l : List UInt8) (i : Nat) : Value := .int .u8 ((l.getD i 0).toNat : Int)
def idA (l : List UInt8) : Array Value := rowA 16 (idV l)
def idS (l : List UInt8) : ByteArray := ⟨l.toArray⟩
theorem idS_size (l : List UInt8) : (idS l).size = l.length := by show l.toArray.size = _; simp
theorem idA_size (l : List UInt8) : (idA l).size = 16 := rowA_size _ _
theorem idA_one (l : List UInt8) : (idA l).all (·.oneCell') = true := by
  rw [Array.all_eq_true]
  intro i hi
  simp [idA, rowA, idV, Value.oneCell']
theorem info16 : (Tryd.prog.info? 23).map (·.size) = some 16 := by kernel_rfl
theorem range_getD (l : List UInt8) (n : Nat) (h : l.length = n) : (List.range n).map (fun j => l.getD j 0) = l := by
  apply List.ext_getElem (by simp [h])
  intro i h1 h2
  simp [List.getD_eq_getElem?_getD, h2]
theorem conv_id {w : World} {b c : Nat} {t : TypeId} {l : List UInt8} (hl : l.length = 16) (r : RowAt w b t (idA l)) : (convert 44 9 (.slice (some ⟨b, 0, none⟩) 16 c)).run Tryd.prog w = .ok (.string (idS l)) w := by
  have := conv_row (P := Tryd.prog) 44 9 5 Tryd.underlying44 Tryd.underlying5 Tryd.underlying9 (n := 16) c (g := fun j => l.getD j 0) r
  rw [this, range_getD l 16 hl]; rfl
/-- A row of texts as a slice of them. -/
theorem strsAt_row {W : World} {b : Nat} {t : TypeId} (xs : List ByteArray) (r : RowAt W b t (xs.map Value.string).toArray) : StrsAt W (some ⟨b, 0, none⟩) xs.length xs.length xs :=
  .inr ⟨b, 0, rfl, rfl, Nat.le_refl _, r.lt, fun j x hj => by
    rw [Nat.zero_add]
    refine r.cell ?_
    rw [List.getElem?_toArray, List.getElem?_map, hj]; rfl⟩
theorem RowAt.newS (w : World) (A B : Array Value) (t u : TypeId) : RowAt ((w.alloc (.cells A t)).alloc (.cells B u)) (w.heap.size + 1) u B := by
  have := RowAt.new (w.alloc (.cells A t)) B u
  rwa [World.size_alloc] at this
/-- Bytes copied one by one. -/
def copV (l : List UInt8) (k i : Nat) : Value := .int .u8 ((if i < k then (l.getD i 0).toNat else 0 : Nat) : Int)
theorem copV_zero (l : List UInt8) : rowA 16 (copV l 0) = rowA 16 fun _ => .int .u8 0 := rowA_ext fun _ _ => by simp [copV]
theorem copV_all (l : List UInt8) : rowA 16 (copV l 16) = idA l := rowA_ext fun i h => by simp [copV, idV, h]
theorem copV_set (l : List UInt8) (k : Nat) : (rowA 16 (copV l k)).setIfInBounds k (idV l k) = rowA 16 (copV l (k + 1)) := by
  rw [rowA_set]
  refine rowA_ext fun i hi => ?_
  by_cases h : i = k
  · subst h; simp [copV, idV]
  · have e : (i < k + 1) ↔ i < k := by omega
    simp [copV, h, e]
theorem make16b (w : World) : (Instr.makeSlice 44 (.int .i64 16) (.int .i64 16)).run Tryd.prog w = .ok (.slice (some ⟨w.heap.size, 0, none⟩) 16 16) (w.alloc (.cells (rowA 16 fun _ => .int .u8 0) 5)) := by kernel_rfl

end Go.Proofs.YtdjlpmelmhhooaaDoor
