/- Ids: a piece of an id, sliced and turned into a text. -/
import Derived.Test.YtdjlpmelmhhooaaDoorIdA
import Derived.Deep.MidRow
namespace Go.Proofs.YtdjlpmelmhhooaaDoor
open Go Go.RowKit
set_option linter.unusedSimpArgs false

theorem slice_id (B p q : Nat) (h0 : p < 16) (h1 : p ≤ q) (h2 : q ≤ 16) (W : World) : (Instr.sliceAt 23 (.pointer (some ⟨B, 0, none⟩)) (some (.int .i64 (p : Nat))) (some (.int .i64 (q : Nat))) none).run Tryd.prog W = .ok (.slice (some ⟨B, p, none⟩) (q - p) (16 - p)) W := by
  have hal : Tryd.prog.arrayLen 23 = 16 := by simp [Program.arrayLen, Tryd.underlying23]
  rw [run_sliceAt_array_lh W 23 ⟨B, 0, none⟩ (by simp [Program.arrayLen, Program.elem, Tryd.underlying23]) .i64 .i64 (p : Int) (q : Int) (by omega) (by omega) (by rw [hal]; omega)]
  have e : ∀ j, (⟨B, 0, none⟩ : Addr).add j = ⟨B, j, none⟩ := fun j => by rw [Addr.add_mid, Nat.zero_add]
  simp [slicedAt, hal, Program.elem, Tryd.underlying23, go_sem, Result.andThen, e]
  omega
theorem conv_piece {B p q t c : Nat} {l : List UInt8} {W : World} (hl : l.length = 16) (h1 : p ≤ q) (h2 : q ≤ 16) (r : RowAt W B t (idA l)) :
    (convert 44 9 (.slice (some ⟨B, p, none⟩) (q - p) c)).run Tryd.prog W = .ok (.string ⟨((l.drop p).take (q - p)).toArray⟩) W := by
  have := run_convert_bytes_arg (P := Tryd.prog) W 44 5 Tryd.underlying44 Tryd.underlying5 B p (q - p) c (((l.drop p).take (q - p)).map fun b => ((b.toNat : Nat) : Int)) (by simp; omega) (fun i hi => by
    have hx : p + i < l.length := by omega
    refine (r.cell (rowA_get 16 (idV l) (p + i) (by omega))).trans ?_
    simp [idV, List.getD_eq_getElem?_getD, List.getElem?_take, List.getElem?_drop, hi, hx]) 9 Tryd.underlying9
  rw [this]
  unfold strOfNums
  rw [List.map_map]
  have e : ∀ L : List UInt8, L.map ((fun n : Int => UInt8.ofNat n.toNat) ∘ fun b : UInt8 => ((b.toNat : Nat) : Int)) = L := fun L => by
    conv => rhs; rw [← List.map_id L]
    exact List.map_congr_left fun b _ => by simp
  rw [e]
end Go.Proofs.YtdjlpmelmhhooaaDoor
