/- Decode. -/
import Derived.Test.YtbedanlkkidkkadBas6
import Derived.Lib.IndexLaws
import Derived.Maps.AppendAt
import Derived.OwnWalk
namespace Go.Proofs.Ytbedanlkkidkkad
open Go Go.RowKit
set_option linter.unusedSimpArgs false

theorem toList_beq {s t : ByteArray} : (s.toList == t.toList) = decide (s = t) := by
  rw [ByteArray.toList_eq, ByteArray.toList_eq, Bool.eq_iff_iff, beq_iff_eq, decide_eq_true_iff]
  constructor
  · intro h; exact ByteArray.ext (Array.ext' h)
  · rintro rfl; rfl
theorem idx_lt {l : List UInt8} {c : UInt8} {d : Nat} (h : Lib.indexByte l c = (d : Int)) : d < l.length := (List.getElem?_eq_some_iff.1 (Lib.indexByte_some h).1).1
/-- A row of bytes of the call's own. -/
def Bytes (w : World) (base : Nat) (v : Value) (l : List UInt8) : Prop := w.ownsRow base 5 1 v l.length (Lib.byteCells l)
theorem Bytes.shape {w : World} {base : Nat} {v : Value} {l : List UInt8} (h : Bytes w base v l) : ∃ q c, v = .slice q l.length c := by
  rcases h.2 with ⟨hv, h0⟩ | ⟨g, cap, cur, hv, _⟩
  · exact ⟨none, 0, by rw [hv, h0]⟩
  · exact ⟨_, cap, hv⟩
theorem Bytes.below {w w' : World} {base : Nat} {v : Value} {l : List UInt8} (h : Bytes w base v l) (hk : Below w.heap.size w w') : Bytes w' base v l :=
  World.ownsRow.kept (row := none) h ⟨hk.os, hk.tape, hk.output, hk.size, fun k hk' _ => hk.block k hk'⟩ (by cases hv : v.ownBlock <;> simp)
theorem Bytes.string {w : World} {base : Nat} {q : Option Addr} {n c : Nat} {l : List UInt8} (h : Bytes w base (.slice q n c) l) (hn : l.length = n) :
    (convert 38 9 (.slice q n c)).run Try.prog w = .ok (.string ⟨l.toArray⟩) w := by
  subst hn
  rcases h.2 with ⟨hv, h0⟩ | ⟨g, cap, cur, hv, _⟩
  · have hl : l = [] := List.eq_nil_of_length_eq_zero h0
    subst hl
    cases hv
    exact run_convert_bytes_nil w 38 5 Try.underlying38 Try.underlying5 _ _ 9 Try.underlying9
  · injection hv with h1 h2 h3
    subst h1; subst h3
    have := run_convert_bytes_arg (P := Try.prog) w 38 5 Try.underlying38 Try.underlying5 g 0 l.length c (l.map fun b => ((b.toNat : Nat) : Int)) (by simp) (fun i hi => by
      have hc := World.ownsRow.cells h (g := g) rfl i (.int .u8 (l[i].toNat : Nat)) (by simp [Lib.byteCells, hi])
      rw [show ((⟨g, 0, none⟩ : Addr).add i) = ⟨g, 0 + i, none⟩ by unfold Addr.add; split <;> simp_all] at hc
      rw [hc]; simp [hi]) 9 Try.underlying9
    rw [this]
    unfold strOfNums
    rw [List.map_map]
    have e : l.map ((fun n : Int => UInt8.ofNat n.toNat) ∘ fun b : UInt8 => ((b.toNat : Nat) : Int)) = l := by
      conv => rhs; rw [← List.map_id l]
      exact List.map_congr_left fun b _ => by simp
    rw [e]

theorem below_grown {B : Nat} {a w w' : World} {row : Option Nat} (h : Below B a w) (hg : w.grownBy w' row) (hr : ∀ k, row = some k → B ≤ k) (hB : B ≤ a.heap.size) : Below B a w' :=
  h.trans ⟨hg.os, hg.tape, hg.output, hg.size, fun k hk => hg.block k (by have := h.size; omega) (fun e => by have := hr k e.symm; omega)⟩
theorem grown_row {w w' : World} {row : Option Nat} {b : Nat} {t : TypeId} {A : Array Value} (h : RowAt w b t A) (hg : w.grownBy w' row) (hne : some b ≠ row) : RowAt w' b t A := (hg.block b h.lt hne).trans h
theorem info_u8 : (Try.prog.info? 5).map (fun i => (i.zero, i.size, i.bytes)) = some (some (.int .u8 0), 1, 1) := by kernel_rfl
def decV (L : ByteArray) (k : Nat) (fill : Bool) (t : List UInt8) : Value :=
  match decP L k fill t with
  | none => .tuple #[.string ⟨#[]⟩, .int .i64 4]
  | some o => .tuple #[.string ⟨o.toArray⟩, .int .i64 0]
theorem indexByte_all (s : ByteArray) (c : UInt8) (w : World) :
    Calls Try.prog 26 #[.string s, .int .u8 (c.toNat : Int)] w fun e w' => e = .returned (.int .i64 (Lib.indexByte s.data.toList c)) ∧ w = w' :=
  (indexByte_any s (c.toNat : Int) w).mono fun e w' ⟨he, hw⟩ => ⟨by rw [he]; simp, hw.symm⟩

end Go.Proofs.Ytbedanlkkidkkad
