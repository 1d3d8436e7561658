/- Words on a text that is turned at one place. -/
import Derived.Test.YtbedanlkkidkkadKit
import Derived.Test.YtbedanlkkidkkadProg
import Derived.Lib.ConvBytes
namespace Go.Proofs.Ytbedanlkkidkkad
open Go Go.RowKit

/-- '[]byte(s)', then one byte stored, then 'string(b)'. -/
theorem bytes_free (e : TypeId) (s : ByteArray) (j : Nat) (hj : j < s.size) (w : World) (b : Nat) (hb : w.heap.size = b) : (Lib.bytesWorld w e s).frozen? ⟨b, j, none⟩ = false := by
  subst hb
  simp only [World.frozen?, Lib.bytesWorld_at_new]
  have : s.size ≤ (Lib.bytesCells w e s).size := by simp [Lib.bytesCells]
  simp; omega
theorem bytes_cell (e : TypeId) (s : ByteArray) (j : Nat) (hj : j < s.size) (w : World) (b : Nat) (hb : w.heap.size = b) : (Lib.bytesWorld w e s).cell? ⟨b, j, none⟩ = some (.int .u8 (s[j].toNat : Int)) := by
  subst hb
  rw [Lib.bytesWorld_cell w e s j hj]
  congr 3
  simp [hj]; rfl
theorem bytes_below (w : World) (e : TypeId) (s : ByteArray) : Below w.heap.size w (Lib.bytesWorld w e s) :=
  ⟨rfl, rfl, rfl, by rw [Lib.bytesWorld_size]; omega, fun k hk => Lib.bytesWorld_at_old w e s k hk⟩
/-- A text with one byte set. -/
def setS (s : ByteArray) (j : Nat) (c : UInt8) : ByteArray := ⟨(s.data.toList.set j c).toArray⟩
theorem setS_size (s : ByteArray) (j : Nat) (c : UInt8) : (setS s j c).size = s.size := by
  unfold setS ByteArray.size
  simp
theorem bytes_back (src dst e : TypeId) (hs : Try.prog.underlying src = some (.slice e)) (he : Try.prog.underlying e = some (.int .u8)) (hd : Try.prog.underlying dst = some .string)
    (s : ByteArray) (j : Nat) (hj : j < s.size) (c : Nat) (v : Nat) (hv : v < 256) (w : World) (b : Nat) (hb : w.heap.size = b) :
    (convert src dst (.slice (some ⟨b, 0, none⟩) s.size c)).run Try.prog ((Lib.bytesWorld w e s).setCell ⟨b, j, none⟩ (.int .u8 (v : Int))) =
      .ok (.string (setS s j (UInt8.ofNat v))) ((Lib.bytesWorld w e s).setCell ⟨b, j, none⟩ (.int .u8 (v : Int))) := by
  subst hb
  have hcell := bytes_cell e s j hj w _ rfl
  have := run_convert_bytes_arg (P := Try.prog) ((Lib.bytesWorld w e s).setCell ⟨w.heap.size, j, none⟩ (.int .u8 (v : Int))) src e hs he w.heap.size 0 s.size c
    ((s.data.toList.set j (UInt8.ofNat v)).map fun x => (x.toNat : Int)) (by simp) (fun i hi => by
      rw [Nat.zero_add]
      by_cases hij : i = j
      · subst hij
        rw [World.cell?_setCell_same' _ _ _ (by rw [hcell]; rfl)]
        simp [hi]
        omega
      · rw [World.cell?_setCell_other _ _ _ _ (by intro h; apply hij; have := congrArg Addr.off h; simpa using this.symm), bytes_cell e s i hi w _ rfl]
        simp [Ne.symm hij, hi]
        rfl) dst hd
  rw [this]
  unfold strOfNums setS
  rw [List.map_map]
  congr 4
  conv => rhs; rw [← List.map_id (s.data.toList.set j (UInt8.ofNat v))]
  exact List.map_congr_left fun x _ => by simp
theorem below_bytes_set {w X : World} (e : TypeId) (S : ByteArray) (j : Nat) (v : Value) (h : Below w.heap.size w X) (b : Nat) (hb : X.heap.size = b) : Below w.heap.size w ((Lib.bytesWorld X e S).setCell ⟨b, j, none⟩ v) :=
  (below_cat (bytes_below X e S) h).setCell (by rw [← hb]; exact h.size) _

end Go.Proofs.Ytbedanlkkidkkad
