/- Plain words that all walks of this set use: rows of cells as functions; facts laid aside. -/
import Derived.WalkKit
import Derived.WalkSpells
import Derived.WalkLawsBesides
import Derived.Laws.Rows
import Derived.Outline
import Derived.KernelRfl
import Derived.Deep.LoopGhost
import Derived.Deep.QuietTactic
import Derived.BigQuiet
import Derived.IntWalk
import Derived.Laws.BitsAllLaws
import Derived.Deep.DeepCutAuto
import Derived.Deep.RegionHeld3
import Derived.Laws.BytesArg
import Derived.Lib.Strings
import Derived.OpenShut
import Derived.Laws.MathBits
import Derived.Laws.Externs
import Derived.Laws.MakeOwn
import Derived.Laws.OwnMore
namespace Go.Proofs.Ytaofpeajfgcjcaa
open Go Go.RowKit

theorem ret_int {k : IntKind} {a b : Int} (h : a = b) : Ending.returned (.int k a) = .returned (.int k b) := by rw [h]
theorem ret_bool {a b : Bool} (h : a = b) : Ending.returned (.bool a) = .returned (.bool b) := by rw [h]
theorem ret_string {a b : ByteArray} (h : a = b) : Ending.returned (.string a) = .returned (.string b) := by rw [h]
theorem ret_int2 {k k' : IntKind} {a b c d : Int} (h : a = b) (h' : c = d) : Ending.returned (.tuple #[.int k a, .int k' c]) = .returned (.tuple #[.int k b, .int k' d]) := by rw [h, h']
theorem byte_lt (c : UInt8) : c.toNat < 256 := c.toNat_lt
theorem toList_empty {s : ByteArray} (h : 1 ≤ s.size) : s.toList.isEmpty = false := by
  rw [List.isEmpty_eq_false_iff]; intro h2
  rw [ByteArray.toList_eq] at h2
  have h3 : s.data.toList.length = s.size := by simp
  rw [h2] at h3; simp at h3; omega
theorem u64_of_wf {x : Int} (h : (Lit.int .u64 x).wf = true) : ∃ n : Nat, x = (n : Int) ∧ n < 18446744073709551616 := by
  obtain ⟨h1, h2⟩ := bounds_u64 h
  exact ⟨x.toNat, by omega, by omega⟩
theorem hid {p : Prop} (h : p) : Hid p := h

/-- A row of n cells, by a function of the place. -/
def rowA (n : Nat) (f : Nat → Value) : Array Value := Array.ofFn (n := n) fun i => f i.val
theorem rowA_size (n : Nat) (f : Nat → Value) : (rowA n f).size = n := by simp [rowA]
theorem rowA_get (n : Nat) (f : Nat → Value) (j : Nat) (h : j < n) : (rowA n f)[j]? = some (f j) := by
  simp [rowA, h]
theorem rowA_ext {n : Nat} {f g : Nat → Value} (h : ∀ i, i < n → f i = g i) : rowA n f = rowA n g := by
  apply Array.ext (by simp [rowA])
  intro i h1 h2
  simp only [rowA, Array.getElem_ofFn]
  exact h i (by simpa [rowA] using h1)
theorem rowA_of {n : Nat} {A : Array Value} (hs : A.size = n) {f : Nat → Value} (h : ∀ i, i < n → A[i]? = some (f i)) : A = rowA n f := by
  apply Array.ext (by simp [rowA, hs])
  intro i h1 h2
  have := h i (by omega)
  rw [Array.getElem?_eq_getElem h1] at this
  simp only [rowA, Array.getElem_ofFn]
  exact Option.some.inj this
theorem rowA_rep (n : Nat) (v : Value) : Array.replicate n v = rowA n fun _ => v :=
  rowA_of (by simp) (fun i h => by simp [h])
theorem rowA_set (n : Nat) (f : Nat → Value) (k : Nat) (v : Value) : (rowA n f).setIfInBounds k v = rowA n fun i => if i = k then v else f i := by
  apply rowA_of (by simp [rowA])
  intro i h
  by_cases e : i = k
  · subst e; simp [rowA, h]
  · rw [if_neg e, Array.getElem?_setIfInBounds_ne (by omega)]; simp [rowA, h]

/-- A block that is a row of cells. -/
def RowAt (w : World) (b : Nat) (t : TypeId) (A : Array Value) : Prop := w.heap[b]? = some (.cells A t (0, 0))
theorem RowAt.lt {w : World} {b : Nat} {t : TypeId} {A : Array Value} (h : RowAt w b t A) : b < w.heap.size := (Array.getElem?_eq_some_iff.1 h).1
theorem RowAt.cell {w : World} {b : Nat} {t : TypeId} {A : Array Value} (h : RowAt w b t A) {j : Nat} {v : Value} (hv : A[j]? = some v) : w.cell? ⟨b, j, none⟩ = some v := by
  rw [cell_of_row w b j A t (0, 0) h]; exact hv
theorem RowAt.free {w : World} {b : Nat} {t : TypeId} {A : Array Value} (h : RowAt w b t A) (j : Nat) : w.frozen? ⟨b, j, none⟩ = false := frozen_of_row w b j A t h
theorem RowAt.set {w : World} {b : Nat} {t : TypeId} {A : Array Value} (h : RowAt w b t A) (j : Nat) (v : Value) : RowAt (w.setCell ⟨b, j, none⟩ v) b t (A.setIfInBounds j v) := by
  have := heap_setCell_same w b j A t v h
  exact this
theorem RowAt.other {w : World} {b : Nat} {t : TypeId} {A : Array Value} (h : RowAt w b t A) (a : Addr) (v : Value) (hb : b ≠ a.block) : RowAt (w.setCell a v) b t A := (heap_setCell_other w a b v hb).trans h
theorem RowAt.alloc {w : World} {b : Nat} {t : TypeId} {A : Array Value} (h : RowAt w b t A) (o : Obj) : RowAt (w.alloc o) b t A := (Below.heap_alloc w o b h.lt).trans h
theorem RowAt.drew {w : World} {b : Nat} {t : TypeId} {A : Array Value} (h : RowAt w b t A) : RowAt w.drew b t A := h
theorem RowAt.drewN {w : World} {b : Nat} {t : TypeId} {A : Array Value} (h : RowAt w b t A) (n : Nat) : RowAt (w.drewN n) b t A := h
theorem RowAt.new (w : World) (A : Array Value) (t : TypeId) : RowAt (w.alloc (.cells A t)) w.heap.size t A := heap_alloc_new w _
theorem RowAt.below {w w' : World} {b : Nat} {t : TypeId} {A : Array Value} {B : Nat} (h : RowAt w b t A) (hb : Below B w w') (hB : b < B) : RowAt w' b t A := (hb.block b hB).trans h
theorem RowAt.eqA {w : World} {b : Nat} {t : TypeId} {A A' : Array Value} (h : RowAt w b t A) (e : A = A') : RowAt w b t A' := e ▸ h
theorem RowAt.setRow {w : World} {b : Nat} {t : TypeId} {A : Array Value} (h : RowAt w b t A) (A' : Array Value) : RowAt (w.setRow b A') b t A' := setRow_heap w b A A' t (0, 0) h
theorem RowAt.setRowOther {w : World} {b : Nat} {t : TypeId} {A : Array Value} (h : RowAt w b t A) (g : Nat) (A' : Array Value) (hg : b ≠ g) : RowAt (w.setRow g A') b t A := (setRow_other w g b A' hg).trans h
theorem below_setRow {B : Nat} {a w : World} (h : Below B a w) {g : Nat} (hg : B ≤ g) (A : Array Value) : Below B a (w.setRow g A) :=
  h.trans ⟨rfl, rfl, rfl, by simp, fun k hk => setRow_other w g k A (by omega)⟩

/-- 'make([]uint8, n)'. -/
theorem run_make8 {P : Program} (t e : TypeId) (ht : P.underlying t = some (.slice e)) (hi : (P.info? e).map (fun i => (i.zero, i.size, i.bytes)) = some (some (.int .u8 0), 1, 1)) (n : Nat) (hn : n ≤ 281474976710656) (w : World) :
    (Instr.makeSlice t (.int .i64 (n : Int)) (.int .i64 (n : Int))).run P w = .ok (.slice (some ⟨w.heap.size, 0, none⟩) n n) (w.alloc (.cells (rowA n fun _ => .int .u8 0) e)) := by
  cases hq : P.info? e with
  | none => rw [hq] at hi; cases hi
  | some i =>
    rw [hq] at hi
    simp only [Option.map_some, Option.some.injEq, Prod.mk.injEq] at hi
    obtain ⟨hz, hs, hb⟩ := hi
    have := run_make (P := P) w t e i (.int .u8 0) ht hq hz .i64 .i64 n n (by omega) (Int.le_refl _) (by rw [hb]; omega) (by omega)
    simp only [Int.toNat_natCast, hs, Nat.mul_one] at this
    rw [this]
    congr 3
    refine rowA_of (size_madeCells _ _) (fun j hj => ?_)
    simp [madeCells, hj, Value.cells, Nat.mod_one]

/-- 'string(b)' of a row of bytes. -/
theorem conv_row {P : Program} {w : World} (src dst e : TypeId) (hs : P.underlying src = some (.slice e)) (he : P.underlying e = some (.int .u8)) (hd : P.underlying dst = some .string)
    {b n t : Nat} (c : Nat) {g : Nat → UInt8} (h : RowAt w b t (rowA n fun j => .int .u8 ((g j).toNat : Int))) :
    (convert src dst (.slice (some ⟨b, 0, none⟩) n c)).run P w = .ok (.string ⟨((List.range n).map g).toArray⟩) w := by
  have := run_convert_bytes_arg (P := P) w src e hs he b 0 n c ((List.range n).map fun j => ((g j).toNat : Int)) (by simp) (fun i hi => by
    rw [Nat.zero_add]
    refine h.cell ?_
    rw [rowA_get n _ i hi]
    simp [hi]) dst hd
  rw [this]
  have e : ((List.range n).map fun j => ((g j).toNat : Int)).map (fun m => UInt8.ofNat m.toNat) = (List.range n).map g := by
    rw [List.map_map]
    exact List.map_congr_left fun j _ => by simp
  unfold strOfNums
  rw [e]
/-- 'string([]byte{c})'. -/
theorem conv_one {P : Program} (src dst e : TypeId) (hs : P.underlying src = some (.slice e)) (he : P.underlying e = some (.int .u8)) (hd : P.underlying dst = some .string)
    (x : Int) (w : World) : (convert src dst (.slice (some ⟨w.heap.size, 0, none⟩) 1 1)).run P (w.alloc (.cells #[.int .u8 x] e)) = .ok (.string ⟨#[UInt8.ofNat x.toNat]⟩) (w.alloc (.cells #[.int .u8 x] e)) := by
  have := run_convert_bytes_arg (P := P) (w.alloc (.cells #[.int .u8 x] e)) src e hs he w.heap.size 0 1 1 [x] rfl (fun i hi => by
    obtain rfl : i = 0 := by omega
    exact (RowAt.new w #[.int .u8 x] e).cell rfl) dst hd
  rw [this]; rfl
theorem lit_cells (w : World) (A : Array Value) (t : TypeId) (n : Nat) (f : Nat → ByteArray) (h : ∀ i, i < n → A[i]? = some (.string (f i))) :
    ∀ i, i < n → (w.alloc (.cells A t)).cell? ⟨w.heap.size, 0 + i, none⟩ = some (.string (f i)) := fun i hi => by
  rw [Nat.zero_add]; exact (RowAt.new w A t).cell (h i hi)
/-- The greatest of four. -/
def mx4 (x y z v : Int) : Int := max (max (max x y) z) v
theorem run_max4 {P : Program} (ts : Array TypeId) (t : TypeId) (k : IntKind) (x y z v : Int) (w : World) : (Builtin.max_ ts t #[.int k x, .int k y, .int k z, .int k v]).run P w = .ok (.int k (mx4 x y z v)) w := by
  have e : ∀ a b : Int, (if b > a then b else a) = max a b := fun a b => by omega
  simp only [Builtin.max_, List.foldlM_cons, List.foldlM_nil, Builtin.max2, Sem.run_bind, Sem.run_pure, Result.andThen, e, mx4]
theorem ret_true {b : Bool} (h : b = true) : Ending.returned (.bool b) = .returned (.bool true) := by rw [h]
theorem below_cat {A B C : World} (h2 : Below B.heap.size B C) (h1 : Below A.heap.size A B) : Below A.heap.size A C := h1.trans (h2.mono h1.size)
theorem below_drew_l {w w' : World} (h : Below w.drew.heap.size w.drew w') : Below w.heap.size w w' := ⟨h.os, h.tape, h.output, h.size, h.block⟩
/-- An element of an array that is a value. -/
theorem run_index_row {P : Program} (t e : TypeId) (n : Nat) (ik : IntKind) (ht : P.underlying t = some (.array n e)) (he : P.underlying e = some (.int ik)) (hsz : (P.info? e).map (·.size) = some 1)
    (k : IntKind) (A : Array Value) (i : Nat) (v : Value) (hi : i < n) (hA : A[i]? = some v) (w : World) : (Instr.index t (.agg A) (.int k (i : Int))).run P w = .ok v w := by
  cases hq : P.info? e with
  | none => rw [hq] at hsz; cases hsz
  | some inf =>
    rw [hq] at hsz
    have h1 : inf.size = 1 := by simpa using hsz
    simp [Instr.index, asIntOf, run_underlying ht, run_underlying he, part, isAgg, sizeOf, typeInfo, hq, h1, hi, hA, Sem.run_bind, Result.andThen]
theorem below_al {A B : World} (h : Below A.heap.size A B) (o : Obj) : Below A.heap.size A (B.alloc o) := h.alloc h.size o

end Go.Proofs.Ytaofpeajfgcjcaa
