/- Disk: what it is, in plain words; Read. -/
import Derived.Test.YtaofpeajfgcjcaaDkD
import Derived.Deep.MidRow
namespace Go.Proofs.Ytaofpeajfgcjcaa
open Go Go.RowKit Go.Maps
set_option linter.unusedSimpArgs false
set_option linter.unusedVariables false

/-- A sector's bytes. -/
abbrev Blk := Nat → UInt8
def u8c (x : UInt8) : Value := .int .u8 (x.toNat : Int)
def blkA (b : Blk) : Array Value := rowA 128 fun j => u8c (b j)
theorem blkA_size (b : Blk) : (blkA b).size = 128 := rowA_size _ _
theorem blkA_get (b : Blk) (j : Nat) (h : j < 128) : (blkA b)[j]? = some (u8c (b j)) := rowA_get _ _ _ h
theorem all_one_u8 {n : Nat} {f : Nat → UInt8} : (rowA n fun j => u8c (f j)).all (·.oneCell') = true := by
  rw [Array.all_eq_true_iff_forall_mem]
  intro v hv
  obtain ⟨i, hi, rfl⟩ := Array.mem_iff_getElem.1 hv
  simp [rowA, u8c, Value.oneCell']
theorem blkA_one (b : Blk) : (blkA b).all (·.oneCell') = true := all_one_u8
theorem zero_blkA : zeroBlk = blkA fun _ => 0 := by
  unfold zeroBlk
  rw [rowA_rep]
  rfl
theorem blkA_ext {a b : Blk} (h : ∀ j, j < 128 → a j = b j) : blkA a = blkA b := rowA_ext fun i hi => by rw [h i hi]
/-- All that lasts, as a row of cells. -/
def lastsA (n : Nat) (l : Nat → UInt8) : Array Value := rowA (n * 128) fun j => u8c (l j)
theorem lastsA_size (n : Nat) (l : Nat → UInt8) : (lastsA n l).size = n * 128 := rowA_size _ _
theorem lastsA_one (n : Nat) (l : Nat → UInt8) : (lastsA n l).all (·.oneCell') = true := all_one_u8
theorem zeroRows_eq (n : Nat) : zeroRows n = lastsA n fun _ => 0 := rfl
/-- A sector of what lasts. -/
def secOf (l : Nat → UInt8) (a : Nat) : Blk := fun j => l (a * 128 + j)
theorem lasts_range {w : World} {L t n : Nat} {l : Nat → UInt8} (h : RowAt w L t (lastsA n l)) (a : Nat) (ha : a < n) : w.rangeAt L (a * 128) (blkA (secOf l a)).toList := by
  intro j v hv
  have hj : j < 128 := by
    have := (List.getElem?_eq_some_iff.1 hv).1
    simpa [blkA_size] using this
  rw [Array.getElem?_toList, blkA_get _ _ hj] at hv
  refine h.cell ?_
  unfold lastsA
  rw [rowA_get _ _ _ (by omega)]
  exact hv
/-- The last write at a place. -/
def shownZ (hs : List (Nat × Blk)) (a : Int) : Option Blk := hs.foldl (fun o p => if (p.1 : Int) = a then some p.2 else o) none
theorem shownZ_nil (a : Int) : shownZ [] a = none := rfl
theorem shownZ_snoc (hs : List (Nat × Blk)) (p : Nat × Blk) (a : Int) : shownZ (hs ++ [p]) a = if (p.1 : Int) = a then some p.2 else shownZ hs a := by
  simp [shownZ, List.foldl_append]
theorem snoc_ind {α : Type} {p : List α → Prop} (h0 : p []) (h1 : ∀ l a, p l → p (l ++ [a])) (l : List α) : p l := by
  have : ∀ r : List α, p r.reverse := fun r => by
    induction r with
    | nil => exact h0
    | cons a r ih => rw [List.reverse_cons]; exact h1 _ _ ih
  simpa using this l.reverse
theorem shownZ_in {hs : List (Nat × Blk)} {a : Int} {b : Blk} (h : shownZ hs a = some b) : ∃ p ∈ hs, (p.1 : Int) = a ∧ p.2 = b := by
  revert h
  refine snoc_ind (p := fun hs => shownZ hs a = some b → ∃ p ∈ hs, (p.1 : Int) = a ∧ p.2 = b) (fun h => by cases h) (fun hs p ih h => ?_) hs
  rw [shownZ_snoc] at h
  split at h
  · exact ⟨p, by simp, by assumption, by simpa using h⟩
  · obtain ⟨q, hq, h1⟩ := ih h
    exact ⟨q, by simp [hq], h1⟩
/-- A disk, as a thing by itself. -/
structure DS where
  n : Nat
  lasts : Nat → UInt8
  hangs : List (Nat × Blk)
  steps : Int
  fuse : Int
  down : Bool
def DS.mayE (S : DS) (a : Int) : Int := mayN S.down S.n a
def DS.look (S : DS) (a : Int) : Blk := (shownZ S.hangs a).getD (secOf S.lasts a.toNat)
def DS.read (S : DS) (a : Int) : Blk × Int := if S.mayE a = 0 then (S.look a, 0) else (fun _ => 0, S.mayE a)
theorem mayN_zero {down : Bool} {n : Nat} {a : Int} (h : mayN down n a = 0) : down = false ∧ 0 ≤ a ∧ a < n := by
  unfold mayN at h
  split at h
  · cases h
  · split at h
    · cases h
    · rename_i h1 h2
      exact ⟨by simpa using h1, by omega, by omega⟩
/-- The map is what is shown. -/
def Agrees (hs : List (Nat × Blk)) (D : DataW Value) : Prop := ∀ a : Int, (Lit.int .i64 a).wf = true →
  match shownZ hs a with
  | none => Maps.has D (.int .i64 a) = false ∧ D.atKey (.int .i64 a) (.held (.agg zeroBlk)) = .held (.agg zeroBlk)
  | some b => Maps.has D (.int .i64 a) = true ∧ ∀ zd, D.atKey (.int .i64 a) zd = .held (.agg (blkA b))

attribute [irreducible] blkA lastsA
set_option maxRecDepth 100000 in
set_option maxHeartbeats 4000000 in
/-- Read of what lasts. -/
theorem read_lasts (d L n N : Nat) (v : Value) (M : Nat) (steps fuse : Int) (down : Bool) (D : DataW Value) (cs : Array Value) (hcs : cs.size = 128) (hc1 : cs.all (·.oneCell') = true) (at' : Nat) (hn : n ≤ 4096) (han : at' < n) (ha : (Lit.int .i64 (at' : Int)).wf = true)
    (hD : D.atKey (.int .i64 (at' : Int)) (.held (.agg zeroBlk)) = .held (.agg zeroBlk)) (hh : Maps.has D (.int .i64 (at' : Int)) = false)
    (w : World) (hr : RowAt w d 57 (diskA L n v M steps fuse down)) (hs : Shown w M N D) (hrg : w.rangeAt L (at' * 128) cs.toList)
    (hm : ∀ o, Calls Try.prog 24 #[.pointer (some ⟨d, 0, none⟩), .int .i64 (at' : Int)] (w.alloc o) fun e w' => e = .returned (.int .i64 0) ∧ w.alloc o = w') :
    Calls Try.prog 15 #[.pointer (some ⟨d, 0, none⟩), .int .i64 (at' : Int)] w fun e w' => e = .returned (.tuple #[.agg cs, .int .i64 0]) ∧ Below w.heap.size w w' := by
  have hlk := (hs.alloc (.cells zeroBlk 32)).look at' ha zeroBlk hD
  rw [hh] at hlk
  have hz := zero_block
  have hzs := zeroBlk_size
  obtain ⟨W, hW⟩ : ∃ W, W = w.alloc (.cells zeroBlk 32) := ⟨_, rfl⟩
  have hWs : W.heap.size = w.heap.size + 1 := by rw [hW]; simp
  have c2 : W.cell? ⟨d, 2, none⟩ = some (.map (some M)) := by rw [hW]; exact (hr.alloc _).cell rfl
  have hst1 := cells_block _ _ _ zeroBlk (RowAt.new W zeroBlk 32) zeroBlk_size zeroBlk_size zeroBlk_one
  rw [World.setRow_alloc_new] at hst1
  have c0 : (W.alloc (.cells zeroBlk 32)).cell? ⟨d, 0, none⟩ = some (.slice (some ⟨L, 0, none⟩) n n) := by rw [hW]; exact ((hr.alloc _).alloc _).cell rfl
  have hrg2 : (W.alloc (.cells zeroBlk 32)).rangeAt L (at' * 128) cs.toList := by rw [hW]; exact World.rangeAt_alloc (World.rangeAt_alloc hrg _) _
  have r0 : RowAt (W.alloc (.cells zeroBlk 32)) w.heap.size 32 zeroBlk := by rw [hW]; exact (RowAt.new _ _ _).alloc _
  have hst2 := cells_block _ _ _ cs r0 zeroBlk_size hcs hc1
  have hend : RowAt ((W.alloc (.cells zeroBlk 32)).setRow w.heap.size cs) w.heap.size 32 cs := setRow_heap _ _ _ _ _ _ r0
  have hbel : Below w.heap.size w ((W.alloc (.cells zeroBlk 32)).setRow w.heap.size cs) := below_setRow (by rw [hW]; exact below_al (below_al (Below.refl _ _) _) _) (Nat.le_refl _) cs
  rw [hWs] at hst1
  replace hm := hid (hm (.cells zeroBlk 32))
  rw [← hW] at hm hlk
  have hib : (Try.prog.info? 32).map (·.size) = some cs.toList.length := by rw [info_block, Array.length_toList, hcs]
  have i1 : (0 : Int) ≤ (at' : Int) := by omega
  have i2 : (at' : Int) < (n : Int) := by omega
  replace hr := hid hr
  replace hs := hid hs
  replace hrg := hid hrg
  replace hrg2 := hid hrg2
  replace hib := hid hib
  replace r0 := hid r0
  replace hend := hid hend
  replace hbel := hid hbel
  replace hW := hid hW
  go_enter Try.func15, Try.ntmps15
  go_wp2_with (first
    | (with_reducible refine at_op (some 33) (.load 32 (.tmp 32)) ?_
       refine wpList_load_mid (op := ⟨some 33, _, _, _, _, _⟩) rfl 32 (.tmp 32) rfl L (at' * 128) rfl cs.toList _ hrg2.out Try.underlying32 rfl hib.out ?_
       simp only [Array.toArray_toList])
    | (go_at_call 24; rw [← hW.out]; refine hm.out.mono ?_; rintro e w1 ⟨rfl, rfl⟩))
  exact bodyPost_ret (results_row_tmpD rfl _ _ w.heap.size 32 cs (0, 0) _ rfl hend.out Try.underlying32 rfl (by rw [info_block, hcs])) rfl ⟨rfl, hbel.out⟩
end Go.Proofs.Ytaofpeajfgcjcaa
