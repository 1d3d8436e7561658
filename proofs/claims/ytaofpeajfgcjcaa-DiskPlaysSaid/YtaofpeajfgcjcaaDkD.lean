/- Disk: Read, what is shown. -/
import Derived.Test.YtaofpeajfgcjcaaDkC
import Derived.Maps.OwnSet
namespace Go.Proofs.Ytaofpeajfgcjcaa
open Go Go.RowKit Go.Maps
set_option linter.unusedSimpArgs false
set_option linter.unusedVariables false

/-- How a block in the map reads: as itself. -/
def rdr (v : Value) : Option (DataW Value × List MemPlace) := some (.held v, [])
theorem kint : Keyed Try.prog 3 := int_keyed Try.underlying3
theorem key_at (a : Int) (hw : (Lit.int .i64 a).wf = true) : keyOf Try.prog 3 (.int .i64 a) = some (.int .i64 a) :=
  keyOf_int_mk Try.underlying3 hw
/-- The map of what is shown. -/
def Shown (w : World) (M n : Nat) (D : DataW Value) : Prop := w.ownsMap Try.prog 3 rdr M n D
theorem Shown.alloc {w : World} {M n : Nat} {D : DataW Value} (h : Shown w M n D) (o : Obj) : Shown (w.alloc o) M n D := World.ownsMap.alloc h o
theorem Shown.look {w : World} {M n : Nat} {D : DataW Value} (h : Shown w M n D) (a : Int) (hw : (Lit.int .i64 a).wf = true) (cs : Array Value) (hD : D.atKey (.int .i64 a) (.held (.agg zeroBlk)) = .held (.agg cs)) :
    (Instr.lookup 54 (.map (some M)) (.int .i64 a) true).run Try.prog w = .ok (.tuple #[.agg cs, .bool (Maps.has D (.int .i64 a))]) w := by
  obtain ⟨v, ps, hrun, hv⟩ := World.ownsMap.look_ok h kint Try.underlying54 (zero_block w) (zd := .held (.agg zeroBlk)) (zp := []) rfl (key_at a hw)
  rw [hD] at hv
  have : v = .agg cs := by
    simp only [rdr, Option.some.injEq, Prod.mk.injEq, DataW.held.injEq] at hv
    exact hv.1
  rw [hrun, this]

set_option maxRecDepth 100000 in
set_option maxHeartbeats 4000000 in
/-- Read of what is shown. -/
theorem read_shown (d L n N : Nat) (v : Value) (M : Nat) (steps fuse : Int) (down : Bool) (D : DataW Value) (cs : Array Value) (hcs : cs.size = 128) (hc1 : cs.all (·.oneCell') = true) (at' : Int) (ha : (Lit.int .i64 at').wf = true)
    (hD : D.atKey (.int .i64 at') (.held (.agg zeroBlk)) = .held (.agg cs)) (hh : Maps.has D (.int .i64 at') = true)
    (w : World) (hr : RowAt w d 57 (diskA L n v M steps fuse down)) (hs : Shown w M N D)
    (hm : ∀ o, Calls Try.prog 24 #[.pointer (some ⟨d, 0, none⟩), .int .i64 at'] (w.alloc o) fun e w' => e = .returned (.int .i64 0) ∧ w.alloc o = w') :
    Calls Try.prog 15 #[.pointer (some ⟨d, 0, none⟩), .int .i64 at'] w fun e w' => e = .returned (.tuple #[.agg cs, .int .i64 0]) ∧ Below w.heap.size w w' := by
  have c2 : (w.alloc (.cells zeroBlk 32)).cell? ⟨d, 2, none⟩ = some (.map (some M)) := (hr.alloc _).cell rfl
  have hlk := (hs.alloc (.cells zeroBlk 32)).look at' ha cs hD
  rw [hh] at hlk
  have hz := zero_block
  have hzs := zeroBlk_size
  obtain ⟨W, hW⟩ : ∃ W, W = w.alloc (.cells zeroBlk 32) := ⟨_, rfl⟩
  have hWs : W.heap.size = w.heap.size + 1 := by rw [hW]; simp
  have hst1 := cells_block _ _ _ cs (RowAt.new W zeroBlk 32) zeroBlk_size hcs hc1
  rw [World.setRow_alloc_new] at hst1
  have hld := load_block _ _ cs (RowAt.new W cs 32) hcs
  have r0 : RowAt (W.alloc (.cells cs 32)) w.heap.size 32 zeroBlk := by rw [hW]; exact (RowAt.new _ _ _).alloc _
  have hst2 := cells_block _ _ _ cs r0 zeroBlk_size hcs hc1
  have hend : RowAt ((W.alloc (.cells cs 32)).setRow w.heap.size cs) w.heap.size 32 cs := setRow_heap _ _ _ _ _ _ r0
  have hbel : Below w.heap.size w ((W.alloc (.cells cs 32)).setRow w.heap.size cs) := below_setRow (by rw [hW]; exact below_al (below_al (Below.refl _ _) _) _) (Nat.le_refl _) cs
  have r1 := RowAt.new W cs 32
  have hib : (Try.prog.info? 32).map (·.size) = some cs.size := by rw [info_block, hcs]
  rw [hWs] at hst1 hld r1
  clear hld
  replace r1 := hid r1
  replace hib := hid hib
  replace hm := hid (hm (.cells zeroBlk 32))
  rw [← hW] at hm hlk c2
  replace hr := hid hr
  replace hs := hid hs
  replace hend := hid hend
  replace hbel := hid hbel
  replace r0 := hid r0
  replace hW := hid hW
  go_enter Try.func15, Try.ntmps15
  go_wp2_with (first
    | (with_reducible refine at_op (some 26) (.load 32 (.tmp 7)) ?_
       refine wpList_load_row (o := ⟨some 26, _, _, _, _, _⟩) rfl 32 (.tmp 7) rfl (w.heap.size + 1) rfl 32 cs (0, 0) _ r1.out Try.underlying32 rfl hib.out ?_)
    | (rw [← hW.out]; go_at_call 24; refine hm.out.mono ?_; rintro e w1 ⟨rfl, rfl⟩))
  exact bodyPost_ret (results_row_tmpD rfl _ _ w.heap.size 32 cs (0, 0) _ rfl hend.out Try.underlying32 rfl (by rw [info_block, hcs])) rfl ⟨rfl, hbel.out⟩
end Go.Proofs.Ytaofpeajfgcjcaa
