/- Sums: blocks, Sum, Text; the chapter's example. -/
import Derived.Test.YtdjlpmelmhhooaaGreatDoorLibA
import Derived.Test.YtdjlpmelmhhooaaGreatDoorOctX
import Derived.Test.YtdjlpmelmhhooaaGreatDoorShfX
import Derived.OwnWalkIn
import Derived.TacticsInMore
import Derived.LoopNIn
import Derived.LoopIn
import Derived.Shelf.Abstract
import Derived.Shelf.RegionOpen
import Derived.Test.YtdjlpmelmhhooaaGreatDoorSha7
import Derived.Lib.BufferWrite
import Derived.Lib.SlBuf
namespace Go.Proofs.YtdjlpmelmhhooaaGreatDoor
section
open Go Go.RowKit
set_option linter.unusedSimpArgs false
attribute [local go_sem] Oper.semAt_some

/-- How many noughts. -/
def padK (n : Nat) : Nat := (119 - n % 64) % 64
def padS (s : ByteArray) : ByteArray := s ++ ((⟨#[128]⟩ : ByteArray) ++ ⟨(Lib.repeatL [0] (padK s.size)).toArray⟩ ++ beS (s.size * 8) 8)
theorem repeatL_len (l : List UInt8) (k : Nat) : (Lib.repeatL l k).length = l.length * k := by
  induction k with
  | zero => simp [Lib.repeatL]
  | succ k ih => simp only [Lib.repeatL, List.length_append, ih, Nat.mul_succ]; omega
theorem padS_size (s : ByteArray) : (padS s).size = s.size + 9 + padK s.size := by
  unfold padS
  simp only [ByteArray.size_append, beS_size]
  have : (⟨(Lib.repeatL [0] (padK s.size)).toArray⟩ : ByteArray).size = padK s.size := by
    show (Lib.repeatL [0] (padK s.size)).toArray.size = _
    rw [List.size_toArray, repeatL_len]; simp
  rw [this]
  have h1 : (⟨#[128]⟩ : ByteArray).size = 1 := rfl
  omega
theorem padS_mod (s : ByteArray) : (padS s).size % 64 = 0 := by rw [padS_size]; unfold padK; omega
def blk (p : ByteArray) (i : Nat) : ByteArray := p.extract (64 * i) (64 * i + 64)
def blocksTo (p : ByteArray) (n : Nat) : List ByteArray := (List.range n).map (blk p)
def blocksN (p : ByteArray) : List ByteArray := blocksTo p (p.size / 64)
theorem blocksTo_succ (p : ByteArray) (n : Nat) : blocksTo p (n + 1) = blocksTo p n ++ [blk p n] := by
  unfold blocksTo; rw [List.range_succ, List.map_append]; rfl
theorem blocksTo_split (p : ByteArray) (n m : Nat) (h : n < m) : ∃ post, blocksTo p m = blocksTo p n ++ blk p n :: post := by
  obtain ⟨k, rfl⟩ : ∃ k, m = n + 1 + k := ⟨m - (n + 1), by omega⟩
  induction k with
  | zero => exact ⟨[], by rw [Nat.add_zero, blocksTo_succ]⟩
  | succ k ih => obtain ⟨q, hq⟩ := ih (by omega); exact ⟨q ++ [blk p (n + 1 + k)], by rw [← Nat.add_assoc, blocksTo_succ, hq, List.append_assoc]; rfl⟩
theorem blk_size (p : ByteArray) (i : Nat) (h : 64 * i + 64 ≤ p.size) : (blk p i).size = 64 := by unfold blk; rw [ByteArray.size_extract]; omega
def encB (p : ByteArray) : Array Value := #[.string p]

set_option maxRecDepth 1000000 in
set_option maxHeartbeats 1000000 in
theorem blocks_make (s : ByteArray) (hs : s.size ≤ 140737488351232) (w : World) : Calls Tryz.prog 183 #[.string s] w fun e w' =>
    e = .returned (.func (.func 198) #[] #[.pointer (some ⟨w.heap.size, 0, none⟩)]) ∧ RowAt w' w.heap.size 9 #[.string (padS s)] ∧ Below w.heap.size w w' := by
  obtain ⟨k, hk⟩ : ∃ k, k = padK s.size := ⟨_, rfl⟩
  obtain ⟨m, hm⟩ : ∃ m, m = 119 - s.size % 64 := ⟨_, rfl⟩
  have hm2 : IntKind.i64.wrap (119 - (s.size : Int) % 64) = (m : Int) := by rw [IntKind.wrap_i64]; omega
  have hm1 : 119 - (s.size : Int) % 64 = (m : Int) := by omega
  have hk1 : (m : Int) % 64 = (k : Int) := by rw [hk, hm]; unfold padK; omega
  have hk64 : k < 64 := by rw [hk]; unfold padK; omega
  have LR := fun w => repeat_any ⟨#[0]⟩ k w (by omega) (by show 1 * k ≤ _; omega)
  have LP := fun w => put_any (s.size * 8) 8 w
  obtain ⟨N, hN⟩ : ∃ N, N = s.size * 8 := ⟨_, rfl⟩
  have hNi : (s.size : Int) * 8 = (N : Int) := by omega
  have hNi2 : ((s.size * 8 : Nat) : Int) = (N : Int) := by omega
  have h8 : clip8 8 = 8 := rfl
  rw [h8, hNi2, ← hN] at LP
  obtain ⟨R, hR⟩ : ∃ R : ByteArray, R = ⟨(Lib.repeatL (⟨#[0]⟩ : ByteArray).data.toList k).toArray⟩ := ⟨_, rfl⟩
  rw [← hR] at LR
  obtain ⟨B, hB⟩ : ∃ B : ByteArray, B = beS N 8 := ⟨_, rfl⟩
  rw [← hB] at LP
  have hp : s ++ ((⟨#[128]⟩ : ByteArray) ++ R ++ B) = padS s := by unfold padS; rw [hR, hB, hN, ← hk]
  have hRs : R.size ≤ 64 := by
    rw [hR]; show (Lib.repeatL (⟨#[0]⟩ : ByteArray).data.toList k).toArray.size ≤ 64
    rw [List.size_toArray, repeatL_len]; show 1 * k ≤ 64; omega
  have hBs : B.size ≤ 8 := by rw [hB, beS_size]; exact Nat.le_refl _
  replace LR := hid LR
  replace LP := hid LP
  replace hp := hid hp
  have hs0 : (s.size : Int) ≤ 140737488351232 := by omega
  clear hk hm hN hNi2 h8 hR hB
  go_enter Tryz.func183, Tryz.ntmps183
  go_wp2
  obtain ⟨w1, hw1⟩ : ∃ w1, w1 = w.alloc (.cells #[.string s] 9) := ⟨_, rfl⟩
  have hbx : RowAt w1 w.heap.size 9 #[.string s] := by rw [hw1]; exact RowAt.new _ _ _
  have hB1 : Below w.heap.size w w1 := by rw [hw1]; exact below_al (Below.refl _ _) _
  rw [← hw1]
  have e1 : ∀ q : Sub w1, q.x.cell? ⟨w.heap.size, 0, none⟩ = some (.string s) := fun q => q.cell hbx rfl
  clear hw1
  replace hbx := hid hbx
  replace hB1 := hid hB1
  refine wp_region_last (by kernel_rfl) (by kernel_rfl) (by kernel_rfl) 12 _ rfl rfl ?_
  simp only [muted, mute]
  repeat (go_big_quiet_step (first
    | (go_at_call 86; with_reducible refine Sub.call _ (LR.out _))
    | (go_at_call 180; with_reducible refine Sub.call _ (LP.out _))))
  refine wpQuiet_nil ?_
  intro q
  have k1 := hbx.out.below q.h hbx.out.lt
  have kB := below_cat q.h hB1.out
  obtain ⟨Y, hY⟩ : ∃ Y, Y = q.x := ⟨_, rfl⟩
  rw [← hY] at k1 kB ⊢
  clear hY q e1
  have hcf : Y.cell? ⟨w.heap.size, 0, none⟩ = some (.string s) := k1.cell rfl
  have hfr := k1.free 0
  unfold Oper.wp
  simp [go_sem, hcf, hfr]
  rw [hp.out]
  have n1 := k1.set 0 (.string (padS s))
  have nB := kB.setCell (p := ⟨w.heap.size, 0, none⟩) (by simp) (.string (padS s))
  obtain ⟨Z, hZ⟩ : ∃ Z, Z = Y.setCell ⟨w.heap.size, 0, none⟩ (.string (padS s)) := ⟨_, rfl⟩
  rw [← hZ] at n1 nB ⊢
  clear hZ hcf hfr k1 kB
  replace n1 := hid n1
  replace nB := hid nB
  go_wp2
  go_ret
  exact ⟨rfl, n1.out, nB.out⟩

set_option maxRecDepth 1000000 in
set_option maxHeartbeats 4000000 in
theorem blocks_on (p : ByteArray) (hp : p.size ≤ 281474976710656) (h64 : p.size % 64 = 0) (b : Nat) (w : World) (hbox : RowAt w b 9 #[.string p]) :
    IterOn Tryz.prog 198 #[.pointer (some ⟨b, 0, none⟩)] encB (fun _ => False) (fun k => k = b) (blocksN p) w := by
  intro l J Jx W hb hJ hJx hY h0
  have hboxW : RowAt W b 9 #[.string p] := hbox.below hb hbox.lt
  obtain ⟨n, hn⟩ : ∃ n, n = p.size / 64 := ⟨_, rfl⟩
  have hxs : blocksN p = blocksTo p n := by rw [hn]; rfl
  have hpn : p.size = 64 * n := by omega
  rw [hxs] at hY ⊢
  clear hxs hn
  refine callsIn_of_wp Tryz.func198 rfl trivial ?_
  simp only [Tryz.ntmps198, List.size_toArray, List.length_cons, List.length_nil, Nat.reduceAdd, Nat.reduceSub, Array.replicate_succ, Array.replicate_zero, List.push_toArray, List.append_toArray, List.nil_append, List.cons_append]
  have hpi : (p.size : Int) = 64 * (n : Int) := by omega
  have hni : (n : Int) ≤ 4398046511104 := by omega
  replace hpi := hid hpi
  replace hpn := hid hpn
  gi_wp2
  gi_loopw [3] (fun v wr => ∃ i : Nat, v = .int .i64 ((64 * i : Nat) : Int) ∧ i ≤ n ∧ Hid (J (blocksTo p i) wr) ∧ Hid (RowAt wr b 9 #[.string p]) ∧ W.heap.size ≤ wr.heap.size)
    (fun v _ => 64 * n - (intOf v).toNat)
  case atStart => exact ⟨0, rfl, Nat.zero_le _, h0, hboxW, Nat.le_refl _⟩
  case round =>
    obtain ⟨i, rfl, hi, hj, hbx, hsz⟩ := hrel
    have hc : wr.cell? ⟨b, 0, none⟩ = some (.string p) := hbx.out.cell (j := 0) rfl
    obtain ⟨a, ha⟩ : ∃ a, a = 64 * i := ⟨_, rfl⟩
    have hap : (a : Int) ≤ (p.size : Int) := by have := hpi.out; omega
    by_cases hlt : i < n
    · have hd : decide ((a : Int) < (p.size : Int)) = true := by rw [decide_eq_true_iff]; have := hpi.out; omega
      have hd' : decide (a < p.size) = true := by rw [decide_eq_true_iff]; have := hpi.out; omega
      have ha64 : (a : Int) + 64 ≤ (p.size : Int) := by have := hpi.out; omega
      have ha64' : a + 64 ≤ p.size := by have := hpi.out; omega
      obtain ⟨post, hxs⟩ := blocksTo_split p i n hlt
      obtain ⟨fn, tmps, assign, body, hy, hR⟩ := hY (blocksTo p i) (blk p i) post wr hxs hsz hj.out
      have hblk : p.extract a (a + 64) = blk p i := by unfold blk; rw [ha]
      simp only [encB] at hy
      rw [← hblk] at hy
      rw [← ha]
      replace ha := hid ha
      replace hblk := hid hblk
      replace hxs := hid hxs
      gi_wp2
      refine ⟨rfl, hR.mono ?_⟩
      rintro e W2 (⟨rfl, hj2, hk2⟩ | ⟨rfl, hj2, hk2⟩)
      · have hbx2 : RowAt W2 b 9 #[.string p] := hk2.row hbx.out (fun h => h rfl)
        have hsz2 : W.heap.size ≤ W2.heap.size := Nat.le_trans hsz hk2.size
        have hj3 : J (blocksTo p (i + 1)) W2 := by rw [blocksTo_succ]; exact hj2
        replace hj3 := hid hj3
        replace hbx2 := hid hbx2
        clear hj hbx hy hR hk2 hj2
        gi_wp2
        go_roundw
        case rel => exact ⟨i + 1, by have := ha.out; go_num, by omega, hj3, hbx2, hsz2⟩
        case measure => have := ha.out; simp [intOf]; omega
      · gi_wp2
        refine bodyPost_ret (results_none rfl _ _ _) rfl ?_
        exact ⟨⟨_, rfl⟩, .inr ⟨_, _, _, hxs.out, hj2⟩⟩
    · obtain rfl : i = n := by omega
      have hd : decide ((a : Int) < (p.size : Int)) = false := by rw [decide_eq_false_iff_not]; have := hpi.out; omega
      have hd' : decide (a < p.size) = false := by rw [decide_eq_false_iff_not]; have := hpi.out; omega
      rw [← ha]
      replace ha := hid ha
      gi_wp2
      refine bodyPost_end (results_none rfl _ _ _) rfl ?_
      exact ⟨⟨_, rfl⟩, .inl hj.out⟩
end
section
open Go Go.RowKit
set_option linter.unusedSimpArgs false
attribute [local go_sem] Oper.semAt_some

def initS : St := ⟨startL.getD 0 0, startL.getD 1 0, startL.getD 2 0, startL.getD 3 0, startL.getD 4 0, startL.getD 5 0, startL.getD 6 0, startL.getD 7 0⟩
theorem initS_ok : initS.Ok := ⟨by decide, by decide, by decide, by decide, by decide, by decide, by decide, by decide⟩
theorem initS_row : rowA 8 (wordsF startL 8) = initS.cells := by
  refine (rowA_of (n := 8) (A := initS.cells) rfl fun j h => ?_).symm
  rcases lt8 h with rfl | rfl | rfl | rfl | rfl | rfl | rfl | rfl <;> rfl
def compAll (s : St) (bs : List ByteArray) : St := bs.foldl (fun s b => comp s b.data.toList) s
theorem compAll_snoc (s : St) (bs : List ByteArray) (b : ByteArray) : compAll s (bs ++ [b]) = comp (compAll s bs) b.data.toList := by simp [compAll]
theorem compAll_ok (s : St) (h : s.Ok) (bs : List ByteArray) : (compAll s bs).Ok := by
  unfold compAll
  induction bs generalizing s with
  | nil => exact h
  | cons b bs ih => exact ih _ (comp_ok _ _)
/-- A sum's byte. -/
def shaByte (t : St) (j : Nat) : UInt8 := byteAt (t.nth (j / 4)) (3 - j % 4)
def outV (t : St) (k j : Nat) : Value := .int .u8 (((if j < 4 * k then shaByte t j else 0 : UInt8).toNat : Nat) : Int)
def lastS (s : ByteArray) : St := compAll initS (blocksN (padS s))
def sumA (s : ByteArray) : Array Value := rowA 32 fun j => .int .u8 ((shaByte (lastS s) j).toNat : Int)
theorem outV_all (t : St) : rowA 32 (outV t 8) = rowA 32 fun j => .int .u8 ((shaByte t j).toNat : Int) := rowA_ext fun j hj => by
  unfold outV; rw [if_pos (by omega)]
theorem outV_zero (t : St) : rowA 32 (outV t 0) = rowA 32 fun _ => .int .u8 0 := rowA_ext fun j hj => by
  unfold outV; rw [if_neg (by omega)]; rfl
theorem outV_splice (t : St) (k : Nat) (hk : k < 8) :
    ((rowA 32 (outV t k)).toList.take (4 * k) ++ Lib.byteCells (beS (t.nth k) 4).data.toList ++ (rowA 32 (outV t k)).toList.drop (4 * k + (beS (t.nth k) 4).size)).toArray = rowA 32 (outV t (k + 1)) := by
  have hb : (beS (t.nth k) 4).size = 4 := beS_size _ _
  have hl : (beS (t.nth k) 4).data.toList = beL (t.nth k) 4 := by simp [beS]
  have hbl : (Lib.byteCells (beL (t.nth k) 4)).length = 4 := by rw [Lib.byteCells_length, beL_length]
  have hrl : (rowA 32 (outV t k)).toList.length = 32 := by simp [rowA]
  rw [hb, hl]
  refine rowA_of ?_ fun j hj => ?_
  · simp [hbl, rowA_size]; omega
  · rw [List.getElem?_toArray]
    by_cases h1 : j < 4 * k
    · rw [List.getElem?_append_left (by simp [hbl, rowA_size]; omega), List.getElem?_append_left (by simp [rowA_size]; omega), List.getElem?_take, if_pos h1, Array.getElem?_toList, rowA_get _ _ _ hj]
      unfold outV; rw [if_pos h1, if_pos (by omega)]
    · by_cases h2 : j < 4 * k + 4
      · rw [List.getElem?_append_left (by simp [hbl, rowA_size]; omega), List.getElem?_append_right (by simp [rowA_size]; omega)]
        obtain ⟨i, hi, rfl⟩ : ∃ i, i < 4 ∧ j = 4 * k + i := ⟨j - 4 * k, by omega, by omega⟩
        have e : 4 * k + i - (List.take (4 * k) (rowA 32 (outV t k)).toList).length = i := by simp [rowA_size]; omega
        rw [e]
        unfold outV shaByte
        rw [if_pos (by omega), show (4 * k + i) / 4 = k by omega, show (4 * k + i) % 4 = i by omega]
        simp [Lib.byteCells, beL, hi]
      · rw [List.getElem?_append_right (by simp [hbl, rowA_size]; omega), List.getElem?_drop]
        have e : 4 * k + 4 + (j - (List.take (4 * k) (rowA 32 (outV t k)).toList ++ Lib.byteCells (beL (t.nth k) 4)).length) = j := by simp [hbl, rowA_size]; omega
        rw [e, Array.getElem?_toList, rowA_get _ _ _ hj]
        unfold outV; rw [if_neg h1, if_neg (by omega)]
theorem outV_one (t : St) (k : Nat) : (rowA 32 (outV t k)).all (·.oneCell') = true := by
  rw [Array.all_eq_true]; intro i h; simp only [rowA, Array.getElem_ofFn, outV]; rfl
theorem sumA_one (s : ByteArray) : (sumA s).all (·.oneCell') = true := by
  rw [Array.all_eq_true]; intro i h; simp only [sumA, rowA, Array.getElem_ofFn]; rfl
theorem zero32 (t : St) (w : World) : (zeroValue 163).run Tryz.prog w = .ok (.agg (rowA 32 (outV t 0))) w := by rw [outV_zero]; kernel_rfl
theorem info32 : (Tryz.prog.info? 163).map (·.size) = some 32 := by kernel_rfl

theorem mem_blocks {p x : ByteArray} (h : x ∈ blocksN p) : x.size = 64 := by
  unfold blocksN blocksTo at h
  obtain ⟨i, hi, rfl⟩ := List.mem_map.1 h
  have := List.mem_range.1 hi
  exact blk_size _ _ (by omega)
theorem nth_lt {t : St} (h : t.Ok) (i : Nat) : t.nth i < 4294967296 := by
  unfold St.nth
  split
  · exact h.a
  · exact h.b
  · exact h.c
  · exact h.d
  · exact h.e
  · exact h.f
  · exact h.g
  · exact h.h
  · decide
theorem info1 : (Tryz.prog.info? 5).map (·.size) = some 1 := by kernel_rfl
theorem padS_le (s : ByteArray) : (padS s).size ≤ s.size + 72 := by rw [padS_size]; unfold padK; omega
theorem sum_world (w w1 w2 W0 : World) (s : ByteArray) (t : St) (hB1 : Below ((w.alloc (.cells #[.string s] 176)).alloc (.cells (rowA 32 (outV t 0)) 163)).heap.size ((w.alloc (.cells #[.string s] 176)).alloc (.cells (rowA 32 (outV t 0)) 163)) w1) (hB2 : Below w1.heap.size w1 w2)
    (hW0 : (((w2.alloc (.cells (rowA 8 (wordsF startL 0)) 193)).alloc (.cells (rowA 64 (wordsF keyL 0)) 195)).setRow w2.heap.size initS.cells).setRow (w2.heap.size + 1) (rowA 64 (wordsF keyL 64)) = W0) :
    RowAt W0 w.heap.size 176 #[.string s] ∧ RowAt W0 (w.heap.size + 1) 163 (rowA 32 (outV t 0)) ∧ RowAt W0 w2.heap.size 193 initS.cells ∧ RowAt W0 (w2.heap.size + 1) 195 (rowA 64 (wordsF keyL 64)) ∧ Below w.heap.size w W0 ∧ w.heap.size + 2 ≤ w2.heap.size := by
  have h1 := hB1.size
  have h2 := hB2.size
  simp only [World.size_alloc] at h1
  have hc := below_cat hB2 hB1
  have r0 : RowAt w2 w.heap.size 176 #[.string s] := ((RowAt.new w #[.string s] 176).alloc (.cells (rowA 32 (outV t 0)) 163)).below hc (by simp; omega)
  have r1 : RowAt w2 (w.heap.size + 1) 163 (rowA 32 (outV t 0)) := by
    have := RowAt.new (w.alloc (.cells #[.string s] 176)) (rowA 32 (outV t 0)) 163
    rw [World.size_alloc] at this
    exact this.below hc (by simp)
  have r2 := RowAt.new w2 (rowA 8 (wordsF startL 0)) 193
  have r3 := RowAt.new (w2.alloc (.cells (rowA 8 (wordsF startL 0)) 193)) (rowA 64 (wordsF keyL 0)) 195
  rw [World.size_alloc] at r3
  have hB : Below w.heap.size w w2 := below_cat hc (below_al (below_al (Below.refl _ _) _) _)
  rw [← hW0]
  refine ⟨?_, ?_, ?_, ?_, ?_, by omega⟩
  · exact (((r0.alloc _).alloc _).setRowOther _ _ (by omega)).setRowOther _ _ (by omega)
  · exact (((r1.alloc _).alloc _).setRowOther _ _ (by omega)).setRowOther _ _ (by omega)
  · exact ((r2.alloc _).setRow _).setRowOther _ _ (by omega)
  · exact (r3.setRowOther _ _ (by omega)).setRow _
  · exact below_setRow (below_setRow (below_al (below_al hB _) _) (by omega) _) (by omega) _

set_option maxRecDepth 100000 in
set_option maxHeartbeats 4000000 in
theorem hash_sum (s : ByteArray) (hs : s.size ≤ 140737488351232) (w : World) : Calls Tryz.prog 169 #[.agg #[.string s]] w fun e w' => e = .returned (.agg (sumA s)) ∧ Below w.heap.size w w' := by
  obtain ⟨t, ht⟩ : ∃ t, t = lastS s := ⟨_, rfl⟩
  have hz := zero32 t
  have hz8 := zero8
  have hz64 := zero64
  have LS : ∀ w, Calls Tryz.prog 181 #[] w fun e w' => e = .returned (.agg initS.cells) ∧ Below w.heap.size w w' := fun w => by have := start_any w; unfold wordsV at this; rwa [initS_row] at this
  have LK : ∀ w, Calls Tryz.prog 182 #[] w fun e w' => e = .returned (.agg (rowA 64 (wordsF keyL 64))) ∧ Below w.heap.size w w' := fun w => keys_any w
  have LB := fun w => blocks_make s hs w
  replace LS := hid LS
  replace LK := hid LK
  replace LB := hid LB
  replace ht := hid ht
  refine (callsIn_wide (n := 0)).1 ?_
  refine callsIn_of_wp_marks Tryz.func169 rfl trivial ?_
  simp only [Tryz.ntmps169, List.size_toArray, List.length_cons, List.length_nil, Nat.reduceAdd, Nat.reduceSub, Array.replicate_succ, Array.replicate_zero, List.push_toArray, List.append_toArray, List.nil_append, List.cons_append]
  gi_wp2_with (first
    | (refine ⟨trivial, rfl, ?_⟩; gi_at_call 181; refine (callsIn_wide.2 (LS.out _)).mono ?_; rintro e w1 ⟨rfl, hB1⟩)
    | (refine ⟨trivial, rfl, ?_⟩; gi_at_call 182; refine (callsIn_wide.2 (LK.out _)).mono ?_; rintro e w2 ⟨rfl, hB2⟩)
    | (refine wpListIn_store_row rfl 193 _ _ rfl w2.heap.size initS.cells rfl rfl 193 (rowA 8 (wordsF startL 0)) ((RowAt.new _ _ _).alloc _) (by rw [info8]; rfl) (by rw [rowA_size]; rfl) (St.one _) ?_)
    | (refine wpListIn_store_row rfl 195 _ _ rfl (w2.heap.size + 1) (rowA 64 (wordsF keyL 64)) rfl rfl 195 (rowA 64 (wordsF keyL 0)) (RowAt.setRowOther (by have := RowAt.new (w2.alloc (.cells (rowA 8 (wordsF startL 0)) 193)) (rowA 64 (wordsF keyL 0)) 195; rwa [World.size_alloc] at this) _ _ (by omega)) (by rw [info64, rowA_size]) (by rw [rowA_size, rowA_size]) (wordsF_one _ _ _) ?_
       generalize hW0 : World.setRow (World.setRow _ _ _) _ _ = W0
       obtain ⟨m0, m1, m2, m3, hB0, hsz0⟩ := sum_world w w1 w2 W0 s t hB1 hB2 hW0
       have q0 : W0.cell? ⟨w.heap.size, 0, none⟩ = some (.string s) := m0.cell rfl
       clear hW0 hB1 hB2
       obtain ⟨S0, hS0⟩ : ∃ S0, S0 = w2.heap.size := ⟨_, rfl⟩
       rw [← hS0] at m2 m3 hsz0 ⊢
       clear hS0 hz8 hz64
       clear w1 w2
       replace m0 := hid m0
       replace m1 := hid m1
       replace m2 := hid m2
       replace m3 := hid m3
       replace hB0 := hid hB0)
    | (refine ⟨trivial, rfl, ?_⟩; gi_at_call 183; refine (callsIn_wide.2 (LB.out _)).mono ?_; rintro e W1 ⟨rfl, hbx, hB1⟩
       replace hbx := hid hbx
       replace hB1 := hid hB1))
  have n1 := m1.out.below hB1.out m1.out.lt
  have n2 := m2.out.below hB1.out m2.out.lt
  have n3 := m3.out.below hB1.out m3.out.lt
  have nB := below_cat hB1.out hB0.out
  have hS0 : S0 + 1 < W0.heap.size := m3.out.lt
  have hsz01 := hB1.out.size
  have hw1 : w.heap.size + 1 < W0.heap.size := m1.out.lt
  refine wp_iter_put (gf := 198) (lb := #[.pointer (some ⟨W0.heap.size, 0, none⟩)]) rfl (enters_of Tryz.func198 (by kernel_rfl) rfl) (blocks_on (padS s) (by have := padS_le s; omega) (padS_mod s) W0.heap.size W1 hbx.out)
    (fun _ h => h.elim) (fun k hk => by subst hk; exact hbx.out.lt) (fun _ => rfl) (fun x => [(5, .string x)])
    (fun pre X => RowAt X (w.heap.size + 1) 163 (rowA 32 (outV t 0)) ∧ RowAt X S0 193 (compAll initS pre).cells ∧ RowAt X (S0 + 1) 195 (rowA 64 (wordsF keyL 64)) ∧ Below w.heap.size w X)
    (fun _ _ _ => False) ?hI ?hIx ⟨n1, n2, n3, nB⟩ ?assign ?body ?done ?stop
  case hI =>
    rintro pre X Y ⟨h1, h2, h3, h4⟩ hk
    have hT : ∀ k, (False ∨ twoOf W1.heap.size k) → W0.heap.size ≤ k := by rintro k (h | h | h); exact h.elim; all_goals omega
    exact ⟨hk.row h1 (fun x => by have := hT _ x; omega), hk.row h2 (fun x => by have := hT _ x; omega), hk.row h3 (fun x => by have := hT _ x; omega), below_kept h4 hk (Nat.le_refl _) (fun k x => by have := hT _ x; omega)⟩
  case hIx => exact fun _ _ _ _ h => h.elim
  case assign =>
    intro l x W K hK
    gi_wp2
    simpa [encB, putAll] using hK
  case body =>
    rintro pre x post X hx hXs _ ⟨h1, h2, h3, h4⟩
    have hx64 : x.size = 64 := mem_blocks (by rw [hx]; simp)
    have hok := compAll_ok initS initS_ok pre
    have LN := next_any (compAll initS pre) hok (S0 + 1) x hx64 X h3
    obtain ⟨c, hc⟩ : ∃ c, c = compAll initS pre := ⟨_, rfl⟩
    have hcn : comp c x.data.toList = compAll initS (pre ++ [x]) := by rw [hc, compAll_snoc]
    rw [← hc] at LN h2
    obtain ⟨d, hd⟩ : ∃ d, d = comp c x.data.toList := ⟨_, rfl⟩
    rw [← hd] at LN hcn
    have g2 : X.heap[S0]? = some (.cells c.cells 193 (0, 0)) := h2
    replace g2 := hid g2
    replace hcn := hid hcn
    replace LN := hid LN
    clear hx hok hx64 hc hd
    simp only [putAll, encB, fold1, List.foldl_cons, List.foldl_nil, List.setIfInBounds_toArray, List.set_cons_zero, List.set_cons_succ]
    gi_wp2_with (first
      | (refine wpListIn_load_row rfl 193 _ rfl S0 rfl 193 c.cells (0, 0) _ g2.out Tryz.underlying193 rfl (by rw [info8]; rfl) ?_)
      | (refine ⟨trivial, rfl, ?_⟩; gi_at_call 184; with_reducible refine (CallsIn.inRound _ (callsIn_wide.2 LN.out)).mono ?_; rintro e Y ⟨rfl, hBY⟩
         have k1 := h1.below hBY h1.lt; have k2 := h2.below hBY h2.lt; have k3 := h3.below hBY h3.lt; have k4 := below_cat hBY h4
         have hkp := Kept.of_below (S := fun k => ¬ (twoOf W1.heap.size k ∨ k = W0.heap.size)) hBY
         have g3 : Hid (Y.heap[S0]? = some (.cells c.cells 193 (0, 0))) := k2
         clear hBY LN g2)
      | (refine wpListIn_store_row rfl 193 _ _ rfl S0 d.cells rfl rfl 193 c.cells g3.out (by rw [info8]; rfl) rfl (St.one _) ?_))
    exact ⟨hkp.setRow _ (by simp [twoOf]; omega) _, k1.setRowOther _ _ (by omega), by rw [← hcn.out]; exact k2.setRow _, k3.setRowOther _ _ (by omega), below_setRow k4 (by omega) _⟩
  case stop => exact fun _ _ _ _ _ _ _ h => h.elim
  case done =>
    rintro X hX ⟨h1, h2, h3, h4⟩ hd
    have ht2 : compAll initS (blocksN (padS s)) = t := by rw [ht.out]; rfl
    have hok : t.Ok := by rw [← ht2]; exact compAll_ok _ initS_ok _
    rw [ht2] at h2
    have g2 : X.heap[S0]? = some (.cells t.cells 193 (0, 0)) := h2
    have hwX : w.heap.size + 1 < X.heap.size := h1.lt
    have hSX : W1.heap.size < X.heap.size := by omega
    replace g2 := hid g2
    replace h1 := hid h1
    replace h3 := hid h3
    replace h4 := hid h4
    replace hd := hid hd
    replace n1 := hid n1
    replace n2 := hid n2
    replace n3 := hid n3
    replace nB := hid nB
    replace hok := hid hok
    clear h2 ht2
    gi_wp2_with (refine wpListIn_load_row rfl 193 _ rfl S0 rfl 193 t.cells (0, 0) _ (RowAt.alloc (w := X) g2.out _) Tryz.underlying193 rfl (by rw [info8]; rfl) ?_)
    obtain ⟨O, hO⟩ : ∃ O, O = X.heap.size := ⟨_, rfl⟩
    have k0 : RowAt (X.alloc (.cells (rowA 32 (outV t 0)) 163)) O 163 (rowA 32 (outV t 0)) := by rw [hO]; exact RowAt.new _ _ _
    have k1 := h1.out.alloc (.cells (rowA 32 (outV t 0)) 163)
    have k4 := below_al h4.out (.cells (rowA 32 (outV t 0)) 163)
    have kd : (X.alloc (.cells (rowA 32 (outV t 0)) 163)).heap[W1.heap.size]? = some (.deferred (some [])) := (Below.heap_alloc _ _ _ hSX).trans hd.out
    rw [← hO] at hwX hSX ⊢
    obtain ⟨X1, hX1⟩ : ∃ X1, X1 = X.alloc (.cells (rowA 32 (outV t 0)) 163) := ⟨_, rfl⟩
    rw [← hX1] at k0 k1 k4 kd ⊢
    clear hX1 hO h1 h3 h4 hd hX
    clear g2
    clear X
    gi_loopw [19] (fun v wr => ∃ i : Nat, i ≤ 8 ∧ v = .int .i64 (i : Nat) ∧ Hid (RowAt wr O 163 (rowA 32 (outV t i))) ∧ Hid (RowAt wr (w.heap.size + 1) 163 (rowA 32 (outV t 0))) ∧ Hid (Below w.heap.size w wr) ∧ Hid (wr.heap[W1.heap.size]? = some (.deferred (some [])))) (fun v _ => 8 - (intOf v).toNat)
    case atStart => exact ⟨0, by omega, rfl, k0, k1, k4, kd⟩
    case round =>
      clear k0 k1 k4 kd
      obtain ⟨i, hi, rfl, k0, k1, k4, kd⟩ := hrel
      by_cases h8 : i = 8
      · subst h8
        have g0 : wr.heap[O]? = some (.cells (rowA 32 (outV t 8)) 163 (0, 0)) := k0.out
        have g1 : wr.heap[w.heap.size + 1]? = some (.cells (rowA 32 (outV t 0)) 163 (0, 0)) := k1.out
        replace g0 := hid g0
        replace g1 := hid g1
        gi_wp2_with (first
          | (refine wpListIn_load_row rfl 163 _ rfl O rfl 163 (rowA 32 (outV t 8)) (0, 0) _ g0.out Tryz.underlying163 rfl (by rw [info32, rowA_size]) ?_)
          | (refine wpListIn_store_row rfl 163 _ _ rfl (w.heap.size + 1) (rowA 32 (outV t 8)) rfl rfl 163 (rowA 32 (outV t 0)) g1.out (by rw [info32, rowA_size]) (by rw [rowA_size, rowA_size]) (outV_one _ _) ?_))
        have r1 := k1.out.setRow (rowA 32 (outV t 8))
        have hb1 := below_setRow k4.out (show w.heap.size ≤ w.heap.size + 1 by omega) (rowA 32 (outV t 8))
        have hd1 := (setRow_other wr (w.heap.size + 1) W1.heap.size (rowA 32 (outV t 8)) (by omega)).trans kd.out
        obtain ⟨Y, hY⟩ : ∃ Y, Y = wr.setRow (w.heap.size + 1) (rowA 32 (outV t 8)) := ⟨_, rfl⟩
        rw [← hY] at r1 hb1 hd1 ⊢
        have r2 : RowAt (Y.putObj W1.heap.size (.deferred none)) (w.heap.size + 1) 163 (rowA 32 (outV t 8)) := (World.putObj_heap_other (by omega)).trans r1
        refine leave_one hd1 ⟨_, results_cell_row rfl _ _ (w.heap.size + 1) 163 (rowA 32 (outV t 8)) (0, 0) _ rfl r2 Tryz.underlying163 rfl (by rw [info32, rowA_size]), by rw [outV_all, ht.out]; rfl, ?_⟩
        exact below_kept hb1 ((Kept.refl (fun k => k = W1.heap.size) _).putObj _ _ (.inl rfl)) (Nat.le_refl _) (fun k hk => by omega)
      · have hlt8 : i < 8 := by omega
        have hlt8i : (i : Int) < 8 := by omega
        obtain ⟨v, hv⟩ : ∃ v, v = t.nth i := ⟨_, rfl⟩
        have hv32 : v < 4294967296 := by rw [hv]; exact nth_lt hok.out i
        have hv32i : (v : Int) < 4294967296 := by omega
        have hidx : ∀ w, (Instr.index 193 (.agg t.cells) (.int .i64 (i : Int))).run Tryz.prog w = .ok (.int .u32 (v : Nat)) w := fun w => by
          rw [hv]; exact run_index_row 193 151 8 .u32 Tryz.underlying193 Tryz.underlying151 (by kernel_rfl) .i64 t.cells i _ hlt8 (cells_nth t hlt8) w
        have LP := fun w => put_any v 4 w
        rw [show clip8 4 = 4 from rfl] at LP
        obtain ⟨B, hB⟩ : ∃ B : ByteArray, B = beS v 4 := ⟨_, rfl⟩
        rw [← hB] at LP
        have hBs : B.size = 4 := by rw [hB, beS_size]
        have hsp := outV_splice t i hlt8
        rw [← hv, ← hB] at hsp
        obtain ⟨a, ha⟩ : ∃ a, a = 4 * i := ⟨_, rfl⟩
        have hai : 4 * (i : Int) = (a : Int) := by omega
        have hai2 : IntKind.i64.wrap (4 * (i : Int)) = (a : Int) := by rw [IntKind.wrap_i64]; omega
        have ha28 : (a : Int) ≤ 28 := by omega
        have ha32 : (a : Int) ≤ 32 := by omega
        have ha0 : (0 : Int) ≤ (a : Int) := by omega
        rw [← ha] at hsp
        replace hsp := hid hsp
        replace LP := hid LP
        replace hv := hid hv
        replace hB := hid hB
        replace hBs := hid hBs
        replace ha := hid ha
        gi_wp2
        refine wpIn_region_last (by kernel_rfl) (by kernel_rfl) (by kernel_rfl) 6 _ rfl rfl ?_
        simp only [muted, mute]
        repeat (go_big_quiet_step (first | (go_at_call 180; with_reducible refine Sub.call _ (LP.out _))))
        refine wpQuiet_nil ?_
        intro q
        have y0 := k0.out.below q.h k0.out.lt
        have y1 := k1.out.below q.h k1.out.lt
        have y4 := below_cat q.h k4.out
        have yd : q.x.heap[W1.heap.size]? = some (.deferred (some [])) := (q.h.block _ (Array.getElem?_eq_some_iff.1 kd.out).1).trans kd.out
        obtain ⟨Y, hY⟩ : ∃ Y, Y = q.x := ⟨_, rfl⟩
        rw [← hY] at y0 y1 y4 yd ⊢
        clear hY q k0 k1 k4 kd
        refine Lib.wp_copy_run Y _ _ _ _ rfl _ _ rfl rfl (Lib.run_copy_row_string Y 83 9 _ 5 O a (32 - a) (32 - a) B (rowA 32 (outV t i)) 163 Tryz.underlying83 info1 y0 (by have := hBs.out; omega) (by rw [rowA_size]; have := hBs.out; omega)) ?_
        rw [hsp.out]
        have z0 := y0.setRow (rowA 32 (outV t (i + 1)))
        have z1 := y1.setRowOther O (rowA 32 (outV t (i + 1))) (by omega)
        have z4 := below_setRow y4 (show w.heap.size ≤ O by omega) (rowA 32 (outV t (i + 1)))
        have zd := (setRow_other Y O W1.heap.size (rowA 32 (outV t (i + 1))) (by omega)).trans yd
        obtain ⟨Z, hZ⟩ : ∃ Z, Z = Y.setRow O (rowA 32 (outV t (i + 1))) := ⟨_, rfl⟩
        rw [← hZ] at z0 z1 z4 zd ⊢
        clear hZ y0 y1 y4 yd hidx
        replace z0 := hid z0
        replace z1 := hid z1
        replace z4 := hid z4
        replace zd := hid zd
        gi_wp2
        go_roundw
        case rel => exact ⟨i + 1, by omega, by go_num, z0, z1, z4, zd⟩
        case measure => simp [intOf]; omega
end
section
open Go Go.RowKit
set_option linter.unusedSimpArgs false

def sumL (s : ByteArray) : List UInt8 := (List.range 32).map (shaByte (lastS s))
def sumS (s : ByteArray) : ByteArray := ⟨(sumL s).toArray⟩
theorem sumS_size (s : ByteArray) : (sumS s).size = 32 := by simp [sumS, sumL, ByteArray.size]
theorem infoH : (Tryz.prog.info? 176).map (·.size) = some 1 := by kernel_rfl
theorem new_any (w : World) : Calls Tryz.prog 167 #[] w fun e w' => e = .returned (.agg #[.string ⟨#[]⟩]) ∧ Below w.heap.size w w' := by
  go_enter Tryz.func167, Tryz.ntmps167
  go_wp2
  refine bodyPost_ret (results_cell_row rfl _ _ w.heap.size 176 #[.string ⟨#[]⟩] (0, 0) _ rfl (RowAt.new _ _ _) Tryz.underlying176 rfl (by rw [infoH]; rfl)) rfl ⟨rfl, below_al (Below.refl _ _) _⟩
theorem add_any (s t : ByteArray) (hs : s.size ≤ 140737488351232) (ht : t.size ≤ 140737488351232) (w : World) : Calls Tryz.prog 168 #[.agg #[.string s], .string t] w fun e w' => e = .returned (.agg #[.string (s ++ t)]) ∧ Below w.heap.size w w' := by
  go_enter Tryz.func168, Tryz.ntmps168
  go_wp2
  have r : RowAt ((w.alloc (.cells #[.string s] 176)).alloc (.cells #[.string (s ++ t)] 176)) (w.heap.size + 1) 176 #[.string (s ++ t)] := by
    have := RowAt.new (w.alloc (.cells #[.string s] 176)) #[.string (s ++ t)] 176
    rwa [World.size_alloc] at this
  refine bodyPost_ret (results_cell_row rfl _ _ (w.heap.size + 1) 176 #[.string (s ++ t)] (0, 0) _ rfl r Tryz.underlying176 rfl (by rw [infoH]; rfl)) rfl ⟨rfl, below_al (below_al (Below.refl _ _) _) _⟩
/-- Texts, one behind the other. -/
def joinS (xs : List ByteArray) : ByteArray := ⟨(Lib.join (xs.map (·.data.toList)) []).toArray⟩
theorem joinS_size (xs : List ByteArray) : (Lib.join (xs.map (·.data.toList)) []).length = (joinS xs).size := by
  show _ = (Lib.join (xs.map (·.data.toList)) []).toArray.size
  rw [List.size_toArray]
/-- A slice of texts, none among them. -/
def StrsAt (w : World) (a : Option Addr) (n c : Nat) (xs : List ByteArray) : Prop :=
  (n = 0 ∧ xs = []) ∨ (∃ bk o, a = some ⟨bk, o, none⟩ ∧ n = xs.length ∧ xs.length ≤ c ∧ bk < w.heap.size ∧ ∀ (j : Nat) x, xs[j]? = some x → w.cell? ⟨bk, o + j, none⟩ = some (.string x))
theorem StrsAt.below {w w' : World} {a : Option Addr} {n c : Nat} {xs : List ByteArray} (h : StrsAt w a n c xs) (hb : Below w.heap.size w w') : StrsAt w' a n c xs := by
  rcases h with h | ⟨bk, o, rfl, hn, hc, hbk, hx⟩
  · exact .inl h
  · exact .inr ⟨bk, o, rfl, hn, hc, Nat.lt_of_lt_of_le hbk hb.size, fun j x hj => (hb.cell (p := ⟨bk, o + j, none⟩) hbk).trans (hx j x hj)⟩
theorem join_any (a : Option Addr) (n c : Nat) (xs : List ByteArray) (w : World) (h : StrsAt w a n c xs) (hN : xs.length ≤ 1000000) (hs : (joinS xs).size ≤ 140737488351232) :
    Calls Tryz.prog 47 #[.slice a n c, .string ⟨#[]⟩] w fun e w' => e = .returned (.string (joinS xs)) ∧ Below w.heap.size w w' := by
  rcases h with ⟨rfl, rfl⟩ | ⟨bk, o, rfl, rfl, hc, hbk, hx⟩
  · refine (shj_strings_Join_none a c ⟨#[]⟩ w).mono ?_
    rintro e w' ⟨rfl, rfl⟩
    exact ⟨rfl, Below.refl _ _⟩
  · refine (shj_strings_Join bk o c xs ⟨#[]⟩ w hx hbk (by omega) hc (by have := joinS_size xs; show (Lib.join (xs.map (·.data.toList)) []).length ≤ _; omega)).mono ?_
    rintro e w' ⟨rfl, hB⟩
    exact ⟨rfl, hB⟩
set_option maxRecDepth 100000 in
set_option maxHeartbeats 1000000 in
theorem sum_any (a : Option Addr) (n c : Nat) (xs : List ByteArray) (w : World) (h : StrsAt w a n c xs) (hN : xs.length ≤ 1000000) (hs : (joinS xs).size ≤ 140737488351232) :
    Calls Tryz.prog 156 #[.slice a n c] w fun e w' => e = .returned (.agg (sumA (joinS xs))) ∧ Below w.heap.size w w' := by
  obtain ⟨t, ht⟩ : ∃ t, t = lastS ⟨#[]⟩ := ⟨_, rfl⟩
  have hz := zero32 t
  have LN := fun w => new_any w
  have LJ := fun w h => join_any a n c xs w h hN hs
  obtain ⟨J, hJ⟩ : ∃ J, J = joinS xs := ⟨_, rfl⟩
  rw [← hJ] at LJ hs ⊢
  have LA := fun w => add_any ⟨#[]⟩ J (by decide) hs w
  have hJ0 : (⟨#[]⟩ : ByteArray) ++ J = J := ByteArray.ext (by simp)
  rw [hJ0] at LA
  clear hJ0
  have LS := fun w => hash_sum J hs w
  replace LN := hid LN
  replace LJ := hid LJ
  replace LA := hid LA
  replace LS := hid LS
  replace h := hid h
  clear hJ ht hs
  go_enter Tryz.func156, Tryz.ntmps156
  go_wp2_with (first
    | (go_at_call 167; with_reducible refine (LN.out _).mono ?_; rintro e w1 ⟨rfl, hB1⟩)
    | (go_at_call 47; with_reducible refine (LJ.out _ (StrsAt.below h.out (below_cat hB1 (below_al (Below.refl _ _) _)))).mono ?_; rintro e w2 ⟨rfl, hB2⟩)
    | (go_at_call 168; with_reducible refine (LA.out _).mono ?_; rintro e w3 ⟨rfl, hB3⟩)
    | (go_at_call 169; with_reducible refine (LS.out _).mono ?_; rintro e w4 ⟨rfl, hB4⟩
       have hB := below_cat hB4 (below_cat hB3 (below_cat hB2 hB1))
       have r := (RowAt.new w (rowA 32 (outV t 0)) 163).below hB (by simp)
       have hB' := below_cat hB (below_al (Below.refl _ _) _)
       clear hB1 hB2 hB3 hB4 hB
       clear w1 w2 w3
       replace hB' := hid hB'
       replace r := hid r)
    | (refine wpList_store_row rfl 163 _ _ rfl w.heap.size (sumA J) rfl rfl 163 (rowA 32 (outV t 0)) r.out (by rw [info32]; simp [sumA, rowA_size]) (by simp [sumA, rowA_size]) (sumA_one _) ?_))
  refine bodyPost_ret (results_cell_row rfl _ _ w.heap.size 163 (sumA J) (0, 0) _ rfl (r.out.setRow _) Tryz.underlying163 rfl (by rw [info32]; simp [sumA, rowA_size])) rfl ⟨rfl, below_setRow hB'.out (Nat.le_refl _) _⟩
set_option maxRecDepth 100000 in
set_option maxHeartbeats 1000000 in
theorem text_any (a : Option Addr) (n c : Nat) (xs : List ByteArray) (w : World) (h : StrsAt w a n c xs) (hN : xs.length ≤ 1000000) (hs : (joinS xs).size ≤ 140737488351232) :
    Calls Tryz.prog 137 #[.slice a n c] w fun e w' => e = .returned (.string (sumS (joinS xs))) ∧ Below w.heap.size w w' := by
  obtain ⟨t, ht⟩ : ∃ t, t = lastS ⟨#[]⟩ := ⟨_, rfl⟩
  have hz := zero32 t
  have LS := fun w h => sum_any a n c xs w h hN hs
  obtain ⟨J, hJ⟩ : ∃ J, J = joinS xs := ⟨_, rfl⟩
  rw [← hJ] at LS hs ⊢
  replace LS := hid LS
  replace h := hid h
  clear hJ ht hs
  go_enter Tryz.func137, Tryz.ntmps137
  go_wp2_with (first
    | (go_at_call 156; with_reducible refine (LS.out _ h.out).mono ?_; rintro e w1 ⟨rfl, hB1⟩)
    | (refine wpList_store_row rfl 163 _ _ rfl w1.heap.size (sumA J) rfl rfl 163 (rowA 32 (outV t 0)) (RowAt.new _ _ _) (by rw [info32]; simp [sumA, rowA_size]) (by simp [sumA, rowA_size]) (sumA_one _) ?_
       have r := (RowAt.new w1 (rowA 32 (outV t 0)) 163).setRow (sumA J)
       have hB := below_setRow (below_al hB1 (.cells (rowA 32 (outV t 0)) 163)) hB1.size (sumA J)
       have hcv := conv_row (P := Tryz.prog) 83 9 5 Tryz.underlying83 Tryz.underlying5 Tryz.underlying9 32 r
       replace hB := hid hB))
  go_ret
  exact ⟨rfl, hB.out⟩
end
section
open Go Go.RowKit
set_option linter.unusedSimpArgs false

def abc : List ByteArray := [⟨#[97]⟩, ⟨#[98, 99]⟩]
set_option maxRecDepth 1000000 in
theorem abc_sum : Lib.hasPrefix (sumS (joinS abc)).data.toList [186, 120, 22, 191] = true := by kernel_rfl
theorem strsAt_lit (w : World) (xs : List ByteArray) : StrsAt (w.alloc (.cells (xs.map Value.string).toArray 9)) (some ⟨w.heap.size, 0, none⟩) xs.length xs.length xs :=
  .inr ⟨w.heap.size, 0, rfl, rfl, Nat.le_refl _, by simp, fun j x hj => by
    rw [Nat.zero_add]
    refine (RowAt.new w _ 9).cell ?_
    rw [List.getElem?_toArray, List.getElem?_map, hj]; rfl⟩
theorem octAwake_any (w : World) : Calls Tryz.prog 155 #[] w fun e w' => e = .returned (.bool true) ∧ Below w.heap.size w w' := by
  go_enter Tryz.func155, Tryz.ntmps155
  go_wp2_with (go_at_call 166; with_reducible refine (awake_any _).mono ?_; rintro e w1 ⟨rfl, hB⟩)
  go_ret
  exact ⟨rfl, hB⟩
set_option maxRecDepth 100000 in
set_option maxHeartbeats 1000000 in
theorem shaAwake_any (w : World) : Calls Tryz.prog 135 #[] w fun e w' => e = .returned (.bool true) ∧ Below w.heap.size w w' := by
  obtain ⟨T, hT⟩ : ∃ T, T = sumS (joinS abc) := ⟨_, rfl⟩
  have LT := fun w => text_any (some ⟨w.heap.size, 0, none⟩) 2 2 abc (w.alloc (.cells #[.string ⟨#[97]⟩, .string ⟨#[98, 99]⟩] 9)) (strsAt_lit w abc) (by decide) (by rw [← joinS_size]; decide)
  have LN := fun w => text_any none 0 0 [] w (.inl ⟨rfl, rfl⟩) (by decide) (by rw [← joinS_size]; decide)
  have LP := fun w => shp_strings_HasPrefix T ⟨#[186, 120, 22, 191]⟩ w
  have hp := abc_sum
  rw [← hT] at hp LT
  rw [show (⟨#[186, 120, 22, 191]⟩ : ByteArray).data.toList = [186, 120, 22, 191] from rfl, hp] at LP
  obtain ⟨E, hE⟩ : ∃ E, E = sumS (joinS []) := ⟨_, rfl⟩
  have hEs : (E.size : Int) = 32 := by rw [hE, sumS_size]; rfl
  rw [← hE] at LN
  replace LT := hid LT
  replace LN := hid LN
  replace LP := hid LP
  clear hT hE hp
  go_enter Tryz.func135, Tryz.ntmps135
  go_wp2_with (first
    | (go_at_call 155; with_reducible refine (octAwake_any _).mono ?_; rintro e w1 ⟨rfl, hB1⟩)
    | (go_at_call 137; with_reducible refine (LT.out _).mono ?_; rintro e w2 ⟨rfl, hB2⟩)
    | (go_at_call 115; with_reducible refine (LP.out _).mono ?_; rintro e w3 ⟨rfl, rfl⟩)
    | (go_at_call 137; with_reducible refine (LN.out _).mono ?_; rintro e w4 ⟨rfl, hB4⟩))
  go_ret
  exact ⟨rfl, below_cat hB4 (below_cat hB2 (below_al hB1 _))⟩

/-- A text's first n blocks, one behind the other. -/
theorem blk_extract (p : ByteArray) (n : Nat) : p.extract 0 (64 * n) ++ blk p n = p.extract 0 (64 * (n + 1)) := by
  unfold blk
  have := ByteArray.extract_append_extract (a := p) (i := 0) (j := 64 * n) (k := 64 * n + 64)
  rw [this]
  congr 1
  omega
theorem blocks_split {p : ByteArray} {n : Nat} {pre post : List ByteArray} {x : ByteArray} (h : blocksTo p n = pre ++ x :: post) : pre.length < n ∧ x = blk p pre.length := by
  have hl := congrArg List.length h
  simp [blocksTo] at hl
  refine ⟨by omega, ?_⟩
  have h2 : (blocksTo p n)[pre.length]? = some x := by rw [h]; simp
  unfold blocksTo at h2
  rw [List.getElem?_map, List.getElem?_range (by omega)] at h2
  simpa using h2.symm
theorem blocksN_len (p : ByteArray) : (blocksN p).length = p.size / 64 := by simp [blocksN, blocksTo]
theorem extract_all {p : ByteArray} (h : p.size % 64 = 0) : p.extract 0 (64 * (p.size / 64)) = p := by
  have : 64 * (p.size / 64) = p.size := by omega
  rw [this]; exact ByteArray.extract_zero_size
theorem padS_prefix (s : ByteArray) : Lib.hasPrefix (padS s).data.toList s.data.toList = true := by
  unfold padS
  simp [Lib.hasPrefix]
theorem padS_mark (s : ByteArray) : ∃ h : s.size < (padS s).size, (padS s)[s.size].toNat = 128 := by
  have h1 : s.size < (padS s).size := by rw [padS_size]; omega
  refine ⟨h1, ?_⟩
  have : (padS s).data.toList[s.size]? = some 128 := by
    unfold padS
    simp
  have h2 : (padS s)[s.size] = 128 := by
    have h3 : (padS s).data.toList[s.size]? = some (padS s)[s.size] := by
      rw [List.getElem?_eq_getElem (by simpa using h1)]; rfl
    rw [this] at h3
    exact (Option.some.inj h3).symm
  rw [h2]; rfl
end
end Go.Proofs.YtdjlpmelmhhooaaGreatDoor
