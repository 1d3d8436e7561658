/- Blocks: the walk, and its iterator's contract. -/
import Derived.Test.YtbbjoahloghpkaaDoorIter2
import Derived.Test.YtbbjoahloghpkaaDoorLast
import Derived.Test.YtbbjoahloghpkaaDoorOctP
import Derived.Test.YtbbjoahloghpkaaDoorRepS
import Derived.OwnWalkIn
import Derived.TacticsInMore
import Derived.LoopNIn
import Derived.LoopIn
import Derived.Shelf.Abstract
import Derived.Shelf.RegionOpen
namespace Go.Proofs.YtbbjoahloghpkaaDoor
open Go Go.RowKit
set_option linter.unusedSimpArgs false
attribute [local go_sem] Oper.semAt_some

/-- How many noughts. -/
def padK (n : Nat) : Nat := (119 - n % 64) % 64
def padS (s : ByteArray) : ByteArray := s ++ ((⟨#[128]⟩ : ByteArray) ++ ⟨(Lib.repeatL [0] (padK s.size)).toArray⟩ ++ beS (s.size * 8) 8)
theorem repeatL_len (l : List UInt8) (k : Nat) : (Lib.repeatL l k).length = l.length * k := by
  induction k with
  | zero => simp [Lib.repeatL]
  | succ k ih => simp only [Lib.repeatL, List.length_append, ih, Nat.mul_succ]; omega
theorem padS_size (s : ByteArray) : (padS s).size = s.size + 9 + padK s.size := by
  unfold padS
  simp only [ByteArray.size_append, beS_size]
  have : (⟨(Lib.repeatL [0] (padK s.size)).toArray⟩ : ByteArray).size = padK s.size := by
    show (Lib.repeatL [0] (padK s.size)).toArray.size = _
    rw [List.size_toArray, repeatL_len]; simp
  rw [this]
  have h1 : (⟨#[128]⟩ : ByteArray).size = 1 := rfl
  omega
theorem padS_mod (s : ByteArray) : (padS s).size % 64 = 0 := by rw [padS_size]; unfold padK; omega
def blk (p : ByteArray) (i : Nat) : ByteArray := p.extract (64 * i) (64 * i + 64)
def blocksTo (p : ByteArray) (n : Nat) : List ByteArray := (List.range n).map (blk p)
def blocksN (p : ByteArray) : List ByteArray := blocksTo p (p.size / 64)
theorem blocksTo_succ (p : ByteArray) (n : Nat) : blocksTo p (n + 1) = blocksTo p n ++ [blk p n] := by
  unfold blocksTo; rw [List.range_succ, List.map_append]; rfl
theorem blocksTo_split (p : ByteArray) (n m : Nat) (h : n < m) : ∃ post, blocksTo p m = blocksTo p n ++ blk p n :: post := by
  obtain ⟨k, rfl⟩ : ∃ k, m = n + 1 + k := ⟨m - (n + 1), by omega⟩
  induction k with
  | zero => exact ⟨[], by rw [Nat.add_zero, blocksTo_succ]⟩
  | succ k ih => obtain ⟨q, hq⟩ := ih (by omega); exact ⟨q ++ [blk p (n + 1 + k)], by rw [← Nat.add_assoc, blocksTo_succ, hq, List.append_assoc]; rfl⟩
theorem blk_size (p : ByteArray) (i : Nat) (h : 64 * i + 64 ≤ p.size) : (blk p i).size = 64 := by unfold blk; rw [ByteArray.size_extract]; omega
def encB (p : ByteArray) : Array Value := #[.string p]

set_option maxRecDepth 1000000 in
set_option maxHeartbeats 1000000 in
theorem blocks_make (s : ByteArray) (hs : s.size ≤ 140737488351232) (w : World) : Calls Tryd.prog 104 #[.string s] w fun e w' =>
    e = .returned (.func (.func 120) #[] #[.pointer (some ⟨w.heap.size, 0, none⟩)]) ∧ RowAt w' w.heap.size 9 #[.string (padS s)] ∧ Below w.heap.size w w' := by
  obtain ⟨k, hk⟩ : ∃ k, k = padK s.size := ⟨_, rfl⟩
  obtain ⟨m, hm⟩ : ∃ m, m = 119 - s.size % 64 := ⟨_, rfl⟩
  have hm2 : IntKind.i64.wrap (119 - (s.size : Int) % 64) = (m : Int) := by rw [IntKind.wrap_i64]; omega
  have hm1 : 119 - (s.size : Int) % 64 = (m : Int) := by omega
  have hk1 : (m : Int) % 64 = (k : Int) := by rw [hk, hm]; unfold padK; omega
  have hk64 : k < 64 := by rw [hk]; unfold padK; omega
  have LR := fun w => repeat_any ⟨#[0]⟩ k w (by omega) (by show 1 * k ≤ _; omega)
  have LP := fun w => put_any (s.size * 8) 8 w
  obtain ⟨N, hN⟩ : ∃ N, N = s.size * 8 := ⟨_, rfl⟩
  have hNi : (s.size : Int) * 8 = (N : Int) := by omega
  have hNi2 : ((s.size * 8 : Nat) : Int) = (N : Int) := by omega
  have h8 : clip8 8 = 8 := rfl
  rw [h8, hNi2, ← hN] at LP
  obtain ⟨R, hR⟩ : ∃ R : ByteArray, R = ⟨(Lib.repeatL (⟨#[0]⟩ : ByteArray).data.toList k).toArray⟩ := ⟨_, rfl⟩
  rw [← hR] at LR
  obtain ⟨B, hB⟩ : ∃ B : ByteArray, B = beS N 8 := ⟨_, rfl⟩
  rw [← hB] at LP
  have hp : s ++ ((⟨#[128]⟩ : ByteArray) ++ R ++ B) = padS s := by unfold padS; rw [hR, hB, hN, ← hk]
  have hRs : R.size ≤ 64 := by
    rw [hR]; show (Lib.repeatL (⟨#[0]⟩ : ByteArray).data.toList k).toArray.size ≤ 64
    rw [List.size_toArray, repeatL_len]; show 1 * k ≤ 64; omega
  have hBs : B.size ≤ 8 := by rw [hB, beS_size]; exact Nat.le_refl _
  replace LR := hid LR
  replace LP := hid LP
  replace hp := hid hp
  have hs0 : (s.size : Int) ≤ 140737488351232 := by omega
  clear hk hm hN hNi2 h8 hR hB
  go_enter Tryd.func104, Tryd.ntmps104
  go_wp2
  obtain ⟨w1, hw1⟩ : ∃ w1, w1 = w.alloc (.cells #[.string s] 9) := ⟨_, rfl⟩
  have hbx : RowAt w1 w.heap.size 9 #[.string s] := by rw [hw1]; exact RowAt.new _ _ _
  have hB1 : Below w.heap.size w w1 := by rw [hw1]; exact below_al (Below.refl _ _) _
  rw [← hw1]
  have e1 : ∀ q : Sub w1, q.x.cell? ⟨w.heap.size, 0, none⟩ = some (.string s) := fun q => q.cell hbx rfl
  clear hw1
  replace hbx := hid hbx
  replace hB1 := hid hB1
  refine wp_region_last (by kernel_rfl) (by kernel_rfl) (by kernel_rfl) 12 _ rfl rfl ?_
  simp only [muted, mute]
  repeat (go_big_quiet_step (first
    | (go_at_call 23; with_reducible refine Sub.call _ (LR.out _))
    | (go_at_call 62; with_reducible refine Sub.call _ (LP.out _))))
  refine wpQuiet_nil ?_
  intro q
  have k1 := hbx.out.below q.h hbx.out.lt
  have kB := below_cat q.h hB1.out
  obtain ⟨Y, hY⟩ : ∃ Y, Y = q.x := ⟨_, rfl⟩
  rw [← hY] at k1 kB ⊢
  clear hY q e1
  have hcf : Y.cell? ⟨w.heap.size, 0, none⟩ = some (.string s) := k1.cell rfl
  have hfr := k1.free 0
  unfold Oper.wp
  simp [go_sem, hcf, hfr]
  rw [hp.out]
  have n1 := k1.set 0 (.string (padS s))
  have nB := kB.setCell (p := ⟨w.heap.size, 0, none⟩) (by simp) (.string (padS s))
  obtain ⟨Z, hZ⟩ : ∃ Z, Z = Y.setCell ⟨w.heap.size, 0, none⟩ (.string (padS s)) := ⟨_, rfl⟩
  rw [← hZ] at n1 nB ⊢
  clear hZ hcf hfr k1 kB
  replace n1 := hid n1
  replace nB := hid nB
  go_wp2
  go_ret
  exact ⟨rfl, n1.out, nB.out⟩

set_option maxRecDepth 1000000 in
set_option maxHeartbeats 4000000 in
theorem blocks_on (p : ByteArray) (hp : p.size ≤ 281474976710656) (h64 : p.size % 64 = 0) (b : Nat) (w : World) (hbox : RowAt w b 9 #[.string p]) :
    IterOn Tryd.prog 120 #[.pointer (some ⟨b, 0, none⟩)] encB (fun _ => False) (fun k => k = b) (blocksN p) w := by
  intro l J Jx W hb hJ hJx hY h0
  have hboxW : RowAt W b 9 #[.string p] := hbox.below hb hbox.lt
  obtain ⟨n, hn⟩ : ∃ n, n = p.size / 64 := ⟨_, rfl⟩
  have hxs : blocksN p = blocksTo p n := by rw [hn]; rfl
  have hpn : p.size = 64 * n := by omega
  rw [hxs] at hY ⊢
  clear hxs hn
  refine callsIn_of_wp Tryd.func120 rfl trivial ?_
  simp only [Tryd.ntmps120, List.size_toArray, List.length_cons, List.length_nil, Nat.reduceAdd, Nat.reduceSub, Array.replicate_succ, Array.replicate_zero, List.push_toArray, List.append_toArray, List.nil_append, List.cons_append]
  have hpi : (p.size : Int) = 64 * (n : Int) := by omega
  have hni : (n : Int) ≤ 4398046511104 := by omega
  replace hpi := hid hpi
  replace hpn := hid hpn
  gi_wp2
  gi_loopw [3] (fun v wr => ∃ i : Nat, v = .int .i64 ((64 * i : Nat) : Int) ∧ i ≤ n ∧ Hid (J (blocksTo p i) wr) ∧ Hid (RowAt wr b 9 #[.string p]) ∧ W.heap.size ≤ wr.heap.size)
    (fun v _ => 64 * n - (intOf v).toNat)
  case atStart => exact ⟨0, rfl, Nat.zero_le _, h0, hboxW, Nat.le_refl _⟩
  case round =>
    obtain ⟨i, rfl, hi, hj, hbx, hsz⟩ := hrel
    have hc : wr.cell? ⟨b, 0, none⟩ = some (.string p) := hbx.out.cell (j := 0) rfl
    obtain ⟨a, ha⟩ : ∃ a, a = 64 * i := ⟨_, rfl⟩
    have hap : (a : Int) ≤ (p.size : Int) := by have := hpi.out; omega
    by_cases hlt : i < n
    · have hd : decide ((a : Int) < (p.size : Int)) = true := by rw [decide_eq_true_iff]; have := hpi.out; omega
      have hd' : decide (a < p.size) = true := by rw [decide_eq_true_iff]; have := hpi.out; omega
      have ha64 : (a : Int) + 64 ≤ (p.size : Int) := by have := hpi.out; omega
      have ha64' : a + 64 ≤ p.size := by have := hpi.out; omega
      obtain ⟨post, hxs⟩ := blocksTo_split p i n hlt
      obtain ⟨fn, tmps, assign, body, hy, hR⟩ := hY (blocksTo p i) (blk p i) post wr hxs hsz hj.out
      have hblk : p.extract a (a + 64) = blk p i := by unfold blk; rw [ha]
      simp only [encB] at hy
      rw [← hblk] at hy
      rw [← ha]
      replace ha := hid ha
      replace hblk := hid hblk
      replace hxs := hid hxs
      gi_wp2
      refine ⟨rfl, hR.mono ?_⟩
      rintro e W2 (⟨rfl, hj2, hk2⟩ | ⟨rfl, hj2, hk2⟩)
      · have hbx2 : RowAt W2 b 9 #[.string p] := hk2.row hbx.out (fun h => h rfl)
        have hsz2 : W.heap.size ≤ W2.heap.size := Nat.le_trans hsz hk2.size
        have hj3 : J (blocksTo p (i + 1)) W2 := by rw [blocksTo_succ]; exact hj2
        replace hj3 := hid hj3
        replace hbx2 := hid hbx2
        clear hj hbx hy hR hk2 hj2
        gi_wp2
        go_roundw
        case rel => exact ⟨i + 1, by have := ha.out; go_num, by omega, hj3, hbx2, hsz2⟩
        case measure => have := ha.out; simp [intOf]; omega
      · gi_wp2
        refine bodyPost_ret (results_none rfl _ _ _) rfl ?_
        exact ⟨⟨_, rfl⟩, .inr ⟨_, _, _, hxs.out, hj2⟩⟩
    · obtain rfl : i = n := by omega
      have hd : decide ((a : Int) < (p.size : Int)) = false := by rw [decide_eq_false_iff_not]; have := hpi.out; omega
      have hd' : decide (a < p.size) = false := by rw [decide_eq_false_iff_not]; have := hpi.out; omega
      rw [← ha]
      replace ha := hid ha
      gi_wp2
      refine bodyPost_end (results_none rfl _ _ _) rfl ?_
      exact ⟨⟨_, rfl⟩, .inl hj.out⟩
end Go.Proofs.YtbbjoahloghpkaaDoor
