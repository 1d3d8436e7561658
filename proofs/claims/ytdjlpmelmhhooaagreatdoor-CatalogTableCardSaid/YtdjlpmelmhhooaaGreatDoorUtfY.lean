/- Code points: the document's One, Runes. -/
import Derived.Test.YtdjlpmelmhhooaaGreatDoorUtfX3
import Derived.Maps.AppendAt
import Derived.OwnWalk
namespace Go.Proofs.YtdjlpmelmhhooaaGreatDoor
section
open Go Go.RowKit
set_option linter.unusedSimpArgs false

theorem byI_at (s : ByteArray) (i : Nat) (h : i < s.size) : byI s.data.toList i = ((s[i]).toNat : Int) := by
  unfold byI
  rw [List.getD_eq_getElem?_getD, List.getElem?_eq_getElem (by simpa using h)]
  rfl
theorem toList_beqU {s t : ByteArray} : (s.toList == t.toList) = decide (s = t) := by
  rw [ByteArray.toList_eq, ByteArray.toList_eq, Bool.eq_iff_iff, beq_iff_eq, decide_eq_true_iff]
  constructor
  · intro h; exact ByteArray.ext (Array.ext' h)
  · rintro rfl; rfl
theorem str_pre (v : Int) (s : ByteArray) (k : Nat) : ((putS v).toList == (s.extract 0 k).toList) = decide (putN v = s.data.toList.take k) := by
  rw [toList_beqU]
  refine decide_eq_decide.2 ⟨fun h => ?_, fun h => ?_⟩
  · have := congrArg (fun b => b.data.toList) h
    simp only [putS_list, Lib.extract_data, List.drop_zero, Nat.sub_zero] at this
    exact this
  · exact ByteArray.ext (Array.ext' (by rw [putS_list, Lib.extract_data, List.drop_zero, Nat.sub_zero]; exact h))

set_option maxRecDepth 10000000 in
set_option maxHeartbeats 4000000 in
theorem one_any (s : ByteArray) (h1 : 1 ≤ s.size) (hs : s.size ≤ 1000) (w : World) : Calls Tryz.prog 104 #[.string s] w fun e w' => e = .returned (.int .i64 (oneN s.data.toList)) ∧ Below w.heap.size w w' := by
  have hlen : s.data.toList.length = s.size := by simp
  have LP := fun v w => refPut_any v w
  replace LP := hid LP
  replace hlen := hid hlen
  go_enter Tryz.func104, Tryz.ntmps104
  go_wp2
  refine wp_loop_rounds 5 ?_
  have b0 := byte_lt s[0]
  have hval1 : valN 1 s.data.toList = ((s[0]).toNat : Int) := by simp only [valN, byI_at s 0 (by omega)]
  have hs1 := str_pre (((s[0]).toNat : Int)) s 1
  rw [← hval1] at hs1
  by_cases t1 : putN (valN 1 s.data.toList) = s.data.toList.take 1
  case pos =>
    rw [decide_eq_true t1] at hs1
    rw [hval1] at hs1
    have hone : Hid (oneN s.data.toList = ((s[0]).toNat : Int)) := hid (by rw [← hval1]; exact oneN_hit (by omega) (by rw [hlen.out]; omega) t1)
    clear t1 hval1
    rw [rounds_succ]
    go_wp2
    refine wp_region_sub (by kernel_rfl) (by kernel_rfl) ?_
    repeat (go_big_quiet_step (first | (go_at_call 105; exact Sub.call _ (LP.out _ _))))
    refine wpQuiet_nil ?_
    intro q1
    have hB1 : Below w.heap.size w q1.x := q1.h
    go_wp2
    go_ret
    exact ⟨ret_int hone.out.symm, hB1⟩
  rw [decide_eq_false t1] at hs1
  rw [hval1] at hs1
  have m1 := hid t1
  clear t1 hval1
  rw [rounds_succ]
  go_wp2
  refine wp_region_sub (by kernel_rfl) (by kernel_rfl) ?_
  repeat (go_big_quiet_step (first | (go_at_call 105; exact Sub.call _ (LP.out _ _))))
  refine wpQuiet_nil ?_
  intro q1
  have hB1 : Below w.heap.size w q1.x := q1.h
  go_wp2
  by_cases g2 : 2 ≤ s.size
  case neg =>
    have hone : Hid (oneN s.data.toList = -1) := by
      refine hid (oneN_none fun k a1 a2 a3 => ?_)
      rw [hlen.out] at a3
      by_cases e1 : k = 1
      · subst e1; exact m1.out
      · omega
    rw [rounds_succ]
    go_wp2
    go_ret
    exact ⟨ret_int hone.out.symm, hB1⟩
  have b1 := byte_lt s[1]
  have u1 : (1 : Int) < (s.size : Int) := by omega
  have hval2 : valN 2 s.data.toList = (((s[0]).toNat : Int) - (192 : Int)) * (64 : Int) + ((s[1]).toNat : Int) - (128 : Int) := by simp only [valN, byI_at s 0 (by omega), byI_at s 1 (by omega)]
  have hs2 := str_pre ((((s[0]).toNat : Int) - (192 : Int)) * (64 : Int) + ((s[1]).toNat : Int) - (128 : Int)) s 2
  rw [← hval2] at hs2
  by_cases t2 : putN (valN 2 s.data.toList) = s.data.toList.take 2
  case pos =>
    rw [decide_eq_true t2] at hs2
    rw [hval2] at hs2
    have hone : Hid (oneN s.data.toList = (((s[0]).toNat : Int) - (192 : Int)) * (64 : Int) + ((s[1]).toNat : Int) - (128 : Int)) := hid (by rw [← hval2]; exact oneN_hit (by omega) (by rw [hlen.out]; omega) t2)
    clear t2 hval2
    rw [rounds_succ]
    go_wp2
    refine wp_region_sub (by kernel_rfl) (by kernel_rfl) ?_
    repeat (first | go_big_quiet_step (fail) | quiet_step (fail))
    refine wpQuiet_nil ?_
    intro p2
    go_wp2
    refine wp_region_sub (by kernel_rfl) (by kernel_rfl) ?_
    repeat (go_big_quiet_step (first | (go_at_call 105; exact Sub.call _ (LP.out _ _))))
    refine wpQuiet_nil ?_
    intro q2
    have hB2 : Below w.heap.size w q2.x := below_cat q2.h (below_cat p2.h hB1)
    go_wp2
    go_ret
    exact ⟨ret_int hone.out.symm, hB2⟩
  rw [decide_eq_false t2] at hs2
  rw [hval2] at hs2
  have m2 := hid t2
  clear t2 hval2
  rw [rounds_succ]
  go_wp2
  refine wp_region_sub (by kernel_rfl) (by kernel_rfl) ?_
  repeat (first | go_big_quiet_step (fail) | quiet_step (fail))
  refine wpQuiet_nil ?_
  intro p2
  go_wp2
  refine wp_region_sub (by kernel_rfl) (by kernel_rfl) ?_
  repeat (go_big_quiet_step (first | (go_at_call 105; exact Sub.call _ (LP.out _ _))))
  refine wpQuiet_nil ?_
  intro q2
  have hB2 : Below w.heap.size w q2.x := below_cat q2.h (below_cat p2.h hB1)
  go_wp2
  by_cases g3 : 3 ≤ s.size
  case neg =>
    have hone : Hid (oneN s.data.toList = -1) := by
      refine hid (oneN_none fun k a1 a2 a3 => ?_)
      rw [hlen.out] at a3
      by_cases e1 : k = 1
      · subst e1; exact m1.out
      by_cases e2 : k = 2
      · subst e2; exact m2.out
      · omega
    rw [rounds_succ]
    go_wp2
    go_ret
    exact ⟨ret_int hone.out.symm, hB2⟩
  have b2 := byte_lt s[2]
  have u2 : (2 : Int) < (s.size : Int) := by omega
  have hval3 : valN 3 s.data.toList = (((s[0]).toNat : Int) - (224 : Int)) * (4096 : Int) + (((s[1]).toNat : Int) - (128 : Int)) * (64 : Int) + ((s[2]).toNat : Int) - (128 : Int) := by simp only [valN, byI_at s 0 (by omega), byI_at s 1 (by omega), byI_at s 2 (by omega)]
  have hs3 := str_pre ((((s[0]).toNat : Int) - (224 : Int)) * (4096 : Int) + (((s[1]).toNat : Int) - (128 : Int)) * (64 : Int) + ((s[2]).toNat : Int) - (128 : Int)) s 3
  rw [← hval3] at hs3
  by_cases t3 : putN (valN 3 s.data.toList) = s.data.toList.take 3
  case pos =>
    rw [decide_eq_true t3] at hs3
    rw [hval3] at hs3
    have hone : Hid (oneN s.data.toList = (((s[0]).toNat : Int) - (224 : Int)) * (4096 : Int) + (((s[1]).toNat : Int) - (128 : Int)) * (64 : Int) + ((s[2]).toNat : Int) - (128 : Int)) := hid (by rw [← hval3]; exact oneN_hit (by omega) (by rw [hlen.out]; omega) t3)
    clear t3 hval3
    rw [rounds_succ]
    go_wp2
    refine wp_region_sub (by kernel_rfl) (by kernel_rfl) ?_
    repeat (first | go_big_quiet_step (fail) | quiet_step (fail))
    refine wpQuiet_nil ?_
    intro p3
    go_wp2
    refine wp_region_sub (by kernel_rfl) (by kernel_rfl) ?_
    repeat (go_big_quiet_step (first | (go_at_call 105; exact Sub.call _ (LP.out _ _))))
    refine wpQuiet_nil ?_
    intro q3
    have hB3 : Below w.heap.size w q3.x := below_cat q3.h (below_cat p3.h hB2)
    go_wp2
    go_ret
    exact ⟨ret_int hone.out.symm, hB3⟩
  rw [decide_eq_false t3] at hs3
  rw [hval3] at hs3
  have m3 := hid t3
  clear t3 hval3
  rw [rounds_succ]
  go_wp2
  refine wp_region_sub (by kernel_rfl) (by kernel_rfl) ?_
  repeat (first | go_big_quiet_step (fail) | quiet_step (fail))
  refine wpQuiet_nil ?_
  intro p3
  go_wp2
  refine wp_region_sub (by kernel_rfl) (by kernel_rfl) ?_
  repeat (go_big_quiet_step (first | (go_at_call 105; exact Sub.call _ (LP.out _ _))))
  refine wpQuiet_nil ?_
  intro q3
  have hB3 : Below w.heap.size w q3.x := below_cat q3.h (below_cat p3.h hB2)
  go_wp2
  by_cases g4 : 4 ≤ s.size
  case neg =>
    have hone : Hid (oneN s.data.toList = -1) := by
      refine hid (oneN_none fun k a1 a2 a3 => ?_)
      rw [hlen.out] at a3
      by_cases e1 : k = 1
      · subst e1; exact m1.out
      by_cases e2 : k = 2
      · subst e2; exact m2.out
      by_cases e3 : k = 3
      · subst e3; exact m3.out
      · omega
    rw [rounds_succ]
    go_wp2
    go_ret
    exact ⟨ret_int hone.out.symm, hB3⟩
  have b3 := byte_lt s[3]
  have u3 : (3 : Int) < (s.size : Int) := by omega
  have hval4 : valN 4 s.data.toList = (((s[0]).toNat : Int) - (240 : Int)) * (262144 : Int) + (((s[1]).toNat : Int) - (128 : Int)) * (4096 : Int) + (((s[2]).toNat : Int) - (128 : Int)) * (64 : Int) + ((s[3]).toNat : Int) - (128 : Int) := by simp only [valN, byI_at s 0 (by omega), byI_at s 1 (by omega), byI_at s 2 (by omega), byI_at s 3 (by omega)]
  have hs4 := str_pre ((((s[0]).toNat : Int) - (240 : Int)) * (262144 : Int) + (((s[1]).toNat : Int) - (128 : Int)) * (4096 : Int) + (((s[2]).toNat : Int) - (128 : Int)) * (64 : Int) + ((s[3]).toNat : Int) - (128 : Int)) s 4
  rw [← hval4] at hs4
  by_cases t4 : putN (valN 4 s.data.toList) = s.data.toList.take 4
  case pos =>
    rw [decide_eq_true t4] at hs4
    rw [hval4] at hs4
    have hone : Hid (oneN s.data.toList = (((s[0]).toNat : Int) - (240 : Int)) * (262144 : Int) + (((s[1]).toNat : Int) - (128 : Int)) * (4096 : Int) + (((s[2]).toNat : Int) - (128 : Int)) * (64 : Int) + ((s[3]).toNat : Int) - (128 : Int)) := hid (by rw [← hval4]; exact oneN_hit (by omega) (by rw [hlen.out]; omega) t4)
    clear t4 hval4
    rw [rounds_succ]
    go_wp2
    refine wp_region_sub (by kernel_rfl) (by kernel_rfl) ?_
    repeat (first | go_big_quiet_step (fail) | quiet_step (fail))
    refine wpQuiet_nil ?_
    intro p4
    go_wp2
    refine wp_region_sub (by kernel_rfl) (by kernel_rfl) ?_
    repeat (go_big_quiet_step (first | (go_at_call 105; exact Sub.call _ (LP.out _ _))))
    refine wpQuiet_nil ?_
    intro q4
    have hB4 : Below w.heap.size w q4.x := below_cat q4.h (below_cat p4.h hB3)
    go_wp2
    go_ret
    exact ⟨ret_int hone.out.symm, hB4⟩
  rw [decide_eq_false t4] at hs4
  rw [hval4] at hs4
  have m4 := hid t4
  clear t4 hval4
  rw [rounds_succ]
  go_wp2
  refine wp_region_sub (by kernel_rfl) (by kernel_rfl) ?_
  repeat (first | go_big_quiet_step (fail) | quiet_step (fail))
  refine wpQuiet_nil ?_
  intro p4
  go_wp2
  refine wp_region_sub (by kernel_rfl) (by kernel_rfl) ?_
  repeat (go_big_quiet_step (first | (go_at_call 105; exact Sub.call _ (LP.out _ _))))
  refine wpQuiet_nil ?_
  intro q4
  have hB4 : Below w.heap.size w q4.x := below_cat q4.h (below_cat p4.h hB3)
  go_wp2
  have hone : Hid (oneN s.data.toList = -1) := by
    refine hid (oneN_none fun k a1 a2 a3 => ?_)
    by_cases e1 : k = 1
    · subst e1; exact m1.out
    · by_cases e2 : k = 2
      · subst e2; exact m2.out
      · by_cases e3 : k = 3
        · subst e3; exact m3.out
        · obtain rfl : k = 4 := by omega
          exact m4.out
  rw [rounds_succ]
  go_wp2
  go_ret
  exact ⟨ret_int hone.out.symm, hB4⟩
end
section
open Go Go.RowKit
set_option linter.unusedSimpArgs false

theorem info_int : (Tryz.prog.info? 3).map (fun i => (i.zero, i.size, i.bytes)) = some (some (.int .i64 0), 1, 8) := by kernel_rfl
/-- A row of numbers of the function's own. -/
def Nums (w : World) (base : Nat) (v : Value) (ns : List Nat) : Prop := w.ownsRow base 3 1 v ns.length (ns.map fun (n : Nat) => Value.int .i64 (n : Int))
/-- No two of them in one block. -/
def Parted (v u : Value) : Prop := ∀ g, v.ownBlock = some g → u.ownBlock ≠ some g
theorem Parted.or {v u : Value} (h : Parted v u) : v.ownBlock = none ∨ v.ownBlock ≠ u.ownBlock := by
  cases hv : v.ownBlock with
  | none => exact .inl rfl
  | some g => exact .inr fun e => h g hv e.symm
theorem Parted.symm {v u : Value} (h : Parted v u) : Parted u v := fun g hu hv => h g hv hu

theorem below_grownU {B : Nat} {a w w' : World} {row : Option Nat} (h : Below B a w) (hg : w.grownBy w' row) (hr : ∀ k, row = some k → B ≤ k) (hB : B ≤ a.heap.size) : Below B a w' :=
  h.trans ⟨hg.os, hg.tape, hg.output, hg.size, fun k hk => hg.block k (by have := h.size; omega) (fun e => by have := hr k e.symm; omega)⟩
theorem oneN_some {l : List UInt8} {r n : Nat} (h : firstN l = some (r, n)) : oneN l = (r : Int) := by rw [oneN, h]
theorem oneN_no {l : List UInt8} (h : firstN l = none) : oneN l = -1 := by rw [oneN, h]
theorem one_at (s : ByteArray) (k : Nat) (h : k < s.size) (hs : s.size ≤ 1000) (w : World) :
    Calls Tryz.prog 104 #[.string (s.extract k s.size)] w fun e w' => e = .returned (.int .i64 (oneN (s.data.toList.drop k))) ∧ Below w.heap.size w w' := by
  have := one_any (s.extract k s.size) (by rw [extract_size s k (by omega)]; omega) (by rw [extract_size s k (by omega)]; omega) w
  rwa [extract_list] at this

set_option maxRecDepth 100000 in
set_option maxHeartbeats 4000000 in
theorem refRunes_any (s : ByteArray) (hs : s.size ≤ 1000) (w : World) : Calls Tryz.prog 67 #[.string s] w fun e w' =>
    ∃ v1 v2, e = .returned (.tuple #[v1, v2, .int .i64 (badN s)]) ∧ Nums w' w.heap.size v1 ((runesN s.data.toList).map Prod.fst) ∧ Nums w' w.heap.size v2 ((runesN s.data.toList).map Prod.snd) ∧ Below w.heap.size w w' := by
  obtain ⟨i, hi, hz0, hz1, hz2⟩ := info_parts info_int
  replace hi := hid hi
  replace hz0 := hid hz0
  replace hz1 := hid hz1
  replace hz2 := hid hz2
  go_enter Tryz.func67, Tryz.ntmps67
  go_wp2
  go_loopw [5, 6, 7] (fun v1 v2 p wr => ∃ (k fuel : Nat) (pre : List (Nat × Nat)), p = .int .i64 k ∧ k ≤ s.size ∧ s.size - k ≤ fuel ∧ Hid (runesN s.data.toList = pre ++ runesF fuel k (s.data.toList.drop k)) ∧ Hid (lastEnd 0 pre = k) ∧ Hid (pre.length ≤ k) ∧
      Hid (Nums wr w.heap.size v1 (pre.map Prod.fst)) ∧ Hid (Nums wr w.heap.size v2 (pre.map Prod.snd)) ∧ Hid (Parted v1 v2) ∧ Hid (Below w.heap.size w wr))
    (fun _ _ p _ => s.size - (intOf p).toNat)
  case atStart => exact ⟨0, s.size, [], rfl, Nat.zero_le _, by omega, hid (by simp [runesN]), hid rfl, hid (Nat.le_refl _), hid (World.ownsRow_nil _ _ _ _), hid (World.ownsRow_nil _ _ _ _), hid (fun g h => by simp [Value.ownBlock] at h), hid (Below.refl _ _)⟩
  case round =>
    obtain ⟨k, fuel, pre, rfl, hk, hf, hx, hle, hpl, hn1, hn2, hpt, hB⟩ := hrel
    by_cases hlt : k < s.size
    · cases hfr : firstN (s.data.toList.drop k) with
      | none =>
        have L := fun w => one_at s k hlt hs w
        rw [oneN_no hfr] at L
        have hxs : runesN s.data.toList = pre := by
          rw [hx.out]; cases fuel with
          | zero => simp [runesF]
          | succ m => simp [runesF, hfr]
        have hbad : badN s = (k : Nat) := by
          have he : endN s.data.toList = k := by rw [endN_eq, hxs]; exact hle.out
          rw [badN, he, if_neg (by omega)]
        replace L := hid L
        replace hxs := hid hxs
        replace hbad := hid hbad
        clear hfr
        go_wp2_with (go_at_call 104; refine (L.out _).mono ?_; rintro e w1 ⟨rfl, hB1⟩)
        go_ret3
        have hg : wr.grownBy w1 none := ⟨hB1.os, hB1.tape, hB1.output, hB1.size, fun k hk _ => hB1.block k hk⟩
        refine ⟨_, _, by rw [hbad.out]; rfl, ?_, ?_, below_cat hB1 hB.out⟩
        · rw [hxs.out]; exact hn1.out.kept hg (by cases hv : u5.ownBlock <;> simp)
        · rw [hxs.out]; exact hn2.out.kept hg (by cases hv : u6.ownBlock <;> simp)
      | some rn =>
        obtain ⟨r, n⟩ := rn
        obtain ⟨q1, q2, q4, hpt', hszn⟩ := firstN_size hfr
        have L := fun w => one_at s k hlt hs w
        rw [oneN_some hfr] at L
        obtain ⟨fuel, rfl⟩ : ∃ m, fuel = m + 1 := ⟨fuel - 1, by omega⟩
        have hxs : runesN s.data.toList = pre ++ (k, r) :: runesF fuel (k + n) (s.data.toList.drop (k + n)) := by
          rw [hx.out]; simp only [runesF, hfr, List.drop_drop]
        have hP := fun w => refPut_any (r : Nat) w
        have hPs : (putS (r : Nat)).size = n := by rw [← hszn, ← put_len hpt']; rfl
        replace L := hid L
        obtain ⟨S, hS⟩ : ∃ S, S = putS (r : Nat) := ⟨_, rfl⟩
        rw [← hS] at hP hPs
        clear hS
        replace hP := hid hP
        replace hxs := hid hxs
        have hend : lastEnd 0 (pre ++ [(k, r)]) = k + n := by rw [lastEnd_push, hszn]
        replace hend := hid hend
        have hkn : k + n ≤ s.size := by simp at q2; omega
        clear hfr
        have hlen1 : (pre.map Prod.fst).length ≤ 1000 := by rw [List.length_map]; have := hpl.out; omega
        have hlen2 : (pre.map Prod.snd).length ≤ 1000 := by rw [List.length_map]; have := hpl.out; omega
        obtain ⟨P1, hP1⟩ : ∃ P, P = pre.map Prod.fst := ⟨_, rfl⟩
        obtain ⟨P2, hP2⟩ : ∃ P, P = pre.map Prod.snd := ⟨_, rfl⟩
        rw [← hP1] at hn1 hlen1
        rw [← hP2] at hn2 hlen2
        have hws := hB.out.size
        replace hP1 := hid hP1
        replace hP2 := hid hP2
        go_wp2_with (first
          | (go_at_call 104; refine (L.out _).mono ?_; rintro e w1 ⟨rfl, hB1⟩
             have hg1 : wr.grownBy w1 none := ⟨hB1.os, hB1.tape, hB1.output, hB1.size, fun k hk _ => hB1.block k hk⟩
             have m1 := hid (hn1.out.kept hg1 (by cases hv : u5.ownBlock <;> simp))
             have m2 := hid (hn2.out.kept hg1 (by cases hv : u6.ownBlock <;> simp))
             have hs1 := hB1.size)
          | (at_builtin; refine wpList_append_own_at _ rfl _ _ 96 rfl w.heap.size 3 i _ 1 8 Tryz.underlying96 hi.out hz0.out hz1.out hz2.out rfl (by decide) _ _ _ rfl (m1.out.alloc _) ⟨w1.heap.size, 0, none⟩ 1 1 [.int .i64 (k : Int)] rfl rfl (cell_one_new _ _ _) (fun x hx => by simp at hx; subst hx; rfl) (by unfold maxLen; omega) (by omega) (by simp; omega) ?_; intro v1 w2 hown1 hgrow1 hnil1 hat1
             have m3 := hid ((m2.out.alloc _).kept hgrow1 hpt.out.symm.or)
             have hs2 := hgrow1.size
             rw [World.size_alloc] at hs2)
          | (at_builtin; refine wpList_append_own_at _ rfl _ _ 96 rfl w.heap.size 3 i _ 1 8 Tryz.underlying96 hi.out hz0.out hz1.out hz2.out rfl (by decide) _ _ _ rfl (m3.out.alloc _) ⟨w2.heap.size, 0, none⟩ 1 1 [.int .i64 (r : Int)] rfl rfl (cell_one_new _ _ _) (fun x hx => by simp at hx; subst hx; rfl) (by unfold maxLen; omega) (by omega) (by simp; omega) ?_; intro v2 w3 hown2 hgrow2 hnil2 hat2
             have m4 := hid (hown1.alloc (.cells #[.int .i64 (r : Int)] 3)))
          | (go_at_call 105; refine (hP.out _).mono ?_; rintro e w4 ⟨rfl, hB4⟩))
        go_roundw
        have hg4 : w3.grownBy w4 none := ⟨hB4.os, hB4.tape, hB4.output, hB4.size, fun k hk _ => hB4.block k hk⟩
        have lt6 : ∀ g, u6.ownBlock = some g → g < w1.heap.size := fun g hg => (World.ownsRow.lt m2.out g hg).2
        have lt5 : ∀ g, u5.ownBlock = some g → g < w1.heap.size := fun g hg => (World.ownsRow.lt m1.out g hg).2
        have ltv1 : ∀ g, v1.ownBlock = some g → g < w2.heap.size := fun g hg => (World.ownsRow.lt hown1 g hg).2
        have p16 : Parted v1 u6 := fun g h1 h6 => by
          rcases hat1 with e | e
          · exact hpt.out g (e ▸ h1) h6
          · rw [e] at h1; simp at h1; have := lt6 g h6; omega
        have p12 : Parted v1 v2 := fun g h1 h2 => by
          rcases hat2 with e | e
          · exact p16 g h1 (e ▸ h2)
          · rw [e] at h2; simp at h2; have := ltv1 g h1; omega
        have o1 := (m4.out.kept hgrow2 p16.or).kept hg4 (by cases hv : v1.ownBlock <;> simp)
        have o2 := hown2.kept hg4 (by cases hv : v2.ownBlock <;> simp)
        have r5 : ∀ g, u5.ownBlock = some g → w.heap.size ≤ g := fun g hg => (World.ownsRow.lt m1.out g hg).1
        have r6 : ∀ g, u6.ownBlock = some g → w.heap.size ≤ g := fun g hg => (World.ownsRow.lt m2.out g hg).1
        have hbel : Below w.heap.size w w4 := below_cat hB4 (below_grownU (below_al (below_grownU (below_al (below_cat hB1 hB.out) _) hgrow1 r5 (Nat.le_refl _)) _) hgrow2 r6 (Nat.le_refl _))
        case rel => exact ⟨k + n, fuel, pre ++ [(k, r)], by go_num, hkn, by omega, hid (by rw [hxs.out]; simp), hend, hid (by have := hpl.out; simp; omega), hid (by unfold Nums; rw [List.map_append, ← hP1.out]; simpa using o1), hid (by unfold Nums; rw [List.map_append, ← hP2.out]; simpa using o2), hid p12, hid hbel⟩
        case measure => simp [intOf]; omega
    · obtain rfl : k = s.size := by omega
      have hnil : s.data.toList.drop s.size = [] := by simp
      have hxs : runesN s.data.toList = pre := by
        rw [hx.out, hnil]; cases fuel <;> simp [runesF, firstN]
      have hbad : badN s = -1 := by
        rw [badN, if_pos]; rw [endN_eq, hxs]; exact hle.out
      replace hxs := hid hxs
      replace hbad := hid hbad
      clear hnil
      go_wp2
      go_ret3
      exact ⟨_, _, by rw [hbad.out]; rfl, by rw [hxs.out]; exact hn1.out, by rw [hxs.out]; exact hn2.out, hB.out⟩
end
end Go.Proofs.YtdjlpmelmhhooaaGreatDoor
