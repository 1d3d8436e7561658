/- The document's One: the walk. -/
import Derived.Test.YtdjlpmelmhhooaaGreatDoorUtfX3
namespace Go.Proofs.YtdjlpmelmhhooaaGreatDoor
open Go Go.RowKit
set_option linter.unusedSimpArgs false

theorem byI_at (s : ByteArray) (i : Nat) (h : i < s.size) : byI s.data.toList i = ((s[i]).toNat : Int) := by
  unfold byI
  rw [List.getD_eq_getElem?_getD, List.getElem?_eq_getElem (by simpa using h)]
  rfl
theorem toList_beqU {s t : ByteArray} : (s.toList == t.toList) = decide (s = t) := by
  rw [ByteArray.toList_eq, ByteArray.toList_eq, Bool.eq_iff_iff, beq_iff_eq, decide_eq_true_iff]
  constructor
  · intro h; exact ByteArray.ext (Array.ext' h)
  · rintro rfl; rfl
theorem str_pre (v : Int) (s : ByteArray) (k : Nat) : ((putS v).toList == (s.extract 0 k).toList) = decide (putN v = s.data.toList.take k) := by
  rw [toList_beqU]
  refine decide_eq_decide.2 ⟨fun h => ?_, fun h => ?_⟩
  · have := congrArg (fun b => b.data.toList) h
    simp only [putS_list, Lib.extract_data, List.drop_zero, Nat.sub_zero] at this
    exact this
  · exact ByteArray.ext (Array.ext' (by rw [putS_list, Lib.extract_data, List.drop_zero, Nat.sub_zero]; exact h))

set_option maxRecDepth 10000000 in
set_option maxHeartbeats 4000000 in
theorem one_any (s : ByteArray) (h1 : 1 ≤ s.size) (hs : s.size ≤ 1000) (w : World) : Calls Tryz.prog 104 #[.string s] w fun e w' => e = .returned (.int .i64 (oneN s.data.toList)) ∧ Below w.heap.size w w' := by
  have hlen : s.data.toList.length = s.size := by simp
  have LP := fun v w => refPut_any v w
  replace LP := hid LP
  replace hlen := hid hlen
  go_enter Tryz.func104, Tryz.ntmps104
  go_wp2
  refine wp_loop_rounds 5 ?_
  have b0 := byte_lt s[0]
  have hval1 : valN 1 s.data.toList = ((s[0]).toNat : Int) := by simp only [valN, byI_at s 0 (by omega)]
  have hs1 := str_pre (((s[0]).toNat : Int)) s 1
  rw [← hval1] at hs1
  by_cases t1 : putN (valN 1 s.data.toList) = s.data.toList.take 1
  case pos =>
    rw [decide_eq_true t1] at hs1
    rw [hval1] at hs1
    have hone : Hid (oneN s.data.toList = ((s[0]).toNat : Int)) := hid (by rw [← hval1]; exact oneN_hit (by omega) (by rw [hlen.out]; omega) t1)
    clear t1 hval1
    rw [rounds_succ]
    go_wp2
    refine wp_region_sub (by kernel_rfl) (by kernel_rfl) ?_
    repeat (go_big_quiet_step (first | (go_at_call 105; exact Sub.call _ (LP.out _ _))))
    refine wpQuiet_nil ?_
    intro q1
    have hB1 : Below w.heap.size w q1.x := q1.h
    go_wp2
    go_ret
    exact ⟨ret_int hone.out.symm, hB1⟩
  rw [decide_eq_false t1] at hs1
  rw [hval1] at hs1
  have m1 := hid t1
  clear t1 hval1
  rw [rounds_succ]
  go_wp2
  refine wp_region_sub (by kernel_rfl) (by kernel_rfl) ?_
  repeat (go_big_quiet_step (first | (go_at_call 105; exact Sub.call _ (LP.out _ _))))
  refine wpQuiet_nil ?_
  intro q1
  have hB1 : Below w.heap.size w q1.x := q1.h
  go_wp2
  by_cases g2 : 2 ≤ s.size
  case neg =>
    have hone : Hid (oneN s.data.toList = -1) := by
      refine hid (oneN_none fun k a1 a2 a3 => ?_)
      rw [hlen.out] at a3
      by_cases e1 : k = 1
      · subst e1; exact m1.out
      · omega
    rw [rounds_succ]
    go_wp2
    go_ret
    exact ⟨ret_int hone.out.symm, hB1⟩
  have b1 := byte_lt s[1]
  have u1 : (1 : Int) < (s.size : Int) := by omega
  have hval2 : valN 2 s.data.toList = (((s[0]).toNat : Int) - (192 : Int)) * (64 : Int) + ((s[1]).toNat : Int) - (128 : Int) := by simp only [valN, byI_at s 0 (by omega), byI_at s 1 (by omega)]
  have hs2 := str_pre ((((s[0]).toNat : Int) - (192 : Int)) * (64 : Int) + ((s[1]).toNat : Int) - (128 : Int)) s 2
  rw [← hval2] at hs2
  by_cases t2 : putN (valN 2 s.data.toList) = s.data.toList.take 2
  case pos =>
    rw [decide_eq_true t2] at hs2
    rw [hval2] at hs2
    have hone : Hid (oneN s.data.toList = (((s[0]).toNat : Int) - (192 : Int)) * (64 : Int) + ((s[1]).toNat : Int) - (128 : Int)) := hid (by rw [← hval2]; exact oneN_hit (by omega) (by rw [hlen.out]; omega) t2)
    clear t2 hval2
    rw [rounds_succ]
    go_wp2
    refine wp_region_sub (by kernel_rfl) (by kernel_rfl) ?_
    repeat (first | go_big_quiet_step (fail) | quiet_step (fail))
    refine wpQuiet_nil ?_
    intro p2
    go_wp2
    refine wp_region_sub (by kernel_rfl) (by kernel_rfl) ?_
    repeat (go_big_quiet_step (first | (go_at_call 105; exact Sub.call _ (LP.out _ _))))
    refine wpQuiet_nil ?_
    intro q2
    have hB2 : Below w.heap.size w q2.x := below_cat q2.h (below_cat p2.h hB1)
    go_wp2
    go_ret
    exact ⟨ret_int hone.out.symm, hB2⟩
  rw [decide_eq_false t2] at hs2
  rw [hval2] at hs2
  have m2 := hid t2
  clear t2 hval2
  rw [rounds_succ]
  go_wp2
  refine wp_region_sub (by kernel_rfl) (by kernel_rfl) ?_
  repeat (first | go_big_quiet_step (fail) | quiet_step (fail))
  refine wpQuiet_nil ?_
  intro p2
  go_wp2
  refine wp_region_sub (by kernel_rfl) (by kernel_rfl) ?_
  repeat (go_big_quiet_step (first | (go_at_call 105; exact Sub.call _ (LP.out _ _))))
  refine wpQuiet_nil ?_
  intro q2
  have hB2 : Below w.heap.size w q2.x := below_cat q2.h (below_cat p2.h hB1)
  go_wp2
  by_cases g3 : 3 ≤ s.size
  case neg =>
    have hone : Hid (oneN s.data.toList = -1) := by
      refine hid (oneN_none fun k a1 a2 a3 => ?_)
      rw [hlen.out] at a3
      by_cases e1 : k = 1
      · subst e1; exact m1.out
      by_cases e2 : k = 2
      · subst e2; exact m2.out
      · omega
    rw [rounds_succ]
    go_wp2
    go_ret
    exact ⟨ret_int hone.out.symm, hB2⟩
  have b2 := byte_lt s[2]
  have u2 : (2 : Int) < (s.size : Int) := by omega
  have hval3 : valN 3 s.data.toList = (((s[0]).toNat : Int) - (224 : Int)) * (4096 : Int) + (((s[1]).toNat : Int) - (128 : Int)) * (64 : Int) + ((s[2]).toNat : Int) - (128 : Int) := by simp only [valN, byI_at s 0 (by omega), byI_at s 1 (by omega), byI_at s 2 (by omega)]
  have hs3 := str_pre ((((s[0]).toNat : Int) - (224 : Int)) * (4096 : Int) + (((s[1]).toNat : Int) - (128 : Int)) * (64 : Int) + ((s[2]).toNat : Int) - (128 : Int)) s 3
  rw [← hval3] at hs3
  by_cases t3 : putN (valN 3 s.data.toList) = s.data.toList.take 3
  case pos =>
    rw [decide_eq_true t3] at hs3
    rw [hval3] at hs3
    have hone : Hid (oneN s.data.toList = (((s[0]).toNat : Int) - (224 : Int)) * (4096 : Int) + (((s[1]).toNat : Int) - (128 : Int)) * (64 : Int) + ((s[2]).toNat : Int) - (128 : Int)) := hid (by rw [← hval3]; exact oneN_hit (by omega) (by rw [hlen.out]; omega) t3)
    clear t3 hval3
    rw [rounds_succ]
    go_wp2
    refine wp_region_sub (by kernel_rfl) (by kernel_rfl) ?_
    repeat (first | go_big_quiet_step (fail) | quiet_step (fail))
    refine wpQuiet_nil ?_
    intro p3
    go_wp2
    refine wp_region_sub (by kernel_rfl) (by kernel_rfl) ?_
    repeat (go_big_quiet_step (first | (go_at_call 105; exact Sub.call _ (LP.out _ _))))
    refine wpQuiet_nil ?_
    intro q3
    have hB3 : Below w.heap.size w q3.x := below_cat q3.h (below_cat p3.h hB2)
    go_wp2
    go_ret
    exact ⟨ret_int hone.out.symm, hB3⟩
  rw [decide_eq_false t3] at hs3
  rw [hval3] at hs3
  have m3 := hid t3
  clear t3 hval3
  rw [rounds_succ]
  go_wp2
  refine wp_region_sub (by kernel_rfl) (by kernel_rfl) ?_
  repeat (first | go_big_quiet_step (fail) | quiet_step (fail))
  refine wpQuiet_nil ?_
  intro p3
  go_wp2
  refine wp_region_sub (by kernel_rfl) (by kernel_rfl) ?_
  repeat (go_big_quiet_step (first | (go_at_call 105; exact Sub.call _ (LP.out _ _))))
  refine wpQuiet_nil ?_
  intro q3
  have hB3 : Below w.heap.size w q3.x := below_cat q3.h (below_cat p3.h hB2)
  go_wp2
  by_cases g4 : 4 ≤ s.size
  case neg =>
    have hone : Hid (oneN s.data.toList = -1) := by
      refine hid (oneN_none fun k a1 a2 a3 => ?_)
      rw [hlen.out] at a3
      by_cases e1 : k = 1
      · subst e1; exact m1.out
      by_cases e2 : k = 2
      · subst e2; exact m2.out
      by_cases e3 : k = 3
      · subst e3; exact m3.out
      · omega
    rw [rounds_succ]
    go_wp2
    go_ret
    exact ⟨ret_int hone.out.symm, hB3⟩
  have b3 := byte_lt s[3]
  have u3 : (3 : Int) < (s.size : Int) := by omega
  have hval4 : valN 4 s.data.toList = (((s[0]).toNat : Int) - (240 : Int)) * (262144 : Int) + (((s[1]).toNat : Int) - (128 : Int)) * (4096 : Int) + (((s[2]).toNat : Int) - (128 : Int)) * (64 : Int) + ((s[3]).toNat : Int) - (128 : Int) := by simp only [valN, byI_at s 0 (by omega), byI_at s 1 (by omega), byI_at s 2 (by omega), byI_at s 3 (by omega)]
  have hs4 := str_pre ((((s[0]).toNat : Int) - (240 : Int)) * (262144 : Int) + (((s[1]).toNat : Int) - (128 : Int)) * (4096 : Int) + (((s[2]).toNat : Int) - (128 : Int)) * (64 : Int) + ((s[3]).toNat : Int) - (128 : Int)) s 4
  rw [← hval4] at hs4
  by_cases t4 : putN (valN 4 s.data.toList) = s.data.toList.take 4
  case pos =>
    rw [decide_eq_true t4] at hs4
    rw [hval4] at hs4
    have hone : Hid (oneN s.data.toList = (((s[0]).toNat : Int) - (240 : Int)) * (262144 : Int) + (((s[1]).toNat : Int) - (128 : Int)) * (4096 : Int) + (((s[2]).toNat : Int) - (128 : Int)) * (64 : Int) + ((s[3]).toNat : Int) - (128 : Int)) := hid (by rw [← hval4]; exact oneN_hit (by omega) (by rw [hlen.out]; omega) t4)
    clear t4 hval4
    rw [rounds_succ]
    go_wp2
    refine wp_region_sub (by kernel_rfl) (by kernel_rfl) ?_
    repeat (first | go_big_quiet_step (fail) | quiet_step (fail))
    refine wpQuiet_nil ?_
    intro p4
    go_wp2
    refine wp_region_sub (by kernel_rfl) (by kernel_rfl) ?_
    repeat (go_big_quiet_step (first | (go_at_call 105; exact Sub.call _ (LP.out _ _))))
    refine wpQuiet_nil ?_
    intro q4
    have hB4 : Below w.heap.size w q4.x := below_cat q4.h (below_cat p4.h hB3)
    go_wp2
    go_ret
    exact ⟨ret_int hone.out.symm, hB4⟩
  rw [decide_eq_false t4] at hs4
  rw [hval4] at hs4
  have m4 := hid t4
  clear t4 hval4
  rw [rounds_succ]
  go_wp2
  refine wp_region_sub (by kernel_rfl) (by kernel_rfl) ?_
  repeat (first | go_big_quiet_step (fail) | quiet_step (fail))
  refine wpQuiet_nil ?_
  intro p4
  go_wp2
  refine wp_region_sub (by kernel_rfl) (by kernel_rfl) ?_
  repeat (go_big_quiet_step (first | (go_at_call 105; exact Sub.call _ (LP.out _ _))))
  refine wpQuiet_nil ?_
  intro q4
  have hB4 : Below w.heap.size w q4.x := below_cat q4.h (below_cat p4.h hB3)
  go_wp2
  have hone : Hid (oneN s.data.toList = -1) := by
    refine hid (oneN_none fun k a1 a2 a3 => ?_)
    by_cases e1 : k = 1
    · subst e1; exact m1.out
    · by_cases e2 : k = 2
      · subst e2; exact m2.out
      · by_cases e3 : k = 3
        · subst e3; exact m3.out
        · obtain rfl : k = 4 := by omega
          exact m4.out
  rw [rounds_succ]
  go_wp2
  go_ret
  exact ⟨ret_int hone.out.symm, hB4⟩

end Go.Proofs.YtdjlpmelmhhooaaGreatDoor
