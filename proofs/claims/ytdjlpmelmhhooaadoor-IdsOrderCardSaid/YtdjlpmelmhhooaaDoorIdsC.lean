/- Ids: the walk of IdsOrder. -/
import Derived.Test.YtdjlpmelmhhooaaDoorIdsB
import Derived.Test.YtdjlpmelmhhooaaDoorQLd
namespace Go.Proofs.YtdjlpmelmhhooaaDoor
open Go Go.RowKit
set_option linter.unusedSimpArgs false
set_option linter.unusedVariables false

theorem string_beq (a b : List UInt8) : ((⟨a.toArray⟩ : ByteArray).toList == (⟨b.toArray⟩ : ByteArray).toList) = decide (a = b) := by
  have e : ∀ l : List UInt8, (⟨l.toArray⟩ : ByteArray).toList = l := fun l => by rw [Go.ByteArray.toList_eq]
  rw [e, e]
  exact Bool.beq_eq_decide_eq _ _

set_option maxRecDepth 100000 in
set_option maxHeartbeats 4000000 in
theorem idsOrder_core (A B : Array Value) (S T : ByteArray) (k : Int) (hk3 : k = -1 ∨ k = 0 ∨ k = 1) (hTs : S.size = 36)
    (hse : (S.toList == T.toList) = decide (k = 0)) (hlt' : Op.bytesLess S.toList T.toList = decide (k < 0))
    (E1 : ∀ w, (Op.equalIn 10000 23 (.agg A) (.agg B)).run Tryd.prog w = .ok (decide (k = 0)) w)
    (T1 : ∀ w, Calls Tryd.prog 6 #[.agg A] w fun e w' => e = .returned (.string S) ∧ Below w.heap.size w w')
    (T2 : ∀ w, Calls Tryd.prog 6 #[.agg B] w fun e w' => e = .returned (.string T) ∧ Below w.heap.size w w')
    (C1 : ∀ w, Calls Tryd.prog 7 #[.agg A, .agg B] w fun e w' => e = .returned (.int .i64 k) ∧ Below w.heap.size w w')
    (C2 : ∀ w, Calls Tryd.prog 7 #[.agg B, .agg A] w fun e w' => e = .returned (.int .i64 (-k)) ∧ Below w.heap.size w w')
    (hAi : (Tryd.prog.info? 23).map (·.size) = some A.size) (hBi : (Tryd.prog.info? 23).map (·.size) = some B.size)
    (w : World) : Calls Tryd.prog 3 #[.agg A, .agg B] w fun e w' => e = .returned (.bool true) ∧ Below w.heap.size w w' := by
  have LA := idAwake_any
  have hTs' : ((S.size : Int) == 36) = true := by rw [hTs]; rfl
  replace LA := hid LA
  replace T1 := hid T1
  replace T2 := hid T2
  replace hAi := hid hAi
  replace hBi := hid hBi
  replace hTs := hid hTs
  rcases hk3 with rfl | rfl | rfl
  all_goals
    simp only [Int.reduceNeg, Int.reduceLT, decide_true, decide_false, Int.reduceEq, Int.neg_zero] at hlt' hse E1 C2
    replace C1 := hid C1
    replace C2 := hid C2
    go_enter Tryd.func3, Tryd.ntmps3
    go_wp2_with (go_at_call 5; refine (LA.out _).mono ?_; rintro e w1 ⟨rfl, hB1⟩)
    have r1 : RowAt w1 w.heap.size 23 A := ((RowAt.new w A 23).alloc _).below hB1 (by simp; omega)
    have r2 : RowAt w1 (w.heap.size + 1) 23 B := (RowAt.newS w A B _ _).below hB1 (by simp)
    have b1 : Below w.heap.size w w1 := below_cat hB1 (below_al (below_al (Below.refl _ _) _) _)
    have q1 := fun q : Sub w1 => loadAt_row (r1.below q.h r1.lt) 23 _ Tryd.underlying23 rfl hAi.out
    have q2 := fun q : Sub w1 => loadAt_row (r2.below q.h r2.lt) 23 _ Tryd.underlying23 rfl hBi.out
    replace r1 := hid r1
    replace r2 := hid r2
    replace b1 := hid b1
    clear hB1
    refine wp_region_sub (by kernel_rfl) (by kernel_rfl) ?_
    repeat (first
      | (go_big_quiet_want; refine quiet_load 23 (.tmp 2) rfl rfl q1 ?_; simp only [Act.put, List.setIfInBounds_toArray, List.set_cons_zero, List.set_cons_succ]; go_big_quiet_on)
      | (go_big_quiet_want; refine quiet_load 23 (.tmp 3) rfl rfl q2 ?_; simp only [Act.put, List.setIfInBounds_toArray, List.set_cons_zero, List.set_cons_succ]; go_big_quiet_on)
      | go_big_quiet_step (first
      | (go_at_call 6; with_reducible refine Sub.call _ (T1.out _))
      | (go_at_call 6; with_reducible refine Sub.call _ (T2.out _))))
    refine wpQuiet_nil ?_
    intro q
    have r3 := r1.out.below q.h r1.out.lt
    have r4 := r2.out.below q.h r2.out.lt
    have b2 := below_cat q.h b1.out
    generalize q.x = X at r3 r4 b2 ⊢
    clear r1 r2 b1 q1 q2 T1 T2 q
    have q1 := fun q : Sub X => loadAt_row (r3.below q.h r3.lt) 23 _ Tryd.underlying23 rfl hAi.out
    have q2 := fun q : Sub X => loadAt_row (r4.below q.h r4.lt) 23 _ Tryd.underlying23 rfl hBi.out
    replace r3 := hid r3
    replace r4 := hid r4
    replace b2 := hid b2
    go_wp2
    refine wp_region_sub (by kernel_rfl) (by kernel_rfl) ?_
    repeat (first
      | (go_big_quiet_want; refine quiet_load 23 (.tmp 2) rfl rfl q1 ?_; simp only [Act.put, List.setIfInBounds_toArray, List.set_cons_zero, List.set_cons_succ]; go_big_quiet_on)
      | (go_big_quiet_want; refine quiet_load 23 (.tmp 3) rfl rfl q2 ?_; simp only [Act.put, List.setIfInBounds_toArray, List.set_cons_zero, List.set_cons_succ]; go_big_quiet_on)
      | go_big_quiet_step (first
      | (go_at_call 7; with_reducible refine Sub.call _ (C1.out _))
      | (go_at_call 7; with_reducible refine Sub.call _ (C2.out _))))
    refine wpQuiet_nil ?_
    intro q
    go_wp2
    go_ret
    exact ⟨rfl, below_cat q.h b2.out⟩

set_option maxRecDepth 100000 in
set_option maxHeartbeats 4000000 in
theorem idsOrder_walk (l m : List UInt8) (hl : l.length = 16) (hm : m.length = 16) (w : World) : Calls Tryd.prog 3 #[.agg (idA l), .agg (idA m)] w fun e w' => e = .returned (.bool true) ∧ Below w.heap.size w w' := by
  have hcb := cmp_bound l m
  have hc0 := cmp_eq_zero l m
  have hti := textI_inj l m hl hm
  have hlt := less_cmp (textI l) (textI m)
  rw [cmp_text l m hl hm] at hlt
  have hse := string_beq (textI l) (textI m)
  have hq : (l == m) = decide (l = m) := Bool.beq_eq_decide_eq _ _
  refine idsOrder_core _ _ ⟨(textI l).toArray⟩ ⟨(textI m).toArray⟩ (Lib.compareBytes l m) (by omega) (by show (textI l).toArray.size = 36; rw [List.size_toArray, textI_len l hl]) ?_ (by simpa using hlt) ?_
    (fun w => callsIn_wide.1 (idText_in l hl w)) (fun w => callsIn_wide.1 (idText_in m hm w)) (fun w => cmpId_any l m hl hm w) (fun w => by have := cmpId_any m l hm hl w; rwa [cmp_neg m l] at this)
    (by rw [info16, idA_size]) (by rw [info16, idA_size]) w
  · rw [hse]; exact decide_eq_decide.2 (hti.trans hc0.symm)
  · intro w
    rw [eq_id l m hl hm w, hq]
    rw [decide_eq_decide.2 hc0]
end Go.Proofs.YtdjlpmelmhhooaaDoor
