/- The law UtfJoins. -/
import Derived.Test.YtbedanlkkidkkabUtfB
import Derived.Test.YtbedanlkkidkkabSub
namespace Go.Proofs.Ytbedanlkkidkkab
open Go Go.RowKit
set_option linter.unusedSimpArgs false
attribute [local go_sem] Oper.semAt_some

theorem run_max2 {P : Program} (ts : Array TypeId) (t : TypeId) (k : IntKind) (x y : Int) (w : World) : (Builtin.max_ ts t #[.int k x, .int k y]).run P w = .ok (.int k (max x y)) w := by
  have e : ∀ a b : Int, (if b > a then b else a) = max a b := fun a b => by omega
  simp only [Builtin.max_, List.foldlM_cons, List.foldlM_nil, Builtin.max2, Sem.run_bind, Sem.run_pure, Result.andThen, e]

theorem joins_cut {s : ByteArray} {ps : List Nat} (hp : Points ps) (es : s.data.toList = flat ps) {pre post : List (Nat × Nat)} {at' r : Nat} (hx : places 0 ps = pre ++ (at', r) :: post) :
    at' + (putS (r : Nat)).size ≤ s.size ∧ badN (s.extract 0 at') = -1 ∧ badN (s.extract at' s.size) = -1 ∧ s.extract at' (at' + (putS (r : Nat)).size) = putS (r : Nat) ∧ (putS (r : Nat)).size ≤ 4 := by
  have hat := places_at hp hx
  rw [Nat.zero_add] at hat
  have hps : ps = pre.map Prod.snd ++ r :: post.map Prod.snd := by
    have := congrArg (List.map Prod.snd) hx
    rw [places_snd] at this
    simpa using this
  obtain ⟨P1, h1⟩ : ∃ P, P = pre.map Prod.snd := ⟨_, rfl⟩
  obtain ⟨P2, h2⟩ : ∃ P, P = post.map Prod.snd := ⟨_, rfl⟩
  rw [← h1] at hat hps
  rw [← h2] at hps
  have q1 : Points P1 := fun p h => hp p (by rw [hps]; simp [h])
  have q2 : Points (r :: P2) := fun p h => hp p (by rw [hps]; exact List.mem_append_right _ h)
  rw [hps, flat_append] at es
  have hsz : s.size = (flat P1).length + (flat (r :: P2)).length := by
    have h5 : s.data.toList.length = s.size := by simp
    rw [← h5, es, List.length_append]
  have hn : (putS (r : Nat)).size = (putN (r : Nat)).length := rfl
  have hl : (flat (r :: P2)).length = (putN (r : Nat)).length + (flat P2).length := by rw [flat_cons, List.length_append]
  have h4 := sizeN_pos (r : Nat)
  have hz := put_len (points_cons q2).1
  have c0 : (s.extract 0 at').data.toList = flat P1 := by
    rw [Lib.extract_data, es, hat, List.drop_zero, Nat.sub_zero, List.take_left]
  have c1 : (s.extract at' s.size).data.toList = flat (r :: P2) := by
    rw [Lib.extract_data, es, hat, List.drop_left, hsz, Nat.add_sub_cancel_left, List.take_length]
  have c2 : (s.extract at' (at' + (putS (r : Nat)).size)).data.toList = putN (r : Nat) := by
    rw [Lib.extract_data, es, hat, List.drop_left, Nat.add_sub_cancel_left, hn, flat_cons, List.take_left]
  refine ⟨by omega, bad_flat q1 c0, bad_flat q2 c1, ?_, by omega⟩
  exact ByteArray.ext (Array.ext' (by rw [c2, putS_list]))

theorem leave_none {P : Program} {fn : Func} {tmps : Array Value} {R : Ending → World → Prop} {W : World} (h : ∃ v, (results fn tmps).run P W = .ok v W ∧ R (.returned v) W) :
    LeavesInM Fence.wide 0 P fn tmps R [] .returning W := h

set_option maxRecDepth 100000 in
set_option maxHeartbeats 4000000 in
theorem joins_main (s t : ByteArray) (hs : s.size ≤ 500) (ht : t.size ≤ 500) (ps qs : List Nat) (hp : Points ps) (hq : Points qs) (es : s.data.toList = flat ps) (et : t.data.toList = flat qs) (w : World) :
    CallsIn Fence.wide 0 Try.prog 5 #[.string s, .string t] w fun e w' => e = .returned (.bool true) ∧ Below w.heap.size w w' := by
  have e2 : (s ++ t).data.toList = flat (ps ++ qs) := by simp [es, et, flat_append]
  have hpq : Points (ps ++ qs) := fun p h => (List.mem_append.1 h).elim (hp p) (hq p)
  have hsz2 : (s ++ t).size ≤ 1000 := by rw [ByteArray.size_append]; omega
  have hru : runesN s.data.toList = places 0 ps := by rw [es]; exact runes_flat hp
  have LV1 := fun w => valid_any s (by omega) w
  have LV2 := fun w => valid_any t (by omega) w
  have LV3 := fun w => valid_any (s ++ t) (by omega) w
  have hlt : decide ((-1 : Int) < 0) = true := rfl
  rw [bad_flat hp es, hlt] at LV1
  rw [bad_flat hq et, hlt] at LV2
  rw [bad_flat hpq e2, hlt] at LV3
  clear hlt
  have LC1 := fun w => count_any s (by omega) w
  have LC2 := fun w => count_any t (by omega) w
  have LC3 := fun w => count_any (s ++ t) (by omega) w
  rw [es, runes_flat hp, places_len] at LC1
  rw [et, runes_flat hq, places_len] at LC2
  rw [e2, runes_flat hpq, places_len] at LC3
  have hlen : (((ps ++ qs).length : Nat) : Int) = (ps.length : Int) + (qs.length : Int) := by simp
  rw [hlen] at LC3
  have hpl : ps.length ≤ 500 := by
    have h1 := runesN_len s.data.toList
    rw [hru, places_len] at h1
    have h5 : s.data.toList.length = s.size := by simp
    omega
  have hql : qs.length ≤ 500 := by
    have h1 := runesN_len t.data.toList
    rw [et, runes_flat hq, places_len, ← et] at h1
    have h5 : t.data.toList.length = t.size := by simp
    omega
  have hmax : ∀ (ts : Array TypeId) (ty : TypeId) (w : World), (Builtin.max_ ts ty #[.int .i64 s.size, .int .i64 t.size]).run Try.prog w = .ok (.int .i64 (max (s.size : Int) (t.size : Int))) w := fun ts ty w => run_max2 ts ty .i64 _ _ w
  have hgt : decide ((500 : Int) < max (s.size : Int) (t.size : Int)) = false := by rw [decide_eq_false_iff_not]; omega
  replace LV1 := hid LV1
  replace LV2 := hid LV2
  replace LV3 := hid LV3
  replace LC1 := hid LC1
  replace LC2 := hid LC2
  replace LC3 := hid LC3
  replace hru := hid hru
  replace es := hid es
  clear hlen e2 hpq et
  refine callsIn_of_wp_marks Try.func5 rfl trivial ?_
  simp only [Try.ntmps5, List.size_toArray, List.length_cons, List.length_nil, Nat.reduceAdd, Nat.reduceSub, Array.replicate_succ, Array.replicate_zero, List.push_toArray, List.append_toArray, List.nil_append, List.cons_append]
  gi_wp2_with (first
    | (refine ⟨trivial, rfl, ?_⟩; gi_at_call 7; refine (callsIn_wide.2 (awake_any _)).mono ?_; rintro e w1 ⟨rfl, hB1⟩; have hb1 := (Two.start 9 4 #[.string s] #[.bool false] w).step hB1; have hc1 : w1.cell? ⟨w.heap.size, 0, none⟩ = some (.string s) := hb1.r1.cell (j := 0) rfl; clear hB1)
    | (refine ⟨trivial, rfl, ?_⟩; gi_at_call 12; with_reducible refine (callsIn_wide.2 (LV1.out _)).mono ?_; rintro e w2 ⟨rfl, hB2⟩; have hb2 := hb1.step hB2; have hc2 : w2.cell? ⟨w.heap.size, 0, none⟩ = some (.string s) := hb2.r1.cell (j := 0) rfl; clear hB2)
    | (refine ⟨trivial, rfl, ?_⟩; gi_at_call 12; with_reducible refine (callsIn_wide.2 (LV2.out _)).mono ?_; rintro e w3 ⟨rfl, hB3⟩; have hb3 := hb2.step hB3; have hc3 : w3.cell? ⟨w.heap.size, 0, none⟩ = some (.string s) := hb3.r1.cell (j := 0) rfl; clear hB3))
  clear hc1 hc2
  have hq3 : ∀ q : Sub w3, q.x.cell? ⟨w.heap.size, 0, none⟩ = some (.string s) := fun q => q.cell hb3.r1 rfl
  have hsum : (((ps.length : Int) + (qs.length : Int)) != (ps.length : Int) + (qs.length : Int)) = false := by simp
  refine wpIn_region_sub (by kernel_rfl) (by kernel_rfl) ?_
  repeat (go_big_quiet_step (first
    | (go_at_call 12; exact Sub.call _ (LV3.out _))
    | (go_at_call 10; with_reducible refine Sub.call _ (LC1.out _))
    | (go_at_call 10; with_reducible refine Sub.call _ (LC2.out _))
    | (go_at_call 10; with_reducible refine Sub.call _ (LC3.out _))))
  refine wpQuiet_nil ?_
  intro q4
  obtain ⟨w4, hq4⟩ : ∃ w4, w4 = q4.x := ⟨_, rfl⟩
  have hb4 := hb3.step q4.h
  rw [← hq4] at hb4 ⊢
  have hc4 : w4.cell? ⟨w.heap.size, 0, none⟩ = some (.string s) := hb4.r1.cell (j := 0) rfl
  clear hq3 hsum hq4 hc3 hb3 hb1 hb2
  gi_wp2_with (refine ⟨trivial, rfl, ?_⟩; gi_at_call 9; refine (callsIn_wide.2 (runes_make s _)).mono ?_; rintro e w' ⟨rfl, rfl⟩)
  obtain ⟨W0, hW0⟩ : ∃ W0, w4.alloc (.cells #[.string s] 9) = W0 := ⟨_, rfl⟩
  have hbx : RowAt W0 w4.heap.size 9 #[.string s] := by rw [← hW0]; exact RowAt.new w4 _ _
  have hT : Two 9 4 #[.string s] #[.bool false] w W0 := by rw [← hW0]; exact hb4.alloc _
  have hsz0 : w4.heap.size + 1 ≤ W0.heap.size := by rw [← hW0]; simp
  have hsz4 : w.heap.size + 2 ≤ w4.heap.size := hb4.sz
  rw [hW0]
  clear hW0 hc4 hb4
  refine wp_iter (gf := 20) (lb := #[.pointer (some ⟨w4.heap.size, 0, none⟩)]) rfl (enters_of Try.func20 (by kernel_rfl) rfl) (runes_on s (by omega) w4.heap.size W0 hbx)
    (fun _ h => h.elim) (fun k hk => by subst hk; exact hbx.lt) (fun _ => rfl)
    (fun _ W => Two 9 4 #[.string s] #[.bool false] w W) (fun _ _ _ => False) ?hI ?hIx hT
    (fun x a' _ => a' = { tmps := #[.string s, .string t, .pointer (some ⟨w.heap.size, 0, none⟩), undef, .pointer (some ⟨w.heap.size + 1, 0, none⟩), .int .i64 (x.1 : Nat), .int .i32 (x.2 : Nat), .bool true, .bool false,
      .string s, .int .i64 s.size, .string t, .int .i64 t.size, .int .i64 (max (s.size : Int) (t.size : Int)), .bool false, .bool false, .string s, .bool true, .bool false, .bool false, .bool false, .string t, .bool true,
      .bool false, .bool false, .string s, .string t, .string (s ++ t), .bool true, .bool false, .bool false, .string s, .string t, .string (s ++ t), .int .i64 ((ps.length : Int) + (qs.length : Int)), .string s, .int .i64 ps.length,
      .string t, .int .i64 qs.length, .int .i64 ((ps.length : Int) + (qs.length : Int)), .bool false, .bool false, .string s, .func (.func 20) #[] #[.pointer (some ⟨w4.heap.size, 0, none⟩)], .int .i64 (x.1 : Nat), .int .i32 (x.2 : Nat), undef, undef, undef, undef, undef, undef, undef, undef, undef, undef, undef, undef, undef, undef, undef, undef, undef, undef, undef, undef, undef, undef, undef, undef, undef], defers := [] }) ?hAx ?assign ?body ?done ?stop
  case hI =>
    rintro pre X Y h2 hk
    exact h2.kept hk (fun k h => by rcases h with h | h | h; exact h.elim; all_goals omega)
  case hIx => intro _ _ _ _ h; exact h.elim
  case hAx => intro _ _ _ _ h _; exact h
  case assign =>
    intro l pre x W K _ hi hK
    gi_wp2
    exact hK _ _ (Kept.refl _ _) hi (by simp [encR])
  case body =>
    rintro pre ⟨at', r⟩ post a' W hx hWs _ h2 rfl
    rw [hru.out] at hx
    obtain ⟨j1, j2, j3, j4, j5⟩ := joins_cut hp es.out hx
    have LA := fun w => valid_any (s.extract 0 at') (by rw [ByteArray.size_extract]; omega) w
    have LB := fun w => valid_any (s.extract at' s.size) (by rw [ByteArray.size_extract]; omega) w
    have LP := fun w => put_rune (r : Nat) w
    rw [j2, show decide ((-1 : Int) < 0) = true from rfl] at LA
    rw [j3, show decide ((-1 : Int) < 0) = true from rfl] at LB
    obtain ⟨S, hS⟩ : ∃ S, S = putS (r : Nat) := ⟨_, rfl⟩
    rw [← hS] at j1 j4 j5 LP
    replace LA := hid LA
    replace LB := hid LB
    replace LP := hid LP
    clear hx j2 j3 hS
    have hq2 : ∀ q : Sub W, q.x.cell? ⟨w.heap.size, 0, none⟩ = some (.string s) := fun q => q.cell h2.r1 rfl
    gi_wp2
    refine wpIn_region_round (by kernel_rfl) (by kernel_rfl) (by kernel_rfl) ?_
    repeat (go_big_quiet_step (first
      | (go_at_call 12; with_reducible refine Sub.call _ (LA.out _))
      | (go_at_call 12; with_reducible refine Sub.call _ (LB.out _))
      | (go_at_call 13; with_reducible refine Sub.call _ (LP.out _))))
    refine wpQuiet_nil ?_
    intro q5
    gi_wp2
    exact ⟨Kept.of_below q5.h, h2.step q5.h⟩
  case done =>
    rintro W hWs h2 hd
    have hfr := h2.r2.free 0
    have hcf : W.cell? ⟨w.heap.size + 1, 0, none⟩ = some (.bool false) := h2.r2.cell (j := 0) rfl
    gi_wp2
    have hr4 := h2.r2.set 0 (.bool true)
    have hd4 : (W.setCell ⟨w.heap.size + 1, 0, none⟩ (.bool true)).heap[W0.heap.size]? = some (.deferred (some [])) := by
      rw [Below.heap_setCell _ _ _ _ (by simp; omega)]; exact hd
    have hr5 : RowAt ((W.setCell ⟨w.heap.size + 1, 0, none⟩ (.bool true)).putObj W0.heap.size (.deferred none)) (w.heap.size + 1) 4 #[.bool true] := (World.putObj_heap_other (by omega)).trans (hr4.eqA (by simp))
    refine leave_one hd4 ⟨_, results_cell1 rfl _ _ _ _ rfl (hr5.cell (j := 0) rfl) Try.underlying4, ?_, ?_⟩
    · rfl
    · exact below_kept (h2.bel.setCell (by simp) _) ((Kept.refl (fun k => k = W0.heap.size) _).putObj _ _ (.inl rfl)) (Nat.le_refl _) (fun k hk => by omega)
  case stop => intro _ _ _ _ _ _ _ h; exact h.elim

set_option maxRecDepth 100000 in
set_option maxHeartbeats 4000000 in
theorem joins_big (s t : ByteArray) (hbig : decide ((500 : Int) < max (s.size : Int) (t.size : Int)) = true) (w : World) :
    CallsIn Fence.wide 0 Try.prog 5 #[.string s, .string t] w fun e w' => e = .returned (.bool true) ∧ Below w.heap.size w w' := by
  have hmax : ∀ (ts : Array TypeId) (ty : TypeId) (w : World), (Builtin.max_ ts ty #[.int .i64 s.size, .int .i64 t.size]).run Try.prog w = .ok (.int .i64 (max (s.size : Int) (t.size : Int))) w := fun ts ty w => run_max2 ts ty .i64 _ _ w
  refine callsIn_of_wp_marks Try.func5 rfl trivial ?_
  simp only [Try.ntmps5, List.size_toArray, List.length_cons, List.length_nil, Nat.reduceAdd, Nat.reduceSub, Array.replicate_succ, Array.replicate_zero, List.push_toArray, List.append_toArray, List.nil_append, List.cons_append]
  gi_wp2_with (first
    | (refine ⟨trivial, rfl, ?_⟩; gi_at_call 7; refine (callsIn_wide.2 (awake_any _)).mono ?_; rintro e w1 ⟨rfl, hB1⟩; have hb1 := (Two.start 9 4 #[.string s] #[.bool false] w).step hB1; have hc1 : w1.cell? ⟨w.heap.size, 0, none⟩ = some (.string s) := hb1.r1.cell (j := 0) rfl; have hd1 : w1.cell? ⟨w.heap.size + 1, 0, none⟩ = some (.bool false) := hb1.r2.cell (j := 0) rfl; have hf1 := hb1.r2.free 0; clear hB1)
    | refine ⟨trivial, ?_⟩)
  have hr5 := hb1.r2.set 0 (.bool true)
  refine leave_none ⟨_, results_cell1 rfl _ _ _ _ rfl ((hr5.eqA (A' := #[.bool true]) (by simp)).cell (j := 0) rfl) Try.underlying4, rfl, ?_⟩
  exact hb1.bel.setCell (by simp) _

set_option maxRecDepth 100000 in
set_option maxHeartbeats 4000000 in
theorem joins_bad1 (s t : ByteArray) (hs : s.size ≤ 500) (ht : t.size ≤ 500) (hv : decide (badN s < 0) = false) (w : World) :
    CallsIn Fence.wide 0 Try.prog 5 #[.string s, .string t] w fun e w' => e = .returned (.bool true) ∧ Below w.heap.size w w' := by
  have hmax : ∀ (ts : Array TypeId) (ty : TypeId) (w : World), (Builtin.max_ ts ty #[.int .i64 s.size, .int .i64 t.size]).run Try.prog w = .ok (.int .i64 (max (s.size : Int) (t.size : Int))) w := fun ts ty w => run_max2 ts ty .i64 _ _ w
  have hgt : decide ((500 : Int) < max (s.size : Int) (t.size : Int)) = false := by rw [decide_eq_false_iff_not]; omega
  have LV1 := fun w => valid_any s (by omega) w
  rw [hv] at LV1
  replace LV1 := hid LV1
  clear hv
  refine callsIn_of_wp_marks Try.func5 rfl trivial ?_
  simp only [Try.ntmps5, List.size_toArray, List.length_cons, List.length_nil, Nat.reduceAdd, Nat.reduceSub, Array.replicate_succ, Array.replicate_zero, List.push_toArray, List.append_toArray, List.nil_append, List.cons_append]
  gi_wp2_with (first
    | (refine ⟨trivial, rfl, ?_⟩; gi_at_call 7; refine (callsIn_wide.2 (awake_any _)).mono ?_; rintro e w1 ⟨rfl, hB1⟩; have hb1 := (Two.start 9 4 #[.string s] #[.bool false] w).step hB1; have hc1 : w1.cell? ⟨w.heap.size, 0, none⟩ = some (.string s) := hb1.r1.cell (j := 0) rfl; have hd1 : w1.cell? ⟨w.heap.size + 1, 0, none⟩ = some (.bool false) := hb1.r2.cell (j := 0) rfl; have hf1 := hb1.r2.free 0; clear hB1)
    | (refine ⟨trivial, rfl, ?_⟩; gi_at_call 12; with_reducible refine (callsIn_wide.2 (LV1.out _)).mono ?_; rintro e w2 ⟨rfl, hB2⟩; have hb2 := hb1.step hB2; have hc2 : w2.cell? ⟨w.heap.size, 0, none⟩ = some (.string s) := hb2.r1.cell (j := 0) rfl; have hd2 : w2.cell? ⟨w.heap.size + 1, 0, none⟩ = some (.bool false) := hb2.r2.cell (j := 0) rfl; have hf2 := hb2.r2.free 0; clear hB2)
    | refine ⟨trivial, ?_⟩)
  have hr5 := hb2.r2.set 0 (.bool true)
  refine leave_none ⟨_, results_cell1 rfl _ _ _ _ rfl ((hr5.eqA (A' := #[.bool true]) (by simp)).cell (j := 0) rfl) Try.underlying4, rfl, ?_⟩
  exact hb2.bel.setCell (by simp) _

set_option maxRecDepth 100000 in
set_option maxHeartbeats 4000000 in
theorem joins_bad2 (s t : ByteArray) (hs : s.size ≤ 500) (ht : t.size ≤ 500) (hv : decide (badN s < 0) = true) (hu : decide (badN t < 0) = false) (w : World) :
    CallsIn Fence.wide 0 Try.prog 5 #[.string s, .string t] w fun e w' => e = .returned (.bool true) ∧ Below w.heap.size w w' := by
  have hmax : ∀ (ts : Array TypeId) (ty : TypeId) (w : World), (Builtin.max_ ts ty #[.int .i64 s.size, .int .i64 t.size]).run Try.prog w = .ok (.int .i64 (max (s.size : Int) (t.size : Int))) w := fun ts ty w => run_max2 ts ty .i64 _ _ w
  have hgt : decide ((500 : Int) < max (s.size : Int) (t.size : Int)) = false := by rw [decide_eq_false_iff_not]; omega
  have LV1 := fun w => valid_any s (by omega) w
  have LV2 := fun w => valid_any t (by omega) w
  rw [hv] at LV1
  rw [hu] at LV2
  replace LV1 := hid LV1
  replace LV2 := hid LV2
  clear hv hu
  refine callsIn_of_wp_marks Try.func5 rfl trivial ?_
  simp only [Try.ntmps5, List.size_toArray, List.length_cons, List.length_nil, Nat.reduceAdd, Nat.reduceSub, Array.replicate_succ, Array.replicate_zero, List.push_toArray, List.append_toArray, List.nil_append, List.cons_append]
  gi_wp2_with (first
    | (refine ⟨trivial, rfl, ?_⟩; gi_at_call 7; refine (callsIn_wide.2 (awake_any _)).mono ?_; rintro e w1 ⟨rfl, hB1⟩; have hb1 := (Two.start 9 4 #[.string s] #[.bool false] w).step hB1; have hc1 : w1.cell? ⟨w.heap.size, 0, none⟩ = some (.string s) := hb1.r1.cell (j := 0) rfl; have hd1 : w1.cell? ⟨w.heap.size + 1, 0, none⟩ = some (.bool false) := hb1.r2.cell (j := 0) rfl; have hf1 := hb1.r2.free 0; clear hB1)
    | (refine ⟨trivial, rfl, ?_⟩; gi_at_call 12; with_reducible refine (callsIn_wide.2 (LV1.out _)).mono ?_; rintro e w2 ⟨rfl, hB2⟩; have hb2 := hb1.step hB2; have hc2 : w2.cell? ⟨w.heap.size, 0, none⟩ = some (.string s) := hb2.r1.cell (j := 0) rfl; have hd2 : w2.cell? ⟨w.heap.size + 1, 0, none⟩ = some (.bool false) := hb2.r2.cell (j := 0) rfl; have hf2 := hb2.r2.free 0; clear hB2)
    | (refine ⟨trivial, rfl, ?_⟩; gi_at_call 12; with_reducible refine (callsIn_wide.2 (LV2.out _)).mono ?_; rintro e w3 ⟨rfl, hB3⟩; have hb3 := hb2.step hB3; have hc3 : w3.cell? ⟨w.heap.size, 0, none⟩ = some (.string s) := hb3.r1.cell (j := 0) rfl; have hd3 : w3.cell? ⟨w.heap.size + 1, 0, none⟩ = some (.bool false) := hb3.r2.cell (j := 0) rfl; have hf3 := hb3.r2.free 0; clear hB3)
    | refine ⟨trivial, ?_⟩)
  have hr5 := hb3.r2.set 0 (.bool true)
  refine leave_none ⟨_, results_cell1 rfl _ _ _ _ rfl ((hr5.eqA (A' := #[.bool true]) (by simp)).cell (j := 0) rfl) Try.underlying4, rfl, ?_⟩
  exact hb3.bel.setCell (by simp) _

theorem utfJoins_walk (s t : ByteArray) (_hs : s.size ≤ 140737488351232) (_ht : t.size ≤ 140737488351232) (w : World) :
    Calls Try.prog 5 #[.string s, .string t] w fun e w' => e = .returned (.bool true) ∧ Below w.heap.size w w' := by
  refine (callsIn_wide (n := 0)).1 ?_
  by_cases hb : (500 : Int) < max (s.size : Int) (t.size : Int)
  · exact joins_big s t (decide_eq_true hb) w
  · by_cases h1 : badN s < 0
    · by_cases h2 : badN t < 0
      · obtain ⟨ps, p1, p2, _⟩ := flat_of h1
        obtain ⟨qs, q1, q2, _⟩ := flat_of h2
        exact joins_main s t (by omega) (by omega) ps qs p1 q1 p2 q2 w
      · exact joins_bad2 s t (by omega) (by omega) (decide_eq_true h1) (decide_eq_false h2) w
    · exact joins_bad1 s t (by omega) (by omega) (decide_eq_false h1) w

end Go.Proofs.Ytbedanlkkidkkab
