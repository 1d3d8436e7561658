/- The law UtfReads. -/
import Derived.Test.YtbedanlkkidkkabUtfG
namespace Go.Proofs.Ytbedanlkkidkkab
open Go Go.RowKit
set_option linter.unusedSimpArgs false
attribute [local go_sem] Oper.semAt_some

set_option maxRecDepth 100000 in
set_option maxHeartbeats 4000000 in
theorem reads_main (s : ByteArray) (hs : s.size ≤ 1000) (u : Int) (h0 : 0 ≤ u) (h1 : u ≤ 255) (w : World) :
    CallsIn Fence.wide 0 Try.prog 3 #[.string s, .int .u8 u] w fun e w' => e = .returned (.bool true) ∧ Below w.heap.size w w' := by
  have hgt : decide ((1000 : Int) < (s.size : Int)) = false := by rw [decide_eq_false_iff_not]; omega
  have LC := fun w => count_any s (by omega) w
  have LB := fun w => bad_any s (by omega) w
  have LV := fun w => valid_any s (by omega) w
  have LR := fun w => refRunes_any s hs w
  have hlen : (runesN s.data.toList).length ≤ 1000 := by
    have h1 := runesN_len s.data.toList
    have h5 : s.data.toList.length = s.size := by simp
    omega
  obtain ⟨R, hR⟩ : ∃ R, R = runesN s.data.toList := ⟨_, rfl⟩
  rw [← hR] at LC LR hlen
  replace hR := hid hR
  replace LC := hid LC
  obtain ⟨bv, hbv⟩ : ∃ bv, decide (badN s < 0) = bv := ⟨_, rfl⟩
  rw [hbv] at LV
  replace LB := hid LB
  replace LV := hid LV
  replace LR := hid LR
  refine callsIn_of_wp_marks Try.func3 rfl trivial ?_
  simp only [Try.ntmps3, List.size_toArray, List.length_cons, List.length_nil, Nat.reduceAdd, Nat.reduceSub, Array.replicate_succ, Array.replicate_zero, List.push_toArray, List.append_toArray, List.nil_append, List.cons_append]
  gi_wp2_with (first
    | (refine ⟨trivial, rfl, ?_⟩; gi_at_call 7; refine (callsIn_wide.2 (awake_any _)).mono ?_; rintro e w1 ⟨rfl, hB1⟩; have hb1 := (Two.start 5 4 #[.int .u8 u] #[.bool false] w).step hB1; have hc1 : w1.cell? ⟨w.heap.size, 0, none⟩ = some (.int .u8 u) := hb1.r1.cell (j := 0) rfl; clear hB1)
    | (refine ⟨trivial, rfl, ?_⟩; gi_at_call 8; refine (callsIn_wide.2 (LR.out _)).mono ?_; rintro e w2 ⟨v1, v2, rfl, hn1, hn2, hB2⟩; have hb2 := hb1.step hB2; obtain ⟨p1, k1, rfl, hp1⟩ := hn1.shape (List.length_map _); obtain ⟨p2, k2, rfl, hp2⟩ := hn2.shape (List.length_map _)
       replace hn1 := hid hn1; replace hn2 := hid hn2; replace hp1 := hid hp1; replace hp2 := hid hp2; replace hb2 := hid hb2; replace hb1 := hid hb1; replace hB2 := hid hB2)
    | (refine ⟨trivial, rfl, ?_⟩; gi_at_call 9; refine (callsIn_wide.2 (runes_make s _)).mono ?_; rintro e w' ⟨rfl, rfl⟩))
  have hB0 : w.heap.size + 2 ≤ w1.heap.size := hb1.out.sz
  have hbb : w1.heap.size ≤ w2.heap.size := hB2.out.size
  obtain ⟨V1, hV1⟩ : ∃ V, V = Value.slice p1 R.length k1 := ⟨_, rfl⟩
  obtain ⟨V2, hV2⟩ : ∃ V, V = Value.slice p2 R.length k2 := ⟨_, rfl⟩
  generalize hW0 : World.alloc _ (Obj.cells #[Value.string s] 9) = W0
  replace hn1 := hn1.out
  replace hn2 := hn2.out
  rw [← hV1] at hn1 hW0
  rw [← hV2] at hn2 hW0
  have hsz0 : w2.heap.size + 4 ≤ W0.heap.size ∧ W0.heap.size ≤ w2.heap.size + 4 := by rw [← hW0]; simp
  have m5 : RowAt W0 w2.heap.size 23 #[V1] := by rw [← hW0]; exact (((RowAt.new w2 _ _).alloc _).alloc _).alloc _
  have m6 : RowAt W0 (w2.heap.size + 1) 23 #[V2] := by rw [← hW0]; have := RowAt.new (w2.alloc (.cells #[V1] 23)) #[V2] 23; rw [World.size_alloc] at this; exact (this.alloc _).alloc _
  have m8 : RowAt W0 (w2.heap.size + 2) 3 #[.int .i64 0] := by rw [← hW0]; have := RowAt.new ((w2.alloc (.cells #[V1] 23)).alloc (.cells #[V2] 23)) #[.int .i64 0] 3; rw [World.size_alloc, World.size_alloc] at this; exact this.alloc _
  have m9 : RowAt W0 (w2.heap.size + 3) 9 #[.string s] := by rw [← hW0]; have := RowAt.new (((w2.alloc (.cells #[V1] 23)).alloc (.cells #[V2] 23)).alloc (.cells #[.int .i64 0] 3)) #[.string s] 9; rwa [World.size_alloc, World.size_alloc, World.size_alloc] at this
  have hk0 : Kept (fun _ => False) w2 W0 := by rw [← hW0]; exact ((((Kept.refl _ _).alloc _).alloc _).alloc _).alloc _
  have hS0 : Reads w u w1.heap.size w2.heap.size V1 V2 R W0 := by
    refine ⟨hb2.out.kept hk0 (fun _ h => h.elim), m5, m6, hn1.kept hk0 (fun _ _ h => h), hn2.kept hk0 (fun _ _ h => h), hB0, hbb, fun g hg => World.ownsRow.lt hn1 g hg, fun g hg => World.ownsRow.lt hn2 g hg⟩
  clear hn1 hn2 hW0 m5 m6 hk0 hb1 hb2 hc1 hB2
  refine wp_iter_put (gf := 20) (lb := #[.pointer (some ⟨w2.heap.size + 3, 0, none⟩)]) rfl (enters_of Try.func20 (by kernel_rfl) rfl) (runes_on s (by omega) (w2.heap.size + 3) W0 m9)
    (fun _ h => h.elim) (fun k hk => by subst hk; exact m9.lt) (fun _ => rfl) (fun x => [(9, .int .i64 (x.1 : Nat)), (10, .int .i32 (x.2 : Nat))])
    (fun pre W => Reads w u w1.heap.size w2.heap.size V1 V2 R W ∧ RowAt W (w2.heap.size + 2) 3 #[.int .i64 (pre.length : Nat)]) (fun _ _ _ => False) ?hI ?hIx ⟨hS0, m8⟩ ?assign ?body ?done ?stop
  case hI =>
    rintro pre X Y ⟨h1, h2⟩ hk
    have hT : ∀ k, (False ∨ twoOf W0.heap.size k) → w2.heap.size + 4 ≤ k := by rintro k (h | h | h); exact h.elim; all_goals omega
    exact ⟨h1.kept hk (fun k hk => by have := hT k hk; omega), hk.row h2 (fun x => by have := hT _ x; omega)⟩
  case hIx => intro _ _ _ _ h; exact h.elim
  case assign =>
    intro l x W K hK
    gi_wp2
    simpa [encR, putAll] using hK
  case body =>
    rintro pre ⟨at', r⟩ post W hx hWs _ ⟨h1, h2⟩
    rw [← hR.out] at hx
    have hpl : pre.length < R.length := by rw [hx]; simp
    obtain ⟨g1, rfl⟩ := hp1.out (by omega)
    obtain ⟨g2, rfl⟩ := hp2.out (by omega)
    have q1 : W.cell? ⟨g1, pre.length, none⟩ = some (.int .i64 (at' : Nat)) := by
      have := h1.n1; rw [hV1] at this; exact this.at (by rw [hx]; simp)
    have q2 : W.cell? ⟨g2, pre.length, none⟩ = some (.int .i64 (r : Nat)) := by
      have := h1.n2; rw [hV2] at this; exact this.at (by rw [hx]; simp)
    have hge : decide ((R.length : Int) ≤ (pre.length : Int)) = false := by rw [decide_eq_false_iff_not]; omega
    have q5 : W.cell? ⟨w2.heap.size, 0, none⟩ = some (.slice (some ⟨g1, 0, none⟩) R.length k1) := by rw [← hV1]; exact h1.c5.cell (j := 0) rfl
    have q6 : W.cell? ⟨w2.heap.size + 1, 0, none⟩ = some (.slice (some ⟨g2, 0, none⟩) R.length k2) := by rw [← hV2]; exact h1.c6.cell (j := 0) rfl
    have q8 : W.cell? ⟨w2.heap.size + 2, 0, none⟩ = some (.int .i64 (pre.length : Nat)) := h2.cell (j := 0) rfl
    have qf := h2.free 0
    have hlt : (pre.length : Int) < (R.length : Int) := by omega
    have hr : (r : Int) ≤ 1114111 := by
      have hm : (at', r) ∈ runesN s.data.toList := by rw [← hR.out, hx]; simp
      have := point_nat (runesN_all _ _ hm).1
      omega
    replace hx := hid hx
    simp only [putAll, encR, List.zip_toArray, List.foldl_toArray', List.foldl_toArray, List.zip_cons_cons, List.zip_nil_left, List.foldl_cons, List.foldl_nil, List.setIfInBounds_toArray, List.set_cons_zero, List.set_cons_succ]
    gi_wp2
    refine ⟨(Kept.refl _ _).setCell _ (.inl ?_) _, ?_, ?_⟩
    · rintro (h | h)
      · rcases h with h | h <;> simp at h <;> omega
      · simp at h
    · exact h1.kept ((Kept.refl (fun k => k = w2.heap.size + 2) _).setCell _ (.inl (by simp)) _) (fun k hk => by omega)
    · exact (h2.set 0 _).eqA (by simp)
  case done =>
    rintro W hWs ⟨h1, h2⟩ hd
    rw [← hR.out] at h2
    gi_wp2_with (refine ⟨trivial, rfl, ?_⟩; gi_at_call 9; refine (callsIn_wide.2 (runes_make s _)).mono ?_; rintro e w' ⟨rfl, rfl⟩)
    generalize hY0 : World.alloc _ (Obj.cells #[Value.string s] 9) = Y0
    have hszY : W.heap.size + 2 ≤ Y0.heap.size ∧ Y0.heap.size ≤ W.heap.size + 2 := by rw [← hY0]; simp
    have n11 : RowAt Y0 W.heap.size 3 #[.int .i64 0] := by rw [← hY0]; exact (RowAt.new W _ _).alloc _
    have n9 : RowAt Y0 (W.heap.size + 1) 9 #[.string s] := by rw [← hY0]; have := RowAt.new (W.alloc (.cells #[.int .i64 0] 3)) #[.string s] 9; rwa [World.size_alloc] at this
    have hkY : Kept (fun _ => False) W Y0 := by rw [← hY0]; exact ((Kept.refl _ _).alloc _).alloc _
    have hS1 := h1.kept hkY (fun _ h => h.elim)
    have n8 := hkY.row h2 (fun h => h)
    have hd1 : Y0.heap[W0.heap.size]? = some (.deferred (some [])) := (hkY.block _ (by omega) (fun h => h)).trans hd
    clear hkY hY0 h1 h2 hd
    refine wp_iter_put (gf := 20) (lb := #[.pointer (some ⟨W.heap.size + 1, 0, none⟩)]) rfl (enters_of Try.func20 (by kernel_rfl) rfl) (runes_on s (by omega) (W.heap.size + 1) Y0 n9)
      (fun _ h => h.elim) (fun k hk => by subst hk; exact n9.lt) (fun _ => rfl) (fun x => [])
      (fun pre X => (Reads w u w1.heap.size w2.heap.size V1 V2 R X ∧ RowAt X (w2.heap.size + 2) 3 #[.int .i64 (R.length : Nat)] ∧ X.heap[W0.heap.size]? = some (.deferred (some []))) ∧ RowAt X W.heap.size 3 #[.int .i64 (pre.length : Nat)] ∧ (pre.length : Int) ≤ u)
      (fun c pre X => ((Reads w u w1.heap.size w2.heap.size V1 V2 R X ∧ RowAt X (w2.heap.size + 2) 3 #[.int .i64 (R.length : Nat)] ∧ X.heap[W0.heap.size]? = some (.deferred (some []))) ∧ RowAt X W.heap.size 3 #[.int .i64 (pre.length : Nat)]) ∧ (pre.length : Int) = u + 1 ∧ c = .exit 2) ?hI2 ?hIx2 ⟨⟨hS1, n8, hd1⟩, n11, by simpa using h0⟩ ?assign2 ?body2 ?done2 ?stop2
    case hI2 =>
      rintro pre X Y ⟨⟨h1, h2, h3⟩, h4, h5⟩ hk
      have hT : ∀ k, (False ∨ twoOf Y0.heap.size k) → W.heap.size + 2 ≤ k := by rintro k (h | h | h); exact h.elim; all_goals omega
      exact ⟨⟨h1.kept hk (fun k hk => by have := hT k hk; omega), hk.row h2 (fun x => by have := hT _ x; omega), (hk.block _ (Array.getElem?_eq_some_iff.1 h3).1 (fun x => by have := hT _ x; omega)).trans h3⟩, hk.row h4 (fun x => by have := hT _ x; omega), h5⟩
    case hIx2 =>
      rintro c pre X Y ⟨⟨⟨h1, h2, h3⟩, h4⟩, h5⟩ hk
      have hT : ∀ k, (False ∨ twoOf Y0.heap.size k) → W.heap.size + 2 ≤ k := by rintro k (h | h | h); exact h.elim; all_goals omega
      exact ⟨⟨⟨h1.kept hk (fun k hk => by have := hT k hk; omega), hk.row h2 (fun x => by have := hT _ x; omega), (hk.block _ (Array.getElem?_eq_some_iff.1 h3).1 (fun x => by have := hT _ x; omega)).trans h3⟩, hk.row h4 (fun x => by have := hT _ x; omega)⟩, h5⟩
    case assign2 =>
      intro l x W K hK
      gi_wp2
      simpa [encR, putAll] using hK
    case body2 =>
      rintro pre ⟨at', r⟩ post X hx hXs _ ⟨⟨h1, h2, h3⟩, h4, h5⟩
      have hpl : pre.length < R.length := by rw [hR.out, hx]; simp
      replace hx := hid hx
      have c11 : X.cell? ⟨W.heap.size, 0, none⟩ = some (.int .i64 (pre.length : Nat)) := h4.cell (j := 0) rfl
      have c0 : X.cell? ⟨w.heap.size, 0, none⟩ = some (.int .u8 u) := h1.two.r1.cell (j := 0) rfl
      have cf := h4.free 0
      have hpl2 : (pre.length : Int) ≤ 1000 := by omega
      have hkX : ∀ v, Kept (fun k => ¬ (twoOf Y0.heap.size k ∨ k = W.heap.size + 1)) X (X.setCell ⟨W.heap.size, 0, none⟩ v) := fun v => (Kept.refl _ _).setCell _ (.inl (by rintro ((h | h) | h) <;> simp at h <;> omega)) _
      have hrow : ∀ v, RowAt (X.setCell ⟨W.heap.size, 0, none⟩ v) W.heap.size 3 #[v] := fun v => (h4.set 0 _).eqA (by simp)
      have hkk : ∀ v, Kept (fun k => k = W.heap.size) X (X.setCell ⟨W.heap.size, 0, none⟩ v) := fun v => (Kept.refl _ _).setCell _ (.inl (by simp)) _
      simp only [putAll, encR, List.zip_toArray, List.foldl_toArray', List.foldl_toArray, List.zip_cons_cons, List.zip_nil_left, List.foldl_cons, List.foldl_nil, List.setIfInBounds_toArray, List.set_cons_zero, List.set_cons_succ]
      replace hV1 := hid hV1
      replace hV2 := hid hV2
      by_cases hle : (pre.length : Int) + 1 ≤ u
      · have hg : decide (u < (pre.length : Int) + 1) = false := by rw [decide_eq_false_iff_not]; omega
        gi_wp2
        exact ⟨hkX _, ⟨h1.kept (hkk _) (fun k hk => by omega), (hkk _).row h2 (fun x => by omega), ((hkk _).block _ (by omega) (fun x => by omega)).trans h3⟩, by simpa using hrow _, by simpa using hle⟩
      · have hg : decide (u < (pre.length : Int) + 1) = true := by rw [decide_eq_true_iff]; omega
        gi_wp2
        refine ⟨hkX _, ⟨⟨h1.kept (hkk _) (fun k hk => by omega), (hkk _).row h2 (fun x => by omega), ((hkk _).block _ (by omega) (fun x => by omega)).trans h3⟩, by simpa using hrow _⟩, ?_, rfl⟩
        simp; omega
    case done2 =>
      rintro X hXs ⟨⟨h1, h2, h3⟩, h4, h5⟩ hd2
      rw [← hR.out] at h4 h5
      have e3 : ∀ q : Sub X, q.x.cell? ⟨w.heap.size, 0, none⟩ = some (.int .u8 u) := fun q => q.cell h1.two.r1 rfl
      have e5 : ∀ q : Sub X, q.x.cell? ⟨w2.heap.size, 0, none⟩ = some (.slice p1 R.length k1) := fun q => by rw [← hV1]; exact q.cell h1.c5 rfl
      have e8 : ∀ q : Sub X, q.x.cell? ⟨w2.heap.size + 2, 0, none⟩ = some (.int .i64 (R.length : Nat)) := fun q => q.cell h2 rfl
      have hmin : ∀ (ts : Array TypeId) (t : TypeId) (w : World), (Builtin.min_ ts t #[.int .i64 (R.length : Nat), .int .i64 (u + 1)]).run Try.prog w = .ok (.int .i64 (R.length : Nat)) w := fun ts t w => by
        rw [run_min2, show min ((R.length : Nat) : Int) (u + 1) = (R.length : Nat) by omega]
      have e11 : ∀ q : Sub X, q.x.cell? ⟨W.heap.size, 0, none⟩ = some (.int .i64 (R.length : Nat)) := fun q => q.cell h4 rfl
      replace hV1 := hid hV1
      replace hV2 := hid hV2
      gi_wp2
      refine wpIn_region_store (by kernel_rfl) (by kernel_rfl) (by kernel_rfl) 34 _ rfl rfl ?_
      simp only [muted, mute]
      repeat (go_big_quiet_step (first
        | (go_at_call 12; with_reducible refine Sub.call _ (LV.out _))
        | (go_at_call 11; with_reducible refine Sub.call _ (LB.out _))
        | (go_at_call 10; with_reducible refine Sub.call _ (LC.out _))))
      refine wpQuiet_nil ?_
      intro q4
      obtain ⟨X4, hX4⟩ : ∃ X4, X4 = q4.x := ⟨_, rfl⟩
      have hS4 := h1.below q4.h
      have hd3 : q4.x.heap[W0.heap.size]? = some (.deferred (some [])) := (q4.h.block _ (Array.getElem?_eq_some_iff.1 h3).1).trans h3
      have hd4 : q4.x.heap[Y0.heap.size]? = some (.deferred (some [])) := (q4.h.block _ (by omega)).trans hd2
      rw [← hX4] at hS4 hd3 hd4 ⊢
      have hfr := hS4.two.r2.free 0
      have hcf : X4.cell? ⟨w.heap.size + 1, 0, none⟩ = some (.bool false) := hS4.two.r2.cell (j := 0) rfl
      unfold Oper.wp
      simp [go_sem, hfr, hcf]
      gi_wp2
      have hr4 := hS4.two.r2.set 0 (.bool true)
      have hne : ∀ v, Kept (fun k => k = w.heap.size + 1) X4 (X4.setCell ⟨w.heap.size + 1, 0, none⟩ v) := fun v => (Kept.refl _ _).setCell _ (.inl (by simp)) _
      have hd5 := ((hne (.bool true)).block _ (Array.getElem?_eq_some_iff.1 hd3).1 (by omega)).trans hd3
      have hd6 := ((hne (.bool true)).block _ (Array.getElem?_eq_some_iff.1 hd4).1 (by omega)).trans hd4
      obtain ⟨X5, hX5⟩ : ∃ X5, X5 = X4.setCell ⟨w.heap.size + 1, 0, none⟩ (.bool true) := ⟨_, rfl⟩
      have hb5 : Below w.heap.size w X5 := by rw [hX5]; exact hS4.two.bel.setCell (by simp) _
      rw [← hX5] at hr4 hd5 hd6 ⊢
      have hr5 : RowAt ((X5.putObj Y0.heap.size (.deferred none)).putObj W0.heap.size (.deferred none)) (w.heap.size + 1) 4 #[.bool true] :=
        (World.putObj_heap_other (by omega)).trans ((World.putObj_heap_other (by omega)).trans (hr4.eqA (by simp)))
      refine leave_two hd6 hd5 (by omega) ⟨_, results_cell1 rfl _ _ _ _ rfl (hr5.cell (j := 0) rfl) Try.underlying4, rfl, ?_⟩
      exact below_kept hb5 (((Kept.refl (fun k => k = W0.heap.size ∨ k = Y0.heap.size) _).putObj _ _ (.inl (.inr rfl))).putObj _ _ (.inl (.inl rfl))) (Nat.le_refl _) (fun k hk => by omega)
    case stop2 =>
      rintro c pre x post X hXs hx ⟨⟨⟨h1, h2, h3⟩, h4⟩, h5, rfl⟩ hd2
      have e3 : ∀ q : Sub X, q.x.cell? ⟨w.heap.size, 0, none⟩ = some (.int .u8 u) := fun q => q.cell h1.two.r1 rfl
      have e5 : ∀ q : Sub X, q.x.cell? ⟨w2.heap.size, 0, none⟩ = some (.slice p1 R.length k1) := fun q => by rw [← hV1]; exact q.cell h1.c5 rfl
      have e8 : ∀ q : Sub X, q.x.cell? ⟨w2.heap.size + 2, 0, none⟩ = some (.int .i64 (R.length : Nat)) := fun q => q.cell h2 rfl
      have hmin : ∀ (ts : Array TypeId) (t : TypeId) (w : World), (Builtin.min_ ts t #[.int .i64 (R.length : Nat), .int .i64 (u + 1)]).run Try.prog w = .ok (.int .i64 (u + 1)) w := fun ts t w => by
        rw [run_min2, show min ((R.length : Nat) : Int) (u + 1) = (u + 1) by have := congrArg List.length hx; rw [← hR.out] at this; simp at this h5; omega]
      have e11 : ∀ q : Sub X, q.x.cell? ⟨W.heap.size, 0, none⟩ = some (.int .i64 (u + 1)) := fun q => by have := q.cell (j := 0) h4 rfl; rw [h5] at this; exact this
      replace hV1 := hid hV1
      replace hV2 := hid hV2
      gi_wp2
      refine wpIn_region_store (by kernel_rfl) (by kernel_rfl) (by kernel_rfl) 34 _ rfl rfl ?_
      simp only [muted, mute]
      repeat (go_big_quiet_step (first
        | (go_at_call 12; with_reducible refine Sub.call _ (LV.out _))
        | (go_at_call 11; with_reducible refine Sub.call _ (LB.out _))
        | (go_at_call 10; with_reducible refine Sub.call _ (LC.out _))))
      refine wpQuiet_nil ?_
      intro q4
      obtain ⟨X4, hX4⟩ : ∃ X4, X4 = q4.x := ⟨_, rfl⟩
      have hS4 := h1.below q4.h
      have hd3 : q4.x.heap[W0.heap.size]? = some (.deferred (some [])) := (q4.h.block _ (Array.getElem?_eq_some_iff.1 h3).1).trans h3
      have hd4 : q4.x.heap[Y0.heap.size]? = some (.deferred (some [])) := (q4.h.block _ (by omega)).trans hd2
      rw [← hX4] at hS4 hd3 hd4 ⊢
      have hfr := hS4.two.r2.free 0
      have hcf : X4.cell? ⟨w.heap.size + 1, 0, none⟩ = some (.bool false) := hS4.two.r2.cell (j := 0) rfl
      unfold Oper.wp
      simp [go_sem, hfr, hcf]
      gi_wp2
      have hr4 := hS4.two.r2.set 0 (.bool true)
      have hne : ∀ v, Kept (fun k => k = w.heap.size + 1) X4 (X4.setCell ⟨w.heap.size + 1, 0, none⟩ v) := fun v => (Kept.refl _ _).setCell _ (.inl (by simp)) _
      have hd5 := ((hne (.bool true)).block _ (Array.getElem?_eq_some_iff.1 hd3).1 (by omega)).trans hd3
      have hd6 := ((hne (.bool true)).block _ (Array.getElem?_eq_some_iff.1 hd4).1 (by omega)).trans hd4
      obtain ⟨X5, hX5⟩ : ∃ X5, X5 = X4.setCell ⟨w.heap.size + 1, 0, none⟩ (.bool true) := ⟨_, rfl⟩
      have hb5 : Below w.heap.size w X5 := by rw [hX5]; exact hS4.two.bel.setCell (by simp) _
      rw [← hX5] at hr4 hd5 hd6 ⊢
      have hr5 : RowAt ((X5.putObj Y0.heap.size (.deferred none)).putObj W0.heap.size (.deferred none)) (w.heap.size + 1) 4 #[.bool true] :=
        (World.putObj_heap_other (by omega)).trans ((World.putObj_heap_other (by omega)).trans (hr4.eqA (by simp)))
      refine leave_two hd6 hd5 (by omega) ⟨_, results_cell1 rfl _ _ _ _ rfl (hr5.cell (j := 0) rfl) Try.underlying4, rfl, ?_⟩
      exact below_kept hb5 (((Kept.refl (fun k => k = W0.heap.size ∨ k = Y0.heap.size) _).putObj _ _ (.inl (.inr rfl))).putObj _ _ (.inl (.inl rfl))) (Nat.le_refl _) (fun k hk => by omega)
  case stop => intro _ _ _ _ _ _ _ h; exact h.elim

set_option maxRecDepth 100000 in
set_option maxHeartbeats 4000000 in
theorem reads_big (s : ByteArray) (hbig : decide ((1000 : Int) < (s.size : Int)) = true) (u : Int) (w : World) :
    CallsIn Fence.wide 0 Try.prog 3 #[.string s, .int .u8 u] w fun e w' => e = .returned (.bool true) ∧ Below w.heap.size w w' := by
  refine callsIn_of_wp_marks Try.func3 rfl trivial ?_
  simp only [Try.ntmps3, List.size_toArray, List.length_cons, List.length_nil, Nat.reduceAdd, Nat.reduceSub, Array.replicate_succ, Array.replicate_zero, List.push_toArray, List.append_toArray, List.nil_append, List.cons_append]
  gi_wp2_with (refine ⟨trivial, rfl, ?_⟩; gi_at_call 7; refine (callsIn_wide.2 (awake_any _)).mono ?_; rintro e w1 ⟨rfl, hB1⟩; have hb1 := (Two.start 5 4 #[.int .u8 u] #[.bool false] w).step hB1; have hd1 : w1.cell? ⟨w.heap.size + 1, 0, none⟩ = some (.bool false) := hb1.r2.cell (j := 0) rfl; have hf1 := hb1.r2.free 0; clear hB1)
  have hr5 := hb1.r2.set 0 (.bool true)
  refine leave_none ⟨_, results_cell1 rfl _ _ _ _ rfl ((hr5.eqA (A' := #[.bool true]) (by simp)).cell (j := 0) rfl) Try.underlying4, rfl, ?_⟩
  exact hb1.bel.setCell (by simp) _

theorem utfReads_walk (s : ByteArray) (u : Int) (hs : s.size ≤ 140737488351232) (wu : (Lit.int .u8 u).wf = true) (w : World) :
    Calls Try.prog 3 #[.string s, .int .u8 u] w fun e w' => e = .returned (.bool true) ∧ Below w.heap.size w w' := by
  refine (callsIn_wide (n := 0)).1 ?_
  have hb := bounds_u8 wu
  by_cases h : s.size ≤ 1000
  · exact reads_main s h u (by omega) (by omega) w
  · exact reads_big s (by rw [decide_eq_true_iff]; omega) u w

end Go.Proofs.Ytbedanlkkidkkab
