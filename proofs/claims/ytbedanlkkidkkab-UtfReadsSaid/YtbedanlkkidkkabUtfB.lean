/- The law UtfWrites. -/
import Derived.Test.YtbedanlkkidkkabUtfA
import Derived.Test.YtbedanlkkidkkabUtf6
namespace Go.Proofs.Ytbedanlkkidkkab
open Go Go.RowKit
set_option linter.unusedSimpArgs false
attribute [local go_sem] Oper.semAt_some

/-- Two boxes of one cell each, made at the outset. -/
structure Two (t1 t2 : TypeId) (A1 A2 : Array Value) (w W : World) : Prop where
  r1 : RowAt W w.heap.size t1 A1
  r2 : RowAt W (w.heap.size + 1) t2 A2
  bel : Below w.heap.size w W
  sz : w.heap.size + 2 ≤ W.heap.size
theorem Two.start (t1 t2 : TypeId) (A1 A2 : Array Value) (w : World) : Two t1 t2 A1 A2 w ((w.alloc (.cells A1 t1)).alloc (.cells A2 t2)) :=
  ⟨(RowAt.new w A1 t1).alloc _, by have := RowAt.new (w.alloc (.cells A1 t1)) A2 t2; rwa [World.size_alloc] at this, below_al (below_al (Below.refl _ _) _) _, by simp⟩
theorem Two.step {t1 t2 : TypeId} {A1 A2 : Array Value} {w W W' : World} (h : Two t1 t2 A1 A2 w W) (hB : Below W.heap.size W W') : Two t1 t2 A1 A2 w W' :=
  ⟨h.r1.below hB h.r1.lt, h.r2.below hB h.r2.lt, below_cat hB h.bel, Nat.le_trans h.sz hB.size⟩
theorem Two.alloc {t1 t2 : TypeId} {A1 A2 : Array Value} {w W : World} (h : Two t1 t2 A1 A2 w W) (o : Obj) : Two t1 t2 A1 A2 w (W.alloc o) :=
  ⟨h.r1.alloc _, h.r2.alloc _, below_al h.bel _, by have := h.sz; simp; omega⟩
theorem Two.kept {t1 t2 : TypeId} {A1 A2 : Array Value} {w W W' : World} {T : Nat → Prop} (h : Two t1 t2 A1 A2 w W) (hk : Kept T W W') (hT : ∀ k, T k → w.heap.size + 2 ≤ k) : Two t1 t2 A1 A2 w W' :=
  ⟨hk.row h.r1 (fun x => by have := hT _ x; omega), hk.row h.r2 (fun x => by have := hT _ x; omega), below_kept h.bel hk (Nat.le_refl _) (fun k x => by have := hT _ x; omega), Nat.le_trans h.sz hk.size⟩

theorem Two.setOther {t1 t2 : TypeId} {A1 A2 : Array Value} {w W : World} (h : Two t1 t2 A1 A2 w W) (a : Addr) (v : Value) (ha : w.heap.size + 2 ≤ a.block) : Two t1 t2 A1 A2 w (W.setCell a v) :=
  ⟨h.r1.other a v (by omega), h.r2.other a v (by omega), h.bel.setCell (by omega) v, by rw [World.size_setCell]; exact h.sz⟩

theorem run_min2 {P : Program} (ts : Array TypeId) (t : TypeId) (k : IntKind) (x y : Int) (w : World) : (Builtin.min_ ts t #[.int k x, .int k y]).run P w = .ok (.int k (min x y)) w := by
  have e : ∀ a b : Int, (if b < a then b else a) = min a b := fun a b => by omega
  simp only [Builtin.min_, List.foldlM_cons, List.foldlM_nil, Builtin.min2, Sem.run_bind, Sem.run_pure, Result.andThen, e]
/-- The result lies in a box of one cell. -/
theorem results_cell1 {P : Program} {fn : Func} {p : Tmp} {ty : TypeId} (h : fn.results = #[.cell p ty]) (tmps : Array Value) (w : World) (b : Nat) (v : Value) (hp : tmps.getD p undef = .pointer (some ⟨b, 0, none⟩))
    (hc : w.cell? ⟨b, 0, none⟩ = some v) (hu : P.underlying ty = some .bool) : (results fn tmps).run P w = .ok v w := by
  have hp' : tmps[p]?.getD undef = .pointer (some ⟨b, 0, none⟩) := by simpa using hp
  simp [results, h, hp', asAddr, loadVar, isAgg, run_underlying hu, go_sem, hc]

set_option maxRecDepth 100000 in
set_option maxHeartbeats 4000000 in
theorem writes_point (m : Nat) (hp : isPoint (m : Nat) = true) (w : World) : CallsIn Fence.wide 0 Try.prog 4 #[.int .i32 (m : Int)] w fun e w' => e = .returned (.bool true) ∧ Below w.heap.size w w' := by
  have hm := point_nat hp
  have hsz : (putS (m : Int)).size ≤ 4 := by
    have := put_len hp
    have h4 := sizeN_pos (m : Nat)
    have e : (putS (m : Int)).size = (putN (m : Int)).length := rfl
    rw [e, this]; omega
  have hsz1 : 1 ≤ (putS (m : Int)).size := by
    have := put_len hp
    have h4 := sizeN_pos (m : Nat)
    have e : (putS (m : Int)).size = (putN (m : Int)).length := rfl
    rw [e, this]; omega
  obtain ⟨hru, hbad⟩ := putS_runes hp
  have LU := fun w => put_rune (m : Int) w
  have LR := fun w => refPut_any (m : Int) w
  have LT := fun w => refPoint_any (m : Int) w
  have LV := fun w => valid_any (putS (m : Int)) (by omega) w
  rw [hbad] at LV
  rw [hp] at LT
  obtain ⟨S, hS⟩ : ∃ S, S = putS (m : Int) := ⟨_, rfl⟩
  rw [← hS] at LU LR LV hsz hsz1 hru
  have hem : S.toList.isEmpty = false := toList_empty hsz1
  replace LU := hid LU
  replace LR := hid LR
  replace LT := hid LT
  replace LV := hid LV
  replace hru := hid hru
  replace hp := hid hp
  clear hbad hS
  refine callsIn_of_wp_marks Try.func4 rfl trivial ?_
  simp only [Try.ntmps4, List.size_toArray, List.length_cons, List.length_nil, Nat.reduceAdd, Nat.reduceSub, Array.replicate_succ, Array.replicate_zero, List.push_toArray, List.append_toArray, List.nil_append, List.cons_append]
  gi_wp2_with (first
    | (refine ⟨trivial, rfl, ?_⟩; gi_at_call 7; refine (callsIn_wide.2 (awake_any _)).mono ?_; rintro e w1 ⟨rfl, hB1⟩; have hb1 := (Two.start 21 4 #[.int .i32 (m : Int)] #[.bool false] w).step hB1; have hc1 := hb1.r1.cell (j := 0) rfl; clear hB1)
    | (refine ⟨trivial, rfl, ?_⟩; gi_at_call 13; refine (callsIn_wide.2 (LU.out _)).mono ?_; rintro e w2 ⟨rfl, hB2⟩; have hb2 := hb1.step hB2; have hc2 := hb2.r1.cell (j := 0) rfl; clear hB2)
    | (refine ⟨trivial, rfl, ?_⟩; gi_at_call 14; refine (callsIn_wide.2 (LR.out _)).mono ?_; rintro e w3 ⟨rfl, hB3⟩; have hb3 := hb2.step hB3; have hc3 := hb3.r1.cell (j := 0) rfl; clear hB3)
    | (refine ⟨trivial, rfl, ?_⟩; gi_at_call 15; refine (callsIn_wide.2 (LT.out _)).mono ?_; rintro e w' ⟨rfl, rfl⟩)
    | (refine ⟨trivial, rfl, ?_⟩; gi_at_call 9; refine (callsIn_wide.2 (runes_make S _)).mono ?_; rintro e w' ⟨rfl, rfl⟩))
  obtain ⟨W0, hW0⟩ : ∃ W0, (w3.alloc (.cells #[.int .i64 0] 3)).alloc (.cells #[.string S] 9) = W0 := ⟨_, rfl⟩
  have hc : RowAt W0 w3.heap.size 3 #[.int .i64 0] := by rw [← hW0]; exact (RowAt.new w3 _ _).alloc _
  have hbx : RowAt W0 (w3.heap.size + 1) 9 #[.string S] := by rw [← hW0]; have := RowAt.new (w3.alloc (.cells #[.int .i64 0] 3)) #[.string S] 9; rwa [World.size_alloc] at this
  have hT : Two 21 4 #[.int .i32 (m : Int)] #[.bool false] w W0 := by rw [← hW0]; exact (hb3.alloc _).alloc _
  have hsz0 : w3.heap.size + 2 ≤ W0.heap.size := by rw [← hW0]; simp
  have hsz3 : w.heap.size + 2 ≤ w3.heap.size := hb3.sz
  rw [hW0]
  clear hW0 hc1 hc2 hc3 hb1 hb2
  refine wp_iter (gf := 20) (lb := #[.pointer (some ⟨w3.heap.size + 1, 0, none⟩)]) rfl (enters_of Try.func20 (by kernel_rfl) rfl) (runes_on S (by omega) (w3.heap.size + 1) W0 hbx)
    (fun _ h => h.elim) (fun k hk => by subst hk; exact hbx.lt) (fun _ => rfl)
    (fun pre W => RowAt W w3.heap.size 3 #[.int .i64 (pre.length : Nat)] ∧ Two 21 4 #[.int .i32 (m : Int)] #[.bool false] w W) (fun _ _ _ => False) ?hI ?hIx ⟨hc, hT⟩
    (fun x a' _ => a' = { tmps := #[.int .i32 (m : Int), .pointer (some ⟨w.heap.size, 0, none⟩), .pointer (some ⟨w.heap.size + 1, 0, none⟩), .string S, .pointer (some ⟨w3.heap.size, 0, none⟩), .int .i64 (x.1 : Nat), .int .i32 (x.2 : Nat), .bool true, .bool false,
      .int .i32 (m : Int), .string S, .string S, .int .i32 (m : Int), .int .i64 (m : Int), .string S, .bool false, .bool false, .string S, .bool false, .int .i32 (m : Int), .int .i64 (m : Int), .bool true, .bool false, .bool false, .string S,
      .func (.func 20) #[] #[.pointer (some ⟨w3.heap.size + 1, 0, none⟩)], .int .i64 (x.1 : Nat), .int .i32 (x.2 : Nat), undef, undef, undef, undef, undef, undef, undef, undef, undef, undef, undef, undef, undef, undef, undef, undef, undef, undef], defers := [] }) ?hAx ?assign ?body ?done ?stop
  case hI =>
    rintro pre X Y ⟨h1, h2⟩ hk
    exact ⟨hk.row h1 (fun h => by rcases h with h | h | h <;> first | exact h | omega), h2.kept hk (fun k h => by rcases h with h | h | h; exact h.elim; all_goals omega)⟩
  case hIx => intro _ _ _ _ h; exact h.elim
  case hAx => intro _ _ _ _ h _; exact h
  case assign =>
    intro l pre x W K _ hi hK
    gi_wp2
    exact hK _ _ (Kept.refl _ _) hi (by simp [encR])
  case body =>
    rintro pre x post a' W hx hWs _ ⟨h1, h2⟩ rfl
    rw [hru.out] at hx
    obtain ⟨rfl, rfl⟩ : pre = [] ∧ x = (0, m) := by
      cases pre with
      | nil => simp at hx; exact ⟨rfl, hx.1.symm⟩
      | cons y ys => simp at hx
    have hcell : W.cell? ⟨w3.heap.size, 0, none⟩ = some (.int .i64 0) := h1.cell (j := 0) rfl
    have hcr : W.cell? ⟨w.heap.size, 0, none⟩ = some (.int .i32 (m : Int)) := h2.r1.cell (j := 0) rfl
    have hfr := h1.free 0
    clear hx
    gi_wp2
    refine ⟨(Kept.refl _ _).setCell _ (.inl ?_) _, ?_, ?_⟩
    · rintro (h | h)
      · rcases h with h | h <;> simp at h <;> omega
      · simp at h
    · exact (h1.set 0 _).eqA (by simp)
    · exact h2.setOther _ _ hsz3
  case done =>
    rintro W hWs ⟨h1, h2⟩ hd
    rw [hru.out] at h1
    have hcell : W.cell? ⟨w3.heap.size, 0, none⟩ = some (.int .i64 1) := h1.cell (j := 0) rfl
    have hmin : ∀ (ts : Array TypeId) (t : TypeId) (w : World), (Builtin.min_ ts t #[.int .i64 S.size, .int .i64 1]).run Try.prog w = .ok (.int .i64 1) w := fun ts t w => by
      rw [run_min2, show min (S.size : Int) 1 = 1 by omega]
    gi_wp2_with (refine ⟨trivial, rfl, ?_⟩; gi_at_call 12; refine (callsIn_wide.2 (LV.out _)).mono ?_; rintro e w4 ⟨rfl, hB4⟩; have hb4 := h2.step hB4; have hf4 := hb4.r2.free 0; have hc4 : w4.cell? ⟨w.heap.size + 1, 0, none⟩ = some (.bool false) := hb4.r2.cell (j := 0) rfl)
    have hr4 := hb4.r2.set 0 (.bool true)
    have hd4 : (w4.setCell ⟨w.heap.size + 1, 0, none⟩ (.bool true)).heap[W0.heap.size]? = some (.deferred (some [])) := by
      rw [Below.heap_setCell _ _ _ _ (by simp; omega), hB4.block _ (by omega)]; exact hd
    have hr5 : RowAt ((w4.setCell ⟨w.heap.size + 1, 0, none⟩ (.bool true)).putObj W0.heap.size (.deferred none)) (w.heap.size + 1) 4 #[.bool true] := (World.putObj_heap_other (by omega)).trans (hr4.eqA (by simp))
    refine leave_one hd4 ⟨_, results_cell1 rfl _ _ _ _ rfl (hr5.cell (j := 0) rfl) Try.underlying4, ?_, ?_⟩
    · rfl
    · exact below_kept (hb4.bel.setCell (by simp) _) ((Kept.refl (fun k => k = W0.heap.size) _).putObj _ _ (.inl rfl)) (Nat.le_refl _) (fun k hk => by omega)
  case stop => intro _ _ _ _ _ _ _ h; exact h.elim

set_option maxRecDepth 100000 in
set_option maxHeartbeats 4000000 in
theorem writes_not m (hp : isPoint m = false) (hm : -2147483648 ≤ m ∧ m ≤ 2147483647) (w : World) : CallsIn Fence.wide 0 Try.prog 4 #[.int .i32 m] w fun e w' => e = .returned (.bool true) ∧ Below w.heap.size w w' := by
  have hS : putS m = ⟨#[]⟩ := by unfold putS putN; rw [if_neg (by rw [hp]; decide)]
  have hsz : (putS m).size = 0 := by rw [hS]; rfl
  have hem : (putS m).toList.isEmpty = true := by rw [hS, ByteArray.toList_eq]; rfl
  have hru : runesN (putS m).data.toList = [] := by rw [hS]; rfl
  have hbad : badN (putS m) = -1 := by rw [hS]; rfl
  clear hS
  have LU := fun w => put_rune m w
  have LR := fun w => refPut_any m w
  have LT := fun w => refPoint_any m w
  have LV := fun w => valid_any (putS m) (by omega) w
  rw [hbad] at LV
  rw [hp] at LT
  obtain ⟨S, hS⟩ : ∃ S, S = putS m := ⟨_, rfl⟩
  rw [← hS] at LU LR LV hsz hem hru
  replace LU := hid LU
  replace LR := hid LR
  replace LT := hid LT
  replace LV := hid LV
  replace hru := hid hru
  replace hp := hid hp
  clear hbad hS
  refine callsIn_of_wp_marks Try.func4 rfl trivial ?_
  simp only [Try.ntmps4, List.size_toArray, List.length_cons, List.length_nil, Nat.reduceAdd, Nat.reduceSub, Array.replicate_succ, Array.replicate_zero, List.push_toArray, List.append_toArray, List.nil_append, List.cons_append]
  gi_wp2_with (first
    | (refine ⟨trivial, rfl, ?_⟩; gi_at_call 7; refine (callsIn_wide.2 (awake_any _)).mono ?_; rintro e w1 ⟨rfl, hB1⟩; have hb1 := (Two.start 21 4 #[.int .i32 m] #[.bool false] w).step hB1; have hc1 := hb1.r1.cell (j := 0) rfl; clear hB1)
    | (refine ⟨trivial, rfl, ?_⟩; gi_at_call 13; refine (callsIn_wide.2 (LU.out _)).mono ?_; rintro e w2 ⟨rfl, hB2⟩; have hb2 := hb1.step hB2; have hc2 := hb2.r1.cell (j := 0) rfl; clear hB2)
    | (refine ⟨trivial, rfl, ?_⟩; gi_at_call 14; refine (callsIn_wide.2 (LR.out _)).mono ?_; rintro e w3 ⟨rfl, hB3⟩; have hb3 := hb2.step hB3; have hc3 := hb3.r1.cell (j := 0) rfl; clear hB3)
    | (refine ⟨trivial, rfl, ?_⟩; gi_at_call 15; refine (callsIn_wide.2 (LT.out _)).mono ?_; rintro e w' ⟨rfl, rfl⟩)
    | (refine ⟨trivial, rfl, ?_⟩; gi_at_call 9; refine (callsIn_wide.2 (runes_make S _)).mono ?_; rintro e w' ⟨rfl, rfl⟩))
  obtain ⟨W0, hW0⟩ : ∃ W0, (w3.alloc (.cells #[.int .i64 0] 3)).alloc (.cells #[.string S] 9) = W0 := ⟨_, rfl⟩
  have hc : RowAt W0 w3.heap.size 3 #[.int .i64 0] := by rw [← hW0]; exact (RowAt.new w3 _ _).alloc _
  have hbx : RowAt W0 (w3.heap.size + 1) 9 #[.string S] := by rw [← hW0]; have := RowAt.new (w3.alloc (.cells #[.int .i64 0] 3)) #[.string S] 9; rwa [World.size_alloc] at this
  have hT : Two 21 4 #[.int .i32 m] #[.bool false] w W0 := by rw [← hW0]; exact (hb3.alloc _).alloc _
  have hsz0 : w3.heap.size + 2 ≤ W0.heap.size := by rw [← hW0]; simp
  have hsz3 : w.heap.size + 2 ≤ w3.heap.size := hb3.sz
  rw [hW0]
  clear hW0 hc1 hc2 hc3 hb1 hb2
  refine wp_iter (gf := 20) (lb := #[.pointer (some ⟨w3.heap.size + 1, 0, none⟩)]) rfl (enters_of Try.func20 (by kernel_rfl) rfl) (runes_on S (by omega) (w3.heap.size + 1) W0 hbx)
    (fun _ h => h.elim) (fun k hk => by subst hk; exact hbx.lt) (fun _ => rfl)
    (fun pre W => RowAt W w3.heap.size 3 #[.int .i64 (pre.length : Nat)] ∧ Two 21 4 #[.int .i32 m] #[.bool false] w W) (fun _ _ _ => False) ?hI ?hIx ⟨hc, hT⟩
    (fun x a' _ => a' = { tmps := #[.int .i32 m, .pointer (some ⟨w.heap.size, 0, none⟩), .pointer (some ⟨w.heap.size + 1, 0, none⟩), .string S, .pointer (some ⟨w3.heap.size, 0, none⟩), .int .i64 (x.1 : Nat), .int .i32 (x.2 : Nat), .bool true, .bool false,
      .int .i32 m, .string S, .string S, .int .i32 m, .int .i64 m, .string S, .bool false, .bool false, .string S, .bool true, .int .i32 m, .int .i64 m, .bool false, .bool false, .bool false, .string S,
      .func (.func 20) #[] #[.pointer (some ⟨w3.heap.size + 1, 0, none⟩)], .int .i64 (x.1 : Nat), .int .i32 (x.2 : Nat), undef, undef, undef, undef, undef, undef, undef, undef, undef, undef, undef, undef, undef, undef, undef, undef, undef, undef], defers := [] }) ?hAx ?assign ?body ?done ?stop
  case hI =>
    rintro pre X Y ⟨h1, h2⟩ hk
    exact ⟨hk.row h1 (fun h => by rcases h with h | h | h <;> first | exact h | omega), h2.kept hk (fun k h => by rcases h with h | h | h; exact h.elim; all_goals omega)⟩
  case hIx => intro _ _ _ _ h; exact h.elim
  case hAx => intro _ _ _ _ h _; exact h
  case assign =>
    intro l pre x W K _ hi hK
    gi_wp2
    exact hK _ _ (Kept.refl _ _) hi (by simp [encR])
  case body =>
    rintro pre x post a' W hx hWs _ ⟨h1, h2⟩ rfl
    rw [hru.out] at hx
    simp at hx
  case done =>
    rintro W hWs ⟨h1, h2⟩ hd
    rw [hru.out] at h1
    have hcell : W.cell? ⟨w3.heap.size, 0, none⟩ = some (.int .i64 0) := h1.cell (j := 0) rfl
    have hmin : ∀ (ts : Array TypeId) (t : TypeId) (w : World), (Builtin.min_ ts t #[.int .i64 S.size, .int .i64 1]).run Try.prog w = .ok (.int .i64 0) w := fun ts t w => by
      rw [run_min2, show min (S.size : Int) 1 = 0 by omega]
    gi_wp2_with (refine ⟨trivial, rfl, ?_⟩; gi_at_call 12; refine (callsIn_wide.2 (LV.out _)).mono ?_; rintro e w4 ⟨rfl, hB4⟩; have hb4 := h2.step hB4; have hf4 := hb4.r2.free 0; have hc4 : w4.cell? ⟨w.heap.size + 1, 0, none⟩ = some (.bool false) := hb4.r2.cell (j := 0) rfl)
    have hr4 := hb4.r2.set 0 (.bool true)
    have hd4 : (w4.setCell ⟨w.heap.size + 1, 0, none⟩ (.bool true)).heap[W0.heap.size]? = some (.deferred (some [])) := by
      rw [Below.heap_setCell _ _ _ _ (by simp; omega), hB4.block _ (by omega)]; exact hd
    have hr5 : RowAt ((w4.setCell ⟨w.heap.size + 1, 0, none⟩ (.bool true)).putObj W0.heap.size (.deferred none)) (w.heap.size + 1) 4 #[.bool true] := (World.putObj_heap_other (by omega)).trans (hr4.eqA (by simp))
    refine leave_one hd4 ⟨_, results_cell1 rfl _ _ _ _ rfl (hr5.cell (j := 0) rfl) Try.underlying4, ?_, ?_⟩
    · rfl
    · exact below_kept (hb4.bel.setCell (by simp) _) ((Kept.refl (fun k => k = W0.heap.size) _).putObj _ _ (.inl rfl)) (Nat.le_refl _) (fun k hk => by omega)
  case stop => intro _ _ _ _ _ _ _ h; exact h.elim

theorem utfWrites_walk (r : Int) (wr : (Lit.int .i32 r).wf = true) (w : World) : Calls Try.prog 4 #[.int .i32 r] w fun e w' => e = .returned (.bool true) ∧ Below w.heap.size w w' := by
  refine (callsIn_wide (n := 0)).1 ?_
  by_cases hp : isPoint r = true
  · have hb := hp
    simp only [isPoint, Bool.and_eq_true, Bool.or_eq_true, decide_eq_true_eq] at hb
    obtain ⟨m, rfl⟩ := Int.eq_ofNat_of_zero_le hb.1.1
    exact writes_point m hp w
  · exact writes_not r (by simpa using hp) (bounds_i32 wr) w

end Go.Proofs.Ytbedanlkkidkkab
