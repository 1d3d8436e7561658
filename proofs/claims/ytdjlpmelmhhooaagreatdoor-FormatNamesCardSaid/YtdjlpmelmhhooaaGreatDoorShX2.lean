/- Sums: keys, start, turns. -/
import Derived.Test.YtdjlpmelmhhooaaGreatDoorShX1
import Derived.Test.YtdjlpmelmhhooaaGreatDoorLibA
import Derived.Test.YtdjlpmelmhhooaaGreatDoorKit
import Derived.Test.YtdjlpmelmhhooaaGreatDoorProg
import Derived.Laws.ShiftsVarLaws
import Derived.Test.YtdjlpmelmhhooaaGreatDoorOctX
namespace Go.Proofs.YtdjlpmelmhhooaaGreatDoor
section
open Go Go.RowKit
set_option linter.unusedSimpArgs false
attribute [local go_sem] Oper.semAt_some

theorem Kept.setRow {S : Nat → Prop} {A B : World} (h : Kept S A B) (g : Nat) (hg : S g) (C : Array Value) : Kept S A (B.setRow g C) :=
  h.trans ⟨rfl, rfl, rfl, by simp, fun k _ hs => setRow_other B g k C (fun e => hs (e ▸ hg))⟩
theorem prime_bound {x : Nat} (h : x ∈ primesTo 314) : x < 65536 := by
  unfold primesTo at h
  have := List.mem_range.1 (List.mem_filter.1 h).1
  omega
theorem key_at {pre post : List Nat} {x : Nat} (h : primesTo 314 = pre ++ x :: post) (hl : pre.length < 64) : rootN cubeV x = keyL.getD pre.length 0 := by
  rw [← keys_are, h, List.getD_eq_getElem?_getD, List.getElem?_map, List.getElem?_take, if_pos hl, List.getElem?_append_right (Nat.le_refl _), Nat.sub_self, List.getElem?_cons_zero, Option.map_some, Option.getD_some]
theorem start_at {pre post : List Nat} {x : Nat} (h : primesTo 314 = pre ++ x :: post) (hl : pre.length < 8) : rootN squareV x = startL.getD pre.length 0 := by
  rw [← start_is, h, List.getD_eq_getElem?_getD, List.getElem?_map, List.getElem?_take, if_pos hl, List.getElem?_append_right (Nat.le_refl _), Nat.sub_self, List.getElem?_cons_zero, Option.map_some, Option.getD_some]
/-- The first k of a row of words, noughts behind them. -/
def wordsF (L : List Nat) (k j : Nat) : Value := .int .u32 (((if j < k then L.getD j 0 else 0) : Nat) : Int)
theorem wordsF_set (L : List Nat) (n k : Nat) (h : k < n) : (rowA n (wordsF L k)).setIfInBounds k (.int .u32 ((L.getD k 0 : Nat) : Int)) = rowA n (wordsF L (k + 1)) := by
  rw [rowA_set]
  refine rowA_ext fun j hj => ?_
  unfold wordsF
  by_cases e : j = k
  · subst e; rw [if_pos rfl, if_pos (by omega)]
  · rw [if_neg e]
    by_cases e2 : j < k
    · rw [if_pos e2, if_pos (by omega)]
    · rw [if_neg e2, if_neg (by omega)]
theorem wordsF_one (L : List Nat) (n k : Nat) : (rowA n (wordsF L k)).all (·.oneCell') = true := by
  rw [Array.all_eq_true]; intro i h; simp only [rowA, Array.getElem_ofFn, wordsF]; rfl
/-- Words as a value. -/
def wordsV (n : Nat) (L : List Nat) : Value := .agg (rowA n (wordsF L n))
theorem zero64 (w : World) : (zeroValue 195).run Tryz.prog w = .ok (.agg (rowA 64 (wordsF keyL 0))) w := by kernel_rfl
theorem info64 : (Tryz.prog.info? 195).map (·.size) = some 64 := by kernel_rfl

set_option maxRecDepth 100000 in
set_option maxHeartbeats 4000000 in
theorem keys_any (w : World) : Calls Tryz.prog 182 #[] w fun e w' => e = .returned (wordsV 64 keyL) ∧ Below w.heap.size w w' := by
  refine (callsIn_wide (n := 0)).1 ?_
  have hz := zero64
  refine callsIn_of_wp_marks Tryz.func182 rfl trivial ?_
  simp only [Tryz.ntmps182, List.size_toArray, List.length_cons, List.length_nil, Nat.reduceAdd, Nat.reduceSub, Array.replicate_succ, Array.replicate_zero, List.push_toArray, List.append_toArray, List.nil_append, List.cons_append]
  gi_wp2_with (refine ⟨trivial, rfl, ?_⟩; gi_at_call 194; refine (callsIn_wide.2 (primes_make _)).mono ?_; rintro e w' ⟨rfl, rfl⟩)
  clear hz
  generalize hW0 : World.alloc _ (Obj.cells #[.int .i64 0] 3) = W0
  have hsz0 : w.heap.size + 3 ≤ W0.heap.size ∧ W0.heap.size ≤ w.heap.size + 3 := by rw [← hW0]; simp
  have m0 : RowAt W0 w.heap.size 195 (rowA 64 (wordsF keyL 0)) := by rw [← hW0]; exact ((RowAt.new w _ _).alloc _).alloc _
  have m1 : RowAt W0 (w.heap.size + 1) 195 (rowA 64 (wordsF keyL 0)) := by rw [← hW0]; have := RowAt.new (w.alloc (.cells (rowA 64 (wordsF keyL 0)) 195)) (rowA 64 (wordsF keyL 0)) 195; rw [World.size_alloc] at this; exact this.alloc _
  have m2 : RowAt W0 (w.heap.size + 2) 3 #[.int .i64 0] := by rw [← hW0]; have := RowAt.new ((w.alloc (.cells (rowA 64 (wordsF keyL 0)) 195)).alloc (.cells (rowA 64 (wordsF keyL 0)) 195)) #[.int .i64 0] 3; rwa [World.size_alloc, World.size_alloc] at this
  have hb0 : Below w.heap.size w W0 := by rw [← hW0]; exact below_al (below_al (below_al (Below.refl _ _) _) _) _
  clear hW0
  refine wp_iter_to_put (gf := 205) (lb := #[]) rfl (enters_of Tryz.func205 (by kernel_rfl) rfl) (primes_on W0)
    (fun _ h => h.elim) (fun _ h => h.elim) (fun _ => rfl) (fun x => [(3, .int .u64 (x : Nat))])
    (fun pre X => (RowAt X w.heap.size 195 (rowA 64 (wordsF keyL 0)) ∧ RowAt X (w.heap.size + 1) 195 (rowA 64 (wordsF keyL pre.length)) ∧ RowAt X (w.heap.size + 2) 3 #[.int .i64 (pre.length : Nat)] ∧ Below w.heap.size w X) ∧ pre.length ≤ 64)
    (fun c pre X => (RowAt X w.heap.size 195 (rowA 64 (wordsF keyL 0)) ∧ RowAt X (w.heap.size + 1) 195 (rowA 64 (wordsF keyL 64)) ∧ Below w.heap.size w X) ∧ c = .exit 0) ?hno ?hI ?hIx ⟨⟨m0, m1, m2, hb0⟩, by simp⟩ ?assign ?body ?stop
  case hno =>
    rintro X ⟨_, h⟩
    rw [primes_len] at h; omega
  case hI =>
    rintro pre X Y ⟨⟨h1, h2, h3, h4⟩, h5⟩ hk
    have hT : ∀ k, (False ∨ twoOf W0.heap.size k) → w.heap.size + 3 ≤ k := by rintro k (h | h | h); exact h.elim; all_goals omega
    exact ⟨⟨hk.row h1 (fun x => by have := hT _ x; omega), hk.row h2 (fun x => by have := hT _ x; omega), hk.row h3 (fun x => by have := hT _ x; omega), below_kept h4 hk (Nat.le_refl _) (fun k x => by have := hT _ x; omega)⟩, h5⟩
  case hIx =>
    rintro c pre X Y ⟨⟨h1, h2, h4⟩, h5⟩ hk
    have hT : ∀ k, (False ∨ twoOf W0.heap.size k) → w.heap.size + 3 ≤ k := by rintro k (h | h | h); exact h.elim; all_goals omega
    exact ⟨⟨hk.row h1 (fun x => by have := hT _ x; omega), hk.row h2 (fun x => by have := hT _ x; omega), below_kept h4 hk (Nat.le_refl _) (fun k x => by have := hT _ x; omega)⟩, h5⟩
  case assign =>
    intro l x W K hK
    gi_wp2
    simpa [encN, putAll] using hK
  case body =>
    rintro pre x post X hx hXs _ ⟨⟨h1, h2, h3, h4⟩, h5⟩
    have hxb : x < 65536 := prime_bound (by rw [hx]; simp)
    have q3 : X.cell? ⟨w.heap.size + 2, 0, none⟩ = some (.int .i64 (pre.length : Nat)) := h3.cell (j := 0) rfl
    simp only [putAll, encN, List.zip_toArray, List.foldl_toArray', List.foldl_toArray, List.zip_cons_cons, List.zip_nil_left, List.foldl_cons, List.foldl_nil, List.setIfInBounds_toArray, List.set_cons_zero, List.set_cons_succ]
    by_cases h64 : pre.length = 64
    · have hb : (((pre.length : Nat) : Int) == 64) = true := by rw [beq_iff_eq]; omega
      rw [h64] at h2
      replace hx := hid hx
      clear h64
      gi_wp2
      exact ⟨Kept.refl _ _, ⟨h1, h2, h4⟩, rfl⟩
    · have hb : (((pre.length : Nat) : Int) == 64) = false := by rw [beq_eq_false_iff_ne]; omega
      have hk : pre.length < 64 := by omega
      have hki : ((pre.length : Nat) : Int) < 64 := by omega
      have hroot := fun w => root_cube x hxb w
      rw [key_at hx hk] at hroot
      obtain ⟨v, hv⟩ : ∃ v, v = keyL.getD pre.length 0 := ⟨_, rfl⟩
      rw [← hv] at hroot
      have e2 : ∀ q : Sub X, q.x.cell? ⟨w.heap.size + 2, 0, none⟩ = some (.int .i64 (pre.length : Nat)) := fun q => q.cell h3 rfl
      replace hroot := hid hroot
      replace hx := hid hx
      replace hv := hid hv
      gi_wp2
      refine wpIn_region_last_round (by kernel_rfl) (by kernel_rfl) (by kernel_rfl) (by kernel_rfl) 4 _ rfl rfl ?_
      simp only [muted, mute]
      repeat (go_big_quiet_step (first | (go_at_call 195; with_reducible refine Sub.same _ (hroot.out _))))
      refine wpQuiet_nil ?_
      intro q
      have k1 := h1.below q.h h1.lt
      have k2 := h2.below q.h h2.lt
      have k3 := h3.below q.h h3.lt
      have k4 := below_cat q.h h4
      have hkp := Kept.of_below (S := fun k => ¬ (twoOf W0.heap.size k ∨ False)) q.h
      obtain ⟨Y, hY⟩ : ∃ Y, Y = q.x := ⟨_, rfl⟩
      rw [← hY] at k1 k2 k3 k4 hkp ⊢
      have hfr := k2.free pre.length
      have hcf : Y.cell? ⟨w.heap.size + 1, pre.length, none⟩ = some (.int .u32 0) := k2.cell (by rw [rowA_get _ _ _ hk]; simp [wordsF])
      unfold Oper.wpIn
      simp [go_sem, hfr, hcf]
      have n1 := k1.other ⟨w.heap.size + 1, pre.length, none⟩ (.int .u32 (v : Nat)) (by simp)
      have n2 := (k2.set pre.length (.int .u32 (v : Nat))).eqA (A' := rowA 64 (wordsF keyL (pre.length + 1))) (by rw [hv.out]; exact wordsF_set keyL 64 pre.length hk)
      have n3 := k3.other ⟨w.heap.size + 1, pre.length, none⟩ (.int .u32 (v : Nat)) (by simp)
      have n4 := k4.setCell (p := ⟨w.heap.size + 1, pre.length, none⟩) (by simp) (.int .u32 (v : Nat))
      have n5 := hkp.setCell ⟨w.heap.size + 1, pre.length, none⟩ (.inl (by simp [twoOf]; omega)) (.int .u32 (v : Nat))
      obtain ⟨Z, hZ⟩ : ∃ Z, Z = Y.setCell ⟨w.heap.size + 1, pre.length, none⟩ (.int .u32 (v : Nat)) := ⟨_, rfl⟩
      rw [← hZ] at n1 n2 n3 n4 n5 ⊢
      have e3 : Z.cell? ⟨w.heap.size + 2, 0, none⟩ = some (.int .i64 (pre.length : Nat)) := n3.cell (j := 0) rfl
      have f3 := n3.free 0
      clear hZ hfr hcf k1 k2 k3 k4 hkp e2
      gi_wp2
      refine ⟨n5.setCell _ (.inl (by simp [twoOf]; omega)) _, ⟨n1.other _ _ (by simp <;> omega), ?_, ?_, n4.setCell (by simp <;> omega) _⟩, by simp; omega⟩
      · simpa using n2.other ⟨w.heap.size + 2, 0, none⟩ (.int .i64 (pre.length + 1 : Nat)) (by simp)
      · simpa using (n3.set 0 (.int .i64 (pre.length + 1 : Nat)))
  case stop =>
    rintro c pre x post X hsz hx ⟨⟨h1, h2, h4⟩, rfl⟩ hd
    have g2 : X.heap[w.heap.size + 1]? = some (.cells (rowA 64 (wordsF keyL 64)) 195 (0, 0)) := h2
    have g1 : X.heap[w.heap.size]? = some (.cells (rowA 64 (wordsF keyL 0)) 195 (0, 0)) := h1
    replace g1 := hid g1
    replace g2 := hid g2
    gi_wp2_with (first | (refine wpListIn_load_row rfl 195 _ rfl (w.heap.size + 1) rfl 195 (rowA 64 (wordsF keyL 64)) (0, 0) _ g2.out Tryz.underlying195 rfl (by rw [info64, rowA_size]) ?_) | (refine wpListIn_store_row rfl 195 _ _ rfl w.heap.size (rowA 64 (wordsF keyL 64)) rfl rfl 195 (rowA 64 (wordsF keyL 0)) g1.out (by rw [info64, rowA_size]) (by rw [rowA_size, rowA_size]) (wordsF_one _ _ _) ?_))
    have r1 := h1.setRow (rowA 64 (wordsF keyL 64))
    have hb1 := below_setRow h4 (Nat.le_refl _) (rowA 64 (wordsF keyL 64))
    have hd1 := (setRow_other X w.heap.size W0.heap.size (rowA 64 (wordsF keyL 64)) (by omega)).trans hd
    obtain ⟨Y, hY⟩ : ∃ Y, Y = X.setRow w.heap.size (rowA 64 (wordsF keyL 64)) := ⟨_, rfl⟩
    rw [← hY] at r1 hb1 hd1 ⊢
    have r2 : RowAt (Y.putObj W0.heap.size (.deferred none)) w.heap.size 195 (rowA 64 (wordsF keyL 64)) := (World.putObj_heap_other (by omega)).trans r1
    refine leave_one hd1 ⟨_, results_cell_row rfl _ _ w.heap.size 195 (rowA 64 (wordsF keyL 64)) (0, 0) _ rfl r2 Tryz.underlying195 rfl (by rw [info64, rowA_size]), rfl, ?_⟩
    exact below_kept hb1 ((Kept.refl (fun k => k = W0.heap.size) _).putObj _ _ (.inl rfl)) (Nat.le_refl _) (fun k hk => by omega)
theorem zero8 (w : World) : (zeroValue 193).run Tryz.prog w = .ok (.agg (rowA 8 (wordsF startL 0))) w := by kernel_rfl
theorem info8 : (Tryz.prog.info? 193).map (·.size) = some 8 := by kernel_rfl

set_option maxRecDepth 100000 in
set_option maxHeartbeats 4000000 in
theorem start_any (w : World) : Calls Tryz.prog 181 #[] w fun e w' => e = .returned (wordsV 8 startL) ∧ Below w.heap.size w w' := by
  refine (callsIn_wide (n := 0)).1 ?_
  have hz := zero8
  refine callsIn_of_wp_marks Tryz.func181 rfl trivial ?_
  simp only [Tryz.ntmps181, List.size_toArray, List.length_cons, List.length_nil, Nat.reduceAdd, Nat.reduceSub, Array.replicate_succ, Array.replicate_zero, List.push_toArray, List.append_toArray, List.nil_append, List.cons_append]
  gi_wp2_with (refine ⟨trivial, rfl, ?_⟩; gi_at_call 194; refine (callsIn_wide.2 (primes_make _)).mono ?_; rintro e w' ⟨rfl, rfl⟩)
  clear hz
  generalize hW0 : World.alloc _ (Obj.cells #[.int .i64 0] 3) = W0
  have hsz0 : w.heap.size + 3 ≤ W0.heap.size ∧ W0.heap.size ≤ w.heap.size + 3 := by rw [← hW0]; simp
  have m0 : RowAt W0 w.heap.size 193 (rowA 8 (wordsF startL 0)) := by rw [← hW0]; exact ((RowAt.new w _ _).alloc _).alloc _
  have m1 : RowAt W0 (w.heap.size + 1) 193 (rowA 8 (wordsF startL 0)) := by rw [← hW0]; have := RowAt.new (w.alloc (.cells (rowA 8 (wordsF startL 0)) 193)) (rowA 8 (wordsF startL 0)) 193; rw [World.size_alloc] at this; exact this.alloc _
  have m2 : RowAt W0 (w.heap.size + 2) 3 #[.int .i64 0] := by rw [← hW0]; have := RowAt.new ((w.alloc (.cells (rowA 8 (wordsF startL 0)) 193)).alloc (.cells (rowA 8 (wordsF startL 0)) 193)) #[.int .i64 0] 3; rwa [World.size_alloc, World.size_alloc] at this
  have hb0 : Below w.heap.size w W0 := by rw [← hW0]; exact below_al (below_al (below_al (Below.refl _ _) _) _) _
  clear hW0
  refine wp_iter_to_put (gf := 205) (lb := #[]) rfl (enters_of Tryz.func205 (by kernel_rfl) rfl) (primes_on W0)
    (fun _ h => h.elim) (fun _ h => h.elim) (fun _ => rfl) (fun x => [(3, .int .u64 (x : Nat))])
    (fun pre X => (RowAt X w.heap.size 193 (rowA 8 (wordsF startL 0)) ∧ RowAt X (w.heap.size + 1) 193 (rowA 8 (wordsF startL pre.length)) ∧ RowAt X (w.heap.size + 2) 3 #[.int .i64 (pre.length : Nat)] ∧ Below w.heap.size w X) ∧ pre.length ≤ 8)
    (fun c pre X => (RowAt X w.heap.size 193 (rowA 8 (wordsF startL 8)) ∧ Below w.heap.size w X) ∧ c = .ret) ?hno ?hI ?hIx ⟨⟨m0, m1, m2, hb0⟩, by simp⟩ ?assign ?body ?stop
  case hno =>
    rintro X ⟨_, h⟩
    rw [primes_len] at h; omega
  case hI =>
    rintro pre X Y ⟨⟨h1, h2, h3, h4⟩, h5⟩ hk
    have hT : ∀ k, (False ∨ twoOf W0.heap.size k) → w.heap.size + 3 ≤ k := by rintro k (h | h | h); exact h.elim; all_goals omega
    exact ⟨⟨hk.row h1 (fun x => by have := hT _ x; omega), hk.row h2 (fun x => by have := hT _ x; omega), hk.row h3 (fun x => by have := hT _ x; omega), below_kept h4 hk (Nat.le_refl _) (fun k x => by have := hT _ x; omega)⟩, h5⟩
  case hIx =>
    rintro c pre X Y ⟨⟨h1, h4⟩, h5⟩ hk
    have hT : ∀ k, (False ∨ twoOf W0.heap.size k) → w.heap.size + 3 ≤ k := by rintro k (h | h | h); exact h.elim; all_goals omega
    exact ⟨⟨hk.row h1 (fun x => by have := hT _ x; omega), below_kept h4 hk (Nat.le_refl _) (fun k x => by have := hT _ x; omega)⟩, h5⟩
  case assign =>
    intro l x W K hK
    gi_wp2
    simpa [encN, putAll] using hK
  case body =>
    rintro pre x post X hx hXs _ ⟨⟨h1, h2, h3, h4⟩, h5⟩
    have hxb : x < 65536 := prime_bound (by rw [hx]; simp)
    have q3 : X.cell? ⟨w.heap.size + 2, 0, none⟩ = some (.int .i64 (pre.length : Nat)) := h3.cell (j := 0) rfl
    simp only [putAll, encN, List.zip_toArray, List.foldl_toArray', List.foldl_toArray, List.zip_cons_cons, List.zip_nil_left, List.foldl_cons, List.foldl_nil, List.setIfInBounds_toArray, List.set_cons_zero, List.set_cons_succ]
    by_cases h8 : pre.length = 8
    · have hb : (((pre.length : Nat) : Int) == 8) = true := by rw [beq_iff_eq]; omega
      rw [h8] at h2
      replace hx := hid hx
      clear h8
      have g2 : X.heap[w.heap.size + 1]? = some (.cells (rowA 8 (wordsF startL 8)) 193 (0, 0)) := h2
      have g1 : X.heap[w.heap.size]? = some (.cells (rowA 8 (wordsF startL 0)) 193 (0, 0)) := h1
      replace g1 := hid g1
      replace g2 := hid g2
      gi_wp2_with (first | (refine wpListIn_load_row rfl 193 _ rfl (w.heap.size + 1) rfl 193 (rowA 8 (wordsF startL 8)) (0, 0) _ g2.out Tryz.underlying193 rfl (by rw [info8, rowA_size]) ?_) | (refine wpListIn_store_row rfl 193 _ _ rfl w.heap.size (rowA 8 (wordsF startL 8)) rfl rfl 193 (rowA 8 (wordsF startL 0)) g1.out (by rw [info8, rowA_size]) (by rw [rowA_size, rowA_size]) (wordsF_one _ _ _) ?_))
      exact ⟨(Kept.refl _ _).setRow _ (by simp [twoOf]; omega) _, ⟨h1.setRow _, below_setRow h4 (Nat.le_refl _) _⟩, rfl⟩
    · have hb : (((pre.length : Nat) : Int) == 8) = false := by rw [beq_eq_false_iff_ne]; omega
      have hk : pre.length < 8 := by omega
      have hki : ((pre.length : Nat) : Int) < 8 := by omega
      have hroot := fun w => root_square x hxb w
      rw [start_at hx hk] at hroot
      obtain ⟨v, hv⟩ : ∃ v, v = startL.getD pre.length 0 := ⟨_, rfl⟩
      rw [← hv] at hroot
      have e2 : ∀ q : Sub X, q.x.cell? ⟨w.heap.size + 2, 0, none⟩ = some (.int .i64 (pre.length : Nat)) := fun q => q.cell h3 rfl
      replace hroot := hid hroot
      replace hx := hid hx
      replace hv := hid hv
      gi_wp2
      refine wpIn_region_last_round (by kernel_rfl) (by kernel_rfl) (by kernel_rfl) (by kernel_rfl) 4 _ rfl rfl ?_
      simp only [muted, mute]
      repeat (go_big_quiet_step (first | (go_at_call 195; with_reducible refine Sub.same _ (hroot.out _))))
      refine wpQuiet_nil ?_
      intro q
      have k1 := h1.below q.h h1.lt
      have k2 := h2.below q.h h2.lt
      have k3 := h3.below q.h h3.lt
      have k4 := below_cat q.h h4
      have hkp := Kept.of_below (S := fun k => ¬ (twoOf W0.heap.size k ∨ False)) q.h
      obtain ⟨Y, hY⟩ : ∃ Y, Y = q.x := ⟨_, rfl⟩
      rw [← hY] at k1 k2 k3 k4 hkp ⊢
      have hfr := k2.free pre.length
      have hcf : Y.cell? ⟨w.heap.size + 1, pre.length, none⟩ = some (.int .u32 0) := k2.cell (by rw [rowA_get _ _ _ hk]; simp [wordsF])
      unfold Oper.wpIn
      simp [go_sem, hfr, hcf]
      have n1 := k1.other ⟨w.heap.size + 1, pre.length, none⟩ (.int .u32 (v : Nat)) (by simp)
      have n2 := (k2.set pre.length (.int .u32 (v : Nat))).eqA (A' := rowA 8 (wordsF startL (pre.length + 1))) (by rw [hv.out]; exact wordsF_set startL 8 pre.length hk)
      have n3 := k3.other ⟨w.heap.size + 1, pre.length, none⟩ (.int .u32 (v : Nat)) (by simp)
      have n4 := k4.setCell (p := ⟨w.heap.size + 1, pre.length, none⟩) (by simp) (.int .u32 (v : Nat))
      have n5 := hkp.setCell ⟨w.heap.size + 1, pre.length, none⟩ (.inl (by simp [twoOf]; omega)) (.int .u32 (v : Nat))
      obtain ⟨Z, hZ⟩ : ∃ Z, Z = Y.setCell ⟨w.heap.size + 1, pre.length, none⟩ (.int .u32 (v : Nat)) := ⟨_, rfl⟩
      rw [← hZ] at n1 n2 n3 n4 n5 ⊢
      have e3 : Z.cell? ⟨w.heap.size + 2, 0, none⟩ = some (.int .i64 (pre.length : Nat)) := n3.cell (j := 0) rfl
      have f3 := n3.free 0
      clear hZ hfr hcf k1 k2 k3 k4 hkp e2
      gi_wp2
      refine ⟨n5.setCell _ (.inl (by simp [twoOf]; omega)) _, ⟨n1.other _ _ (by simp <;> omega), ?_, ?_, n4.setCell (by simp <;> omega) _⟩, by simp; omega⟩
      · simpa using n2.other ⟨w.heap.size + 2, 0, none⟩ (.int .i64 (pre.length + 1 : Nat)) (by simp)
      · simpa using (n3.set 0 (.int .i64 (pre.length + 1 : Nat)))
  case stop =>
    rintro c pre x post X hsz hx ⟨⟨h1, h4⟩, rfl⟩ hd
    gi_wp2
    have r2 : RowAt (X.putObj W0.heap.size (.deferred none)) w.heap.size 193 (rowA 8 (wordsF startL 8)) := (World.putObj_heap_other (by omega)).trans h1
    refine leave_one hd ⟨_, results_cell_row rfl _ _ w.heap.size 193 (rowA 8 (wordsF startL 8)) (0, 0) _ rfl r2 Tryz.underlying193 rfl (by rw [info8, rowA_size]), rfl, ?_⟩
    exact below_kept h4 ((Kept.refl (fun k => k = W0.heap.size) _).putObj _ _ (.inl rfl)) (Nat.le_refl _) (fun k hk => by omega)
end
section
open Go Go.RowKit
set_option linter.unusedSimpArgs false

/-- A word turned to the right, round. -/
def rot (x n : Nat) : Nat := x / 2 ^ n + x % 2 ^ n * 2 ^ (32 - n)

theorem and31 (x : Int) (h0 : 0 ≤ x) (h1 : x < 18446744073709551616) : bits .and .u64 x 31 = x % 32 :=
  bits_mask .u64 64 (by decide) (fun n h h' => by rw [IntKind.wrap_u64]; omega) 5 (by decide) x h0 h1
theorem rot_or (x n : Nat) (hn : n ≤ 32) (hx : x < 4294967296) : x / 2 ^ n ||| x % 2 ^ n * 2 ^ (32 - n) = rot x n := by
  have e : (4294967296 : Nat) = 2 ^ (32 - n) * 2 ^ n := by rw [← Nat.pow_add]; rw [show 32 - n + n = 32 by omega]
  have h1 : x / 2 ^ n < 2 ^ (32 - n) := by
    rw [Nat.div_lt_iff_lt_mul (Nat.two_pow_pos n), ← e]; exact hx
  have := Nat.two_pow_add_eq_or_of_lt (i := 32 - n) (b := x / 2 ^ n) h1 (x % 2 ^ n)
  unfold rot
  rw [Nat.or_comm, Nat.mul_comm, ← this, Nat.add_comm]
theorem rot_shift (x n : Nat) (hn : n ≤ 32) (hx : x < 4294967296) : x * 2 ^ (32 - n) % 4294967296 = x % 2 ^ n * 2 ^ (32 - n) := by
  have e : (4294967296 : Nat) = 2 ^ n * 2 ^ (32 - n) := by rw [← Nat.pow_add]; rw [show n + (32 - n) = 32 by omega]
  rw [e, Nat.mul_mod_mul_right]
theorem rot_lt (x n : Nat) (hn : n ≤ 32) (hx : x < 4294967296) : rot x n < 4294967296 := by
  have e : (4294967296 : Nat) = 2 ^ (32 - n) * 2 ^ n := by rw [← Nat.pow_add]; rw [show 32 - n + n = 32 by omega]
  have e2 : (4294967296 : Nat) = 2 ^ 32 := by decide
  rw [← rot_or x n hn hx, e2]
  refine Nat.or_lt_two_pow ?_ ?_
  · exact Nat.lt_of_le_of_lt (Nat.div_le_self _ _) (by omega)
  · have := Nat.mod_lt x (Nat.two_pow_pos n)
    rw [← e2, e, Nat.mul_comm (2 ^ (32 - n))]
    exact Nat.mul_lt_mul_of_pos_right this (Nat.two_pow_pos _)
theorem rot_bits (x n : Nat) (hn : n ≤ 32) (hx : x < 4294967296) : bits BinOp.or IntKind.u32 ((x : Int) / 2 ^ n) ((x : Int) * 2 ^ (32 - n) % 4294967296) = (rot x n : Int) := by
  have h := rot_lt x n hn hx
  have e1 : (x : Int) / 2 ^ n = ((x / 2 ^ n : Nat) : Int) := by simp
  have e2 : (x : Int) * 2 ^ (32 - n) % 4294967296 = ((x % 2 ^ n * 2 ^ (32 - n) : Nat) : Int) := by rw [← rot_shift x n hn hx]; simp
  rw [e1, e2, u32_or_nat _ _ (Nat.lt_of_le_of_lt (Nat.div_le_self _ _) hx) (by rw [← rot_shift x n hn hx]; exact Nat.mod_lt _ (by decide)), rot_or x n hn hx]
theorem rot_left (x m : Nat) (hx : x < 4294967296) (hm : 0 < m) (hm2 : m < 32) : bits BinOp.or IntKind.u32 ((x : Int) * 2 ^ m % 4294967296) ((x : Int) / 2 ^ (32 - m)) = (rot x (32 - m) : Int) := by
  obtain ⟨n, hn, rfl⟩ : ∃ n, n ≤ 32 ∧ m = 32 - n := ⟨32 - m, by omega, by omega⟩
  have e1 : (x : Int) / 2 ^ n = ((x / 2 ^ n : Nat) : Int) := by simp
  have e2 : (x : Int) * 2 ^ (32 - n) % 4294967296 = ((x % 2 ^ n * 2 ^ (32 - n) : Nat) : Int) := by rw [← rot_shift x n hn hx]; simp
  rw [show 32 - (32 - n) = n by omega, e1, e2, u32_or_nat _ _ (by rw [← rot_shift x n hn hx]; exact Nat.mod_lt _ (by decide)) (Nat.lt_of_le_of_lt (Nat.div_le_self _ _) hx), Nat.or_comm, rot_or x n hn hx]
theorem rotl_any (x n : Nat) (hx : x < 4294967296) (hn : 0 < n) (hn2 : n < 32) (w : World) : Calls Tryz.prog 206 #[.int .u32 x, .int .i64 (-(n : Int))] w fun e w' => e = .returned (.int .u32 (rot x n : Nat)) ∧ w = w' := by
  obtain ⟨m, rfl⟩ : ∃ m, n = 32 - m := ⟨32 - n, by omega⟩
  have hm : 0 < m ∧ m < 32 := by omega
  have h1 : bits BinOp.and IntKind.u64 (IntKind.u64.wrap (-((32 - m : Nat) : Int))) 31 = (m : Int) := by
    rw [show IntKind.u64.wrap (-((32 - m : Nat) : Int)) = 18446744073709551584 + (m : Int) by rw [IntKind.wrap_u64]; omega, and31 _ (by omega) (by omega)]; omega
  have h2 : (m : Int) ≤ 31 := by omega
  have h3 : (0 : Int) ≤ (m : Int) := by omega
  go_enter Tryz.func206, Tryz.ntmps206
  go_wp2
  go_ret
  exact ⟨ret_int (rot_left x m hx hm.1 hm.2), rfl⟩
theorem turn_any (x n : Nat) (hx : x < 4294967296) (hn : 0 < n) (hn2 : n < 32) (w : World) : Calls Tryz.prog 200 #[.int .u32 x, .int .i64 (n : Int)] w fun e w' => e = .returned (.int .u32 (rot x n : Nat)) ∧ w = w' := by
  have h1 : IntKind.i64.wrap (-(n : Int)) = -(n : Int) := by rw [IntKind.wrap_i64]; omega
  go_enter Tryz.func200, Tryz.ntmps200
  go_wp2_with (go_at_call 206; refine (rotl_any x n hx hn hn2 _).mono ?_; rintro e w' ⟨rfl, rfl⟩)
  go_ret
  exact ⟨rfl, rfl⟩
end
section
open Go

structure St where
  a : Nat
  b : Nat
  c : Nat
  d : Nat
  e : Nat
  f : Nat
  g : Nat
  h : Nat
def St.cells (s : St) : Array Value := #[.int .u32 (s.a : Nat), .int .u32 (s.b : Nat), .int .u32 (s.c : Nat), .int .u32 (s.d : Nat), .int .u32 (s.e : Nat), .int .u32 (s.f : Nat), .int .u32 (s.g : Nat), .int .u32 (s.h : Nat)]
structure St.Ok (s : St) : Prop where
  a : s.a < 4294967296
  b : s.b < 4294967296
  c : s.c < 4294967296
  d : s.d < 4294967296
  e : s.e < 4294967296
  f : s.f < 4294967296
  g : s.g < 4294967296
  h : s.h < 4294967296
def ad (x y : Nat) : Nat := (x + y) % 4294967296
theorem ad_lt (x y : Nat) : ad x y < 4294967296 := Nat.mod_lt _ (by decide)
def sm0 (x : Nat) : Nat := (rot x 7 ^^^ rot x 18) ^^^ x / 8
def sm1 (x : Nat) : Nat := (rot x 17 ^^^ rot x 19) ^^^ x / 1024
def sg1 (e : Nat) : Nat := (rot e 6 ^^^ rot e 11) ^^^ rot e 25
def sg0 (a : Nat) : Nat := (rot a 2 ^^^ rot a 13) ^^^ rot a 22
def chF (e f g : Nat) : Nat := (e &&& f) ^^^ ((4294967295 - e) &&& g)
def majF (a b c : Nat) : Nat := ((a &&& b) ^^^ (a &&& c)) ^^^ (b &&& c)
def xF (k w : Nat) (s : St) : Nat := (s.h + sg1 s.e + chF s.e s.f s.g + k + w) % 4294967296
def yF (s : St) : Nat := ad (sg0 s.a) (majF s.a s.b s.c)
def rnd (k w : Nat) (s : St) : St := ⟨ad (xF k w s) (yF s), s.a, s.b, s.c, ad s.d (xF k w s), s.e, s.f, s.g⟩
def rnds (K W : List Nat) (s : St) : Nat → St
  | 0 => s
  | i + 1 => rnd (K.getD i 0) (W.getD i 0) (rnds K W s i)
theorem rnds_ok (K W : List Nat) (s : St) (h : s.Ok) : ∀ i, (rnds K W s i).Ok
  | 0 => h
  | i + 1 => by
    have ih := rnds_ok K W s h i
    exact ⟨ad_lt _ _, ih.a, ih.b, ih.c, ad_lt _ _, ih.e, ih.f, ih.g⟩
def wordAt (b : List UInt8) (i : Nat) : Nat := getN ((b.drop (4 * i)).take 4)
theorem wordAt_lt (b : List UInt8) (i : Nat) : wordAt b i < 4294967296 := by
  have h := getN_lt ((b.drop (4 * i)).take 4)
  have h2 : ((b.drop (4 * i)).take 4).length ≤ 4 := by simp; omega
  have h3 := Nat.pow_le_pow_right (n := 256) (by decide) h2
  have h4 : (256 : Nat) ^ 4 = 4294967296 := by decide
  unfold wordAt
  rw [h4] at h3
  exact Nat.lt_of_lt_of_le h h3
def nextW (L : List Nat) (i : Nat) : Nat := (L.getD (i - 16) 0 + sm0 (L.getD (i - 15) 0) + L.getD (i - 7) 0 + sm1 (L.getD (i - 2) 0)) % 4294967296
theorem nextW_lt (L : List Nat) (i : Nat) : nextW L i < 4294967296 := Nat.mod_lt _ (by decide)
def sched (b : List UInt8) : Nat → List Nat
  | 0 => []
  | i + 1 => sched b i ++ [if i < 16 then wordAt b i else nextW (sched b i) i]
theorem sched_len (b : List UInt8) : ∀ i, (sched b i).length = i
  | 0 => rfl
  | i + 1 => by rw [sched, List.length_append, sched_len b i]; rfl
theorem sched_get (b : List UInt8) (n i : Nat) (h : i < n) : (sched b n).getD i 0 = if i < 16 then wordAt b i else nextW (sched b i) i := by
  induction n with
  | zero => omega
  | succ n ih =>
    rw [sched, List.getD_eq_getElem?_getD]
    by_cases e : i = n
    · subst e
      rw [List.getElem?_append_right (by rw [sched_len]; exact Nat.le_refl _), sched_len, Nat.sub_self, List.getElem?_cons_zero, Option.getD_some]
    · rw [List.getElem?_append_left (by rw [sched_len]; omega), ← List.getD_eq_getElem?_getD]
      exact ih (by omega)
theorem sched_next (b : List UInt8) (n i : Nat) (h : i < n) (h16 : 16 ≤ i) : (sched b n).getD i 0 = nextW (sched b n) i := by
  have key : ∀ j, j < i → (sched b n).getD j 0 = (sched b i).getD j 0 := fun j hj => by
    rw [sched_get b n j (by omega), sched_get b i j hj]
  rw [sched_get b n i h, if_neg (by omega)]
  unfold nextW
  rw [key (i - 16) (by omega), key (i - 15) (by omega), key (i - 7) (by omega), key (i - 2) (by omega)]
theorem sched_lt (b : List UInt8) (n i : Nat) : (sched b n).getD i 0 < 4294967296 := by
  by_cases h : i < n
  · rw [sched_get b n i h]
    split
    · exact wordAt_lt _ _
    · exact nextW_lt _ _
  · rw [List.getD_eq_getElem?_getD, List.getElem?_eq_none (by rw [sched_len]; omega)]; decide
theorem keyL_lt (i : Nat) : keyL.getD i 0 < 4294967296 := by
  by_cases h : i < 64
  · have : ∀ i, i < 64 → keyL.getD i 0 < 4294967296 := by decide +kernel
    exact this i h
  · have e : keyL.length = 64 := by decide +kernel
    rw [List.getD_eq_getElem?_getD, List.getElem?_eq_none (by rw [e]; omega)]; decide
theorem xor32 {x y : Nat} (hx : x < 4294967296) (hy : y < 4294967296) : x ^^^ y < 4294967296 := Nat.xor_lt_two_pow (n := 32) hx hy
theorem and32 {x y : Nat} (hx : x < 4294967296) : x &&& y < 4294967296 := Nat.lt_of_le_of_lt Nat.and_le_left hx
theorem sm0_bits (x : Nat) (hx : x < 4294967296) : bits .xor .u32 (bits .xor .u32 ((rot x 7 : Nat) : Int) ((rot x 18 : Nat) : Int)) ((x : Int) / 8) = ((sm0 x : Nat) : Int) := by
  have h1 := rot_lt x 7 (by decide) hx
  have h2 := rot_lt x 18 (by decide) hx
  have h3 : x / 8 < 4294967296 := Nat.lt_of_le_of_lt (Nat.div_le_self _ _) hx
  rw [show ((x : Int) / 8) = ((x / 8 : Nat) : Int) by simp, u32_xor_nat _ _ h1 h2, u32_xor_nat _ _ (xor32 h1 h2) h3]; rfl
theorem sm1_bits (x : Nat) (hx : x < 4294967296) : bits .xor .u32 (bits .xor .u32 ((rot x 17 : Nat) : Int) ((rot x 19 : Nat) : Int)) ((x : Int) / 1024) = ((sm1 x : Nat) : Int) := by
  have h1 := rot_lt x 17 (by decide) hx
  have h2 := rot_lt x 19 (by decide) hx
  have h3 : x / 1024 < 4294967296 := Nat.lt_of_le_of_lt (Nat.div_le_self _ _) hx
  rw [show ((x : Int) / 1024) = ((x / 1024 : Nat) : Int) by simp, u32_xor_nat _ _ h1 h2, u32_xor_nat _ _ (xor32 h1 h2) h3]; rfl
theorem sg1_bits (x : Nat) (hx : x < 4294967296) : bits .xor .u32 (bits .xor .u32 ((rot x 6 : Nat) : Int) ((rot x 11 : Nat) : Int)) ((rot x 25 : Nat) : Int) = ((sg1 x : Nat) : Int) := by
  have h1 := rot_lt x 6 (by decide) hx
  have h2 := rot_lt x 11 (by decide) hx
  have h3 := rot_lt x 25 (by decide) hx
  rw [u32_xor_nat _ _ h1 h2, u32_xor_nat _ _ (xor32 h1 h2) h3]; rfl
theorem sg0_bits (x : Nat) (hx : x < 4294967296) : bits .xor .u32 (bits .xor .u32 ((rot x 2 : Nat) : Int) ((rot x 13 : Nat) : Int)) ((rot x 22 : Nat) : Int) = ((sg0 x : Nat) : Int) := by
  have h1 := rot_lt x 2 (by decide) hx
  have h2 := rot_lt x 13 (by decide) hx
  have h3 := rot_lt x 22 (by decide) hx
  rw [u32_xor_nat _ _ h1 h2, u32_xor_nat _ _ (xor32 h1 h2) h3]; rfl
theorem chF_bits (e f g : Nat) (he : e < 4294967296) (hf : f < 4294967296) (_hg : g < 4294967296) : bits .xor .u32 (bits .and .u32 (e : Int) (f : Int)) (bits .and .u32 (4294967295 - (e : Int)) (g : Int)) = ((chF e f g : Nat) : Int) := by
  have h1 : 4294967295 - e < 4294967296 := by omega
  rw [show (4294967295 - (e : Int)) = ((4294967295 - e : Nat) : Int) by omega, u32_and_nat _ _ he hf, u32_and_nat _ _ h1 _hg, u32_xor_nat _ _ (and32 he) (and32 h1)]; rfl
theorem majF_bits (a b c : Nat) (ha : a < 4294967296) (hb : b < 4294967296) (hc : c < 4294967296) : bits .xor .u32 (bits .xor .u32 (bits .and .u32 (a : Int) (b : Int)) (bits .and .u32 (a : Int) (c : Int))) (bits .and .u32 (b : Int) (c : Int)) = ((majF a b c : Nat) : Int) := by
  rw [u32_and_nat _ _ ha hb, u32_and_nat _ _ ha hc, u32_and_nat _ _ hb hc, u32_xor_nat _ _ (and32 ha) (and32 ha), u32_xor_nat _ _ (xor32 (and32 ha) (and32 ha)) (and32 hb)]; rfl
theorem nextW_int (L : List Nat) (i a16 a15 a7 a2 s0 s1 : Nat) (h16 : a16 = L.getD (i - 16) 0) (h15 : s0 = sm0 (L.getD (i - 15) 0)) (h7 : a7 = L.getD (i - 7) 0) (h2 : s1 = sm1 (L.getD (i - 2) 0)) :
    ((a16 : Int) + (s0 : Int) + (a7 : Int) + (s1 : Int)) % 4294967296 = ((nextW L i : Nat) : Int) := by
  subst h16 h15 h7 h2; unfold nextW; simp
theorem xF_int (t : St) (k w : Nat) : ∃ p1 p2 p3 x : Nat, ((t.h : Int) + (sg1 t.e : Nat)) % 4294967296 = (p1 : Int) ∧ ((p1 : Int) + (chF t.e t.f t.g : Nat)) % 4294967296 = (p2 : Int) ∧ ((p2 : Int) + (k : Nat)) % 4294967296 = (p3 : Int) ∧ ((p3 : Int) + (w : Nat)) % 4294967296 = (x : Int) ∧ x = xF k w t := by
  refine ⟨(t.h + sg1 t.e) % 4294967296, ((t.h + sg1 t.e) % 4294967296 + chF t.e t.f t.g) % 4294967296, (((t.h + sg1 t.e) % 4294967296 + chF t.e t.f t.g) % 4294967296 + k) % 4294967296, _, by simp, by simp, by simp, ?_, rfl⟩
  unfold xF; simp
theorem not_bits (e : Nat) (he : e < 4294967296) : bits .xor .u32 (if IntKind.u32.signed = true then -1 else IntKind.u32.max) (e : Int) = 4294967295 - (e : Int) := by
  have h : (if IntKind.u32.signed = true then (-1 : Int) else IntKind.u32.max) = ((4294967295 : Nat) : Int) := by decide
  have h2 : (4294967295 : Nat) ^^^ e = 4294967295 - e := by
    have e1 : (4294967295 : Nat) = 2 ^ 32 - 1 := by decide
    have e2 : 4294967295 - e = 2 ^ 32 - (e + 1) := by have : (2 : Nat) ^ 32 = 4294967296 := by decide
                                                      omega
    rw [e2, e1]
    refine Nat.eq_of_testBit_eq fun i => ?_
    rw [Nat.testBit_xor, Nat.testBit_two_pow_sub_one, Nat.testBit_two_pow_sub_succ he]
    by_cases hi : i < 32
    · simp [hi]
    · have : e.testBit i = false := Nat.testBit_lt_two_pow (Nat.lt_of_lt_of_le he (Nat.pow_le_pow_right (n := 2) (by decide) (show 32 ≤ i by omega)))
      simp [hi, this]
  rw [h, u32_xor_nat _ _ (by decide) he, h2]; omega
def plus (s t : St) : St := ⟨ad s.a t.a, ad s.b t.b, ad s.c t.c, ad s.d t.d, ad s.e t.e, ad s.f t.f, ad s.g t.g, ad s.h t.h⟩
def comp (s : St) (b : List UInt8) : St := plus s (rnds keyL (sched b 64) s 64)
theorem comp_ok (s : St) (b : List UInt8) : (comp s b).Ok := ⟨ad_lt _ _, ad_lt _ _, ad_lt _ _, ad_lt _ _, ad_lt _ _, ad_lt _ _, ad_lt _ _, ad_lt _ _⟩
def St.nth (s : St) : Nat → Nat
  | 0 => s.a
  | 1 => s.b
  | 2 => s.c
  | 3 => s.d
  | 4 => s.e
  | 5 => s.f
  | 6 => s.g
  | 7 => s.h
  | _ => 0
/-- The first k words added, the others as they were. -/
def mixV (s t : St) (k j : Nat) : Value := .int .u32 (((if j < k then ad (s.nth j) (t.nth j) else s.nth j) : Nat) : Int)
theorem lt8 {j : Nat} (h : j < 8) : j = 0 ∨ j = 1 ∨ j = 2 ∨ j = 3 ∨ j = 4 ∨ j = 5 ∨ j = 6 ∨ j = 7 := by omega
theorem mix_zero (s t : St) : s.cells = rowA 8 (mixV s t 0) := rowA_of rfl fun j h => by
  rcases lt8 h with rfl | rfl | rfl | rfl | rfl | rfl | rfl | rfl <;> rfl
theorem mix_all (s t : St) : rowA 8 (mixV s t 8) = (plus s t).cells := by
  refine (rowA_of (n := 8) (A := (plus s t).cells) rfl fun j h => ?_).symm
  rcases lt8 h with rfl | rfl | rfl | rfl | rfl | rfl | rfl | rfl <;> rfl
theorem cells_nth (s : St) {j : Nat} (h : j < 8) : s.cells[j]? = some (.int .u32 (s.nth j : Nat)) := by
  rcases lt8 h with rfl | rfl | rfl | rfl | rfl | rfl | rfl | rfl <;> rfl
theorem mix_set (s t : St) (k : Nat) (_h : k < 8) : (rowA 8 (mixV s t k)).setIfInBounds k (.int .u32 ((ad (s.nth k) (t.nth k) : Nat) : Int)) = rowA 8 (mixV s t (k + 1)) := by
  rw [rowA_set]
  refine rowA_ext fun j hj => ?_
  unfold mixV
  by_cases e : j = k
  · subst e; rw [if_pos rfl, if_pos (by omega)]
  · rw [if_neg e]
    by_cases e2 : j < k
    · rw [if_pos e2, if_pos (by omega)]
    · rw [if_neg e2, if_neg (by omega)]
end
end Go.Proofs.YtdjlpmelmhhooaaGreatDoor
