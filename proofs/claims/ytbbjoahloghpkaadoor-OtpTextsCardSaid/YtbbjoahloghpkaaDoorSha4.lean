/- Keys, start: the walks. -/
import Derived.Test.YtbbjoahloghpkaaDoorSha2
import Derived.Test.YtbbjoahloghpkaaDoorSha3
import Derived.Test.YtbbjoahloghpkaaDoorRowIn
import Derived.Test.YtbbjoahloghpkaaDoorLastR
namespace Go.Proofs.YtbbjoahloghpkaaDoor
open Go Go.RowKit
set_option linter.unusedSimpArgs false
attribute [local go_sem] Oper.semAt_some

theorem Kept.setRow {S : Nat → Prop} {A B : World} (h : Kept S A B) (g : Nat) (hg : S g) (C : Array Value) : Kept S A (B.setRow g C) :=
  h.trans ⟨rfl, rfl, rfl, by simp, fun k _ hs => setRow_other B g k C (fun e => hs (e ▸ hg))⟩
theorem prime_bound {x : Nat} (h : x ∈ primesTo 314) : x < 65536 := by
  unfold primesTo at h
  have := List.mem_range.1 (List.mem_filter.1 h).1
  omega
theorem key_at {pre post : List Nat} {x : Nat} (h : primesTo 314 = pre ++ x :: post) (hl : pre.length < 64) : rootN cubeV x = keyL.getD pre.length 0 := by
  rw [← keys_are, h, List.getD_eq_getElem?_getD, List.getElem?_map, List.getElem?_take, if_pos hl, List.getElem?_append_right (Nat.le_refl _), Nat.sub_self, List.getElem?_cons_zero, Option.map_some, Option.getD_some]
theorem start_at {pre post : List Nat} {x : Nat} (h : primesTo 314 = pre ++ x :: post) (hl : pre.length < 8) : rootN squareV x = startL.getD pre.length 0 := by
  rw [← start_is, h, List.getD_eq_getElem?_getD, List.getElem?_map, List.getElem?_take, if_pos hl, List.getElem?_append_right (Nat.le_refl _), Nat.sub_self, List.getElem?_cons_zero, Option.map_some, Option.getD_some]
/-- The first k of a row of words, noughts behind them. -/
def wordsF (L : List Nat) (k j : Nat) : Value := .int .u32 (((if j < k then L.getD j 0 else 0) : Nat) : Int)
theorem wordsF_set (L : List Nat) (n k : Nat) (h : k < n) : (rowA n (wordsF L k)).setIfInBounds k (.int .u32 ((L.getD k 0 : Nat) : Int)) = rowA n (wordsF L (k + 1)) := by
  rw [rowA_set]
  refine rowA_ext fun j hj => ?_
  unfold wordsF
  by_cases e : j = k
  · subst e; rw [if_pos rfl, if_pos (by omega)]
  · rw [if_neg e]
    by_cases e2 : j < k
    · rw [if_pos e2, if_pos (by omega)]
    · rw [if_neg e2, if_neg (by omega)]
theorem wordsF_one (L : List Nat) (n k : Nat) : (rowA n (wordsF L k)).all (·.oneCell') = true := by
  rw [Array.all_eq_true]; intro i h; simp only [rowA, Array.getElem_ofFn, wordsF]; rfl
/-- Words as a value. -/
def wordsV (n : Nat) (L : List Nat) : Value := .agg (rowA n (wordsF L n))
theorem zero64 (w : World) : (zeroValue 129).run Tryd.prog w = .ok (.agg (rowA 64 (wordsF keyL 0))) w := by kernel_rfl
theorem info64 : (Tryd.prog.info? 129).map (·.size) = some 64 := by kernel_rfl

set_option maxRecDepth 100000 in
set_option maxHeartbeats 4000000 in
theorem keys_any (w : World) : Calls Tryd.prog 103 #[] w fun e w' => e = .returned (wordsV 64 keyL) ∧ Below w.heap.size w w' := by
  refine (callsIn_wide (n := 0)).1 ?_
  have hz := zero64
  refine callsIn_of_wp_marks Tryd.func103 rfl trivial ?_
  simp only [Tryd.ntmps103, List.size_toArray, List.length_cons, List.length_nil, Nat.reduceAdd, Nat.reduceSub, Array.replicate_succ, Array.replicate_zero, List.push_toArray, List.append_toArray, List.nil_append, List.cons_append]
  gi_wp2_with (refine ⟨trivial, rfl, ?_⟩; gi_at_call 116; refine (callsIn_wide.2 (primes_make _)).mono ?_; rintro e w' ⟨rfl, rfl⟩)
  clear hz
  generalize hW0 : World.alloc _ (Obj.cells #[.int .i64 0] 3) = W0
  have hsz0 : w.heap.size + 3 ≤ W0.heap.size ∧ W0.heap.size ≤ w.heap.size + 3 := by rw [← hW0]; simp
  have m0 : RowAt W0 w.heap.size 129 (rowA 64 (wordsF keyL 0)) := by rw [← hW0]; exact ((RowAt.new w _ _).alloc _).alloc _
  have m1 : RowAt W0 (w.heap.size + 1) 129 (rowA 64 (wordsF keyL 0)) := by rw [← hW0]; have := RowAt.new (w.alloc (.cells (rowA 64 (wordsF keyL 0)) 129)) (rowA 64 (wordsF keyL 0)) 129; rw [World.size_alloc] at this; exact this.alloc _
  have m2 : RowAt W0 (w.heap.size + 2) 3 #[.int .i64 0] := by rw [← hW0]; have := RowAt.new ((w.alloc (.cells (rowA 64 (wordsF keyL 0)) 129)).alloc (.cells (rowA 64 (wordsF keyL 0)) 129)) #[.int .i64 0] 3; rwa [World.size_alloc, World.size_alloc] at this
  have hb0 : Below w.heap.size w W0 := by rw [← hW0]; exact below_al (below_al (below_al (Below.refl _ _) _) _) _
  clear hW0
  refine wp_iter_to_put (gf := 128) (lb := #[]) rfl (enters_of Tryd.func128 (by kernel_rfl) rfl) (primes_on W0)
    (fun _ h => h.elim) (fun _ h => h.elim) (fun _ => rfl) (fun x => [(3, .int .u64 (x : Nat))])
    (fun pre X => (RowAt X w.heap.size 129 (rowA 64 (wordsF keyL 0)) ∧ RowAt X (w.heap.size + 1) 129 (rowA 64 (wordsF keyL pre.length)) ∧ RowAt X (w.heap.size + 2) 3 #[.int .i64 (pre.length : Nat)] ∧ Below w.heap.size w X) ∧ pre.length ≤ 64)
    (fun c pre X => (RowAt X w.heap.size 129 (rowA 64 (wordsF keyL 0)) ∧ RowAt X (w.heap.size + 1) 129 (rowA 64 (wordsF keyL 64)) ∧ Below w.heap.size w X) ∧ c = .exit 0) ?hno ?hI ?hIx ⟨⟨m0, m1, m2, hb0⟩, by simp⟩ ?assign ?body ?stop
  case hno =>
    rintro X ⟨_, h⟩
    rw [primes_len] at h; omega
  case hI =>
    rintro pre X Y ⟨⟨h1, h2, h3, h4⟩, h5⟩ hk
    have hT : ∀ k, (False ∨ twoOf W0.heap.size k) → w.heap.size + 3 ≤ k := by rintro k (h | h | h); exact h.elim; all_goals omega
    exact ⟨⟨hk.row h1 (fun x => by have := hT _ x; omega), hk.row h2 (fun x => by have := hT _ x; omega), hk.row h3 (fun x => by have := hT _ x; omega), below_kept h4 hk (Nat.le_refl _) (fun k x => by have := hT _ x; omega)⟩, h5⟩
  case hIx =>
    rintro c pre X Y ⟨⟨h1, h2, h4⟩, h5⟩ hk
    have hT : ∀ k, (False ∨ twoOf W0.heap.size k) → w.heap.size + 3 ≤ k := by rintro k (h | h | h); exact h.elim; all_goals omega
    exact ⟨⟨hk.row h1 (fun x => by have := hT _ x; omega), hk.row h2 (fun x => by have := hT _ x; omega), below_kept h4 hk (Nat.le_refl _) (fun k x => by have := hT _ x; omega)⟩, h5⟩
  case assign =>
    intro l x W K hK
    gi_wp2
    simpa [encN, putAll] using hK
  case body =>
    rintro pre x post X hx hXs _ ⟨⟨h1, h2, h3, h4⟩, h5⟩
    have hxb : x < 65536 := prime_bound (by rw [hx]; simp)
    have q3 : X.cell? ⟨w.heap.size + 2, 0, none⟩ = some (.int .i64 (pre.length : Nat)) := h3.cell (j := 0) rfl
    simp only [putAll, encN, List.zip_toArray, List.foldl_toArray', List.foldl_toArray, List.zip_cons_cons, List.zip_nil_left, List.foldl_cons, List.foldl_nil, List.setIfInBounds_toArray, List.set_cons_zero, List.set_cons_succ]
    by_cases h64 : pre.length = 64
    · have hb : (((pre.length : Nat) : Int) == 64) = true := by rw [beq_iff_eq]; omega
      rw [h64] at h2
      replace hx := hid hx
      clear h64
      gi_wp2
      exact ⟨Kept.refl _ _, ⟨h1, h2, h4⟩, rfl⟩
    · have hb : (((pre.length : Nat) : Int) == 64) = false := by rw [beq_eq_false_iff_ne]; omega
      have hk : pre.length < 64 := by omega
      have hki : ((pre.length : Nat) : Int) < 64 := by omega
      have hroot := fun w => root_cube x hxb w
      rw [key_at hx hk] at hroot
      obtain ⟨v, hv⟩ : ∃ v, v = keyL.getD pre.length 0 := ⟨_, rfl⟩
      rw [← hv] at hroot
      have e2 : ∀ q : Sub X, q.x.cell? ⟨w.heap.size + 2, 0, none⟩ = some (.int .i64 (pre.length : Nat)) := fun q => q.cell h3 rfl
      replace hroot := hid hroot
      replace hx := hid hx
      replace hv := hid hv
      gi_wp2
      refine wpIn_region_last_round (by kernel_rfl) (by kernel_rfl) (by kernel_rfl) (by kernel_rfl) 4 _ rfl rfl ?_
      simp only [muted, mute]
      repeat (go_big_quiet_step (first | (go_at_call 117; with_reducible refine Sub.same _ (hroot.out _))))
      refine wpQuiet_nil ?_
      intro q
      have k1 := h1.below q.h h1.lt
      have k2 := h2.below q.h h2.lt
      have k3 := h3.below q.h h3.lt
      have k4 := below_cat q.h h4
      have hkp := Kept.of_below (S := fun k => ¬ (twoOf W0.heap.size k ∨ False)) q.h
      obtain ⟨Y, hY⟩ : ∃ Y, Y = q.x := ⟨_, rfl⟩
      rw [← hY] at k1 k2 k3 k4 hkp ⊢
      have hfr := k2.free pre.length
      have hcf : Y.cell? ⟨w.heap.size + 1, pre.length, none⟩ = some (.int .u32 0) := k2.cell (by rw [rowA_get _ _ _ hk]; simp [wordsF])
      unfold Oper.wpIn
      simp [go_sem, hfr, hcf]
      have n1 := k1.other ⟨w.heap.size + 1, pre.length, none⟩ (.int .u32 (v : Nat)) (by simp)
      have n2 := (k2.set pre.length (.int .u32 (v : Nat))).eqA (A' := rowA 64 (wordsF keyL (pre.length + 1))) (by rw [hv.out]; exact wordsF_set keyL 64 pre.length hk)
      have n3 := k3.other ⟨w.heap.size + 1, pre.length, none⟩ (.int .u32 (v : Nat)) (by simp)
      have n4 := k4.setCell (p := ⟨w.heap.size + 1, pre.length, none⟩) (by simp) (.int .u32 (v : Nat))
      have n5 := hkp.setCell ⟨w.heap.size + 1, pre.length, none⟩ (.inl (by simp [twoOf]; omega)) (.int .u32 (v : Nat))
      obtain ⟨Z, hZ⟩ : ∃ Z, Z = Y.setCell ⟨w.heap.size + 1, pre.length, none⟩ (.int .u32 (v : Nat)) := ⟨_, rfl⟩
      rw [← hZ] at n1 n2 n3 n4 n5 ⊢
      have e3 : Z.cell? ⟨w.heap.size + 2, 0, none⟩ = some (.int .i64 (pre.length : Nat)) := n3.cell (j := 0) rfl
      have f3 := n3.free 0
      clear hZ hfr hcf k1 k2 k3 k4 hkp e2
      gi_wp2
      refine ⟨n5.setCell _ (.inl (by simp [twoOf]; omega)) _, ⟨n1.other _ _ (by simp <;> omega), ?_, ?_, n4.setCell (by simp <;> omega) _⟩, by simp; omega⟩
      · simpa using n2.other ⟨w.heap.size + 2, 0, none⟩ (.int .i64 (pre.length + 1 : Nat)) (by simp)
      · simpa using (n3.set 0 (.int .i64 (pre.length + 1 : Nat)))
  case stop =>
    rintro c pre x post X hsz hx ⟨⟨h1, h2, h4⟩, rfl⟩ hd
    have g2 : X.heap[w.heap.size + 1]? = some (.cells (rowA 64 (wordsF keyL 64)) 129 (0, 0)) := h2
    have g1 : X.heap[w.heap.size]? = some (.cells (rowA 64 (wordsF keyL 0)) 129 (0, 0)) := h1
    replace g1 := hid g1
    replace g2 := hid g2
    gi_wp2_with (first | (refine wpListIn_load_row rfl 129 _ rfl (w.heap.size + 1) rfl 129 (rowA 64 (wordsF keyL 64)) (0, 0) _ g2.out Tryd.underlying129 rfl (by rw [info64, rowA_size]) ?_) | (refine wpListIn_store_row rfl 129 _ _ rfl w.heap.size (rowA 64 (wordsF keyL 64)) rfl rfl 129 (rowA 64 (wordsF keyL 0)) g1.out (by rw [info64, rowA_size]) (by rw [rowA_size, rowA_size]) (wordsF_one _ _ _) ?_))
    have r1 := h1.setRow (rowA 64 (wordsF keyL 64))
    have hb1 := below_setRow h4 (Nat.le_refl _) (rowA 64 (wordsF keyL 64))
    have hd1 := (setRow_other X w.heap.size W0.heap.size (rowA 64 (wordsF keyL 64)) (by omega)).trans hd
    obtain ⟨Y, hY⟩ : ∃ Y, Y = X.setRow w.heap.size (rowA 64 (wordsF keyL 64)) := ⟨_, rfl⟩
    rw [← hY] at r1 hb1 hd1 ⊢
    have r2 : RowAt (Y.putObj W0.heap.size (.deferred none)) w.heap.size 129 (rowA 64 (wordsF keyL 64)) := (World.putObj_heap_other (by omega)).trans r1
    refine leave_one hd1 ⟨_, results_cell_row rfl _ _ w.heap.size 129 (rowA 64 (wordsF keyL 64)) (0, 0) _ rfl r2 Tryd.underlying129 rfl (by rw [info64, rowA_size]), rfl, ?_⟩
    exact below_kept hb1 ((Kept.refl (fun k => k = W0.heap.size) _).putObj _ _ (.inl rfl)) (Nat.le_refl _) (fun k hk => by omega)
theorem zero8 (w : World) : (zeroValue 127).run Tryd.prog w = .ok (.agg (rowA 8 (wordsF startL 0))) w := by kernel_rfl
theorem info8 : (Tryd.prog.info? 127).map (·.size) = some 8 := by kernel_rfl

set_option maxRecDepth 100000 in
set_option maxHeartbeats 4000000 in
theorem start_any (w : World) : Calls Tryd.prog 102 #[] w fun e w' => e = .returned (wordsV 8 startL) ∧ Below w.heap.size w w' := by
  refine (callsIn_wide (n := 0)).1 ?_
  have hz := zero8
  refine callsIn_of_wp_marks Tryd.func102 rfl trivial ?_
  simp only [Tryd.ntmps102, List.size_toArray, List.length_cons, List.length_nil, Nat.reduceAdd, Nat.reduceSub, Array.replicate_succ, Array.replicate_zero, List.push_toArray, List.append_toArray, List.nil_append, List.cons_append]
  gi_wp2_with (refine ⟨trivial, rfl, ?_⟩; gi_at_call 116; refine (callsIn_wide.2 (primes_make _)).mono ?_; rintro e w' ⟨rfl, rfl⟩)
  clear hz
  generalize hW0 : World.alloc _ (Obj.cells #[.int .i64 0] 3) = W0
  have hsz0 : w.heap.size + 3 ≤ W0.heap.size ∧ W0.heap.size ≤ w.heap.size + 3 := by rw [← hW0]; simp
  have m0 : RowAt W0 w.heap.size 127 (rowA 8 (wordsF startL 0)) := by rw [← hW0]; exact ((RowAt.new w _ _).alloc _).alloc _
  have m1 : RowAt W0 (w.heap.size + 1) 127 (rowA 8 (wordsF startL 0)) := by rw [← hW0]; have := RowAt.new (w.alloc (.cells (rowA 8 (wordsF startL 0)) 127)) (rowA 8 (wordsF startL 0)) 127; rw [World.size_alloc] at this; exact this.alloc _
  have m2 : RowAt W0 (w.heap.size + 2) 3 #[.int .i64 0] := by rw [← hW0]; have := RowAt.new ((w.alloc (.cells (rowA 8 (wordsF startL 0)) 127)).alloc (.cells (rowA 8 (wordsF startL 0)) 127)) #[.int .i64 0] 3; rwa [World.size_alloc, World.size_alloc] at this
  have hb0 : Below w.heap.size w W0 := by rw [← hW0]; exact below_al (below_al (below_al (Below.refl _ _) _) _) _
  clear hW0
  refine wp_iter_to_put (gf := 128) (lb := #[]) rfl (enters_of Tryd.func128 (by kernel_rfl) rfl) (primes_on W0)
    (fun _ h => h.elim) (fun _ h => h.elim) (fun _ => rfl) (fun x => [(3, .int .u64 (x : Nat))])
    (fun pre X => (RowAt X w.heap.size 127 (rowA 8 (wordsF startL 0)) ∧ RowAt X (w.heap.size + 1) 127 (rowA 8 (wordsF startL pre.length)) ∧ RowAt X (w.heap.size + 2) 3 #[.int .i64 (pre.length : Nat)] ∧ Below w.heap.size w X) ∧ pre.length ≤ 8)
    (fun c pre X => (RowAt X w.heap.size 127 (rowA 8 (wordsF startL 8)) ∧ Below w.heap.size w X) ∧ c = .ret) ?hno ?hI ?hIx ⟨⟨m0, m1, m2, hb0⟩, by simp⟩ ?assign ?body ?stop
  case hno =>
    rintro X ⟨_, h⟩
    rw [primes_len] at h; omega
  case hI =>
    rintro pre X Y ⟨⟨h1, h2, h3, h4⟩, h5⟩ hk
    have hT : ∀ k, (False ∨ twoOf W0.heap.size k) → w.heap.size + 3 ≤ k := by rintro k (h | h | h); exact h.elim; all_goals omega
    exact ⟨⟨hk.row h1 (fun x => by have := hT _ x; omega), hk.row h2 (fun x => by have := hT _ x; omega), hk.row h3 (fun x => by have := hT _ x; omega), below_kept h4 hk (Nat.le_refl _) (fun k x => by have := hT _ x; omega)⟩, h5⟩
  case hIx =>
    rintro c pre X Y ⟨⟨h1, h4⟩, h5⟩ hk
    have hT : ∀ k, (False ∨ twoOf W0.heap.size k) → w.heap.size + 3 ≤ k := by rintro k (h | h | h); exact h.elim; all_goals omega
    exact ⟨⟨hk.row h1 (fun x => by have := hT _ x; omega), below_kept h4 hk (Nat.le_refl _) (fun k x => by have := hT _ x; omega)⟩, h5⟩
  case assign =>
    intro l x W K hK
    gi_wp2
    simpa [encN, putAll] using hK
  case body =>
    rintro pre x post X hx hXs _ ⟨⟨h1, h2, h3, h4⟩, h5⟩
    have hxb : x < 65536 := prime_bound (by rw [hx]; simp)
    have q3 : X.cell? ⟨w.heap.size + 2, 0, none⟩ = some (.int .i64 (pre.length : Nat)) := h3.cell (j := 0) rfl
    simp only [putAll, encN, List.zip_toArray, List.foldl_toArray', List.foldl_toArray, List.zip_cons_cons, List.zip_nil_left, List.foldl_cons, List.foldl_nil, List.setIfInBounds_toArray, List.set_cons_zero, List.set_cons_succ]
    by_cases h8 : pre.length = 8
    · have hb : (((pre.length : Nat) : Int) == 8) = true := by rw [beq_iff_eq]; omega
      rw [h8] at h2
      replace hx := hid hx
      clear h8
      have g2 : X.heap[w.heap.size + 1]? = some (.cells (rowA 8 (wordsF startL 8)) 127 (0, 0)) := h2
      have g1 : X.heap[w.heap.size]? = some (.cells (rowA 8 (wordsF startL 0)) 127 (0, 0)) := h1
      replace g1 := hid g1
      replace g2 := hid g2
      gi_wp2_with (first | (refine wpListIn_load_row rfl 127 _ rfl (w.heap.size + 1) rfl 127 (rowA 8 (wordsF startL 8)) (0, 0) _ g2.out Tryd.underlying127 rfl (by rw [info8, rowA_size]) ?_) | (refine wpListIn_store_row rfl 127 _ _ rfl w.heap.size (rowA 8 (wordsF startL 8)) rfl rfl 127 (rowA 8 (wordsF startL 0)) g1.out (by rw [info8, rowA_size]) (by rw [rowA_size, rowA_size]) (wordsF_one _ _ _) ?_))
      exact ⟨(Kept.refl _ _).setRow _ (by simp [twoOf]; omega) _, ⟨h1.setRow _, below_setRow h4 (Nat.le_refl _) _⟩, rfl⟩
    · have hb : (((pre.length : Nat) : Int) == 8) = false := by rw [beq_eq_false_iff_ne]; omega
      have hk : pre.length < 8 := by omega
      have hki : ((pre.length : Nat) : Int) < 8 := by omega
      have hroot := fun w => root_square x hxb w
      rw [start_at hx hk] at hroot
      obtain ⟨v, hv⟩ : ∃ v, v = startL.getD pre.length 0 := ⟨_, rfl⟩
      rw [← hv] at hroot
      have e2 : ∀ q : Sub X, q.x.cell? ⟨w.heap.size + 2, 0, none⟩ = some (.int .i64 (pre.length : Nat)) := fun q => q.cell h3 rfl
      replace hroot := hid hroot
      replace hx := hid hx
      replace hv := hid hv
      gi_wp2
      refine wpIn_region_last_round (by kernel_rfl) (by kernel_rfl) (by kernel_rfl) (by kernel_rfl) 4 _ rfl rfl ?_
      simp only [muted, mute]
      repeat (go_big_quiet_step (first | (go_at_call 117; with_reducible refine Sub.same _ (hroot.out _))))
      refine wpQuiet_nil ?_
      intro q
      have k1 := h1.below q.h h1.lt
      have k2 := h2.below q.h h2.lt
      have k3 := h3.below q.h h3.lt
      have k4 := below_cat q.h h4
      have hkp := Kept.of_below (S := fun k => ¬ (twoOf W0.heap.size k ∨ False)) q.h
      obtain ⟨Y, hY⟩ : ∃ Y, Y = q.x := ⟨_, rfl⟩
      rw [← hY] at k1 k2 k3 k4 hkp ⊢
      have hfr := k2.free pre.length
      have hcf : Y.cell? ⟨w.heap.size + 1, pre.length, none⟩ = some (.int .u32 0) := k2.cell (by rw [rowA_get _ _ _ hk]; simp [wordsF])
      unfold Oper.wpIn
      simp [go_sem, hfr, hcf]
      have n1 := k1.other ⟨w.heap.size + 1, pre.length, none⟩ (.int .u32 (v : Nat)) (by simp)
      have n2 := (k2.set pre.length (.int .u32 (v : Nat))).eqA (A' := rowA 8 (wordsF startL (pre.length + 1))) (by rw [hv.out]; exact wordsF_set startL 8 pre.length hk)
      have n3 := k3.other ⟨w.heap.size + 1, pre.length, none⟩ (.int .u32 (v : Nat)) (by simp)
      have n4 := k4.setCell (p := ⟨w.heap.size + 1, pre.length, none⟩) (by simp) (.int .u32 (v : Nat))
      have n5 := hkp.setCell ⟨w.heap.size + 1, pre.length, none⟩ (.inl (by simp [twoOf]; omega)) (.int .u32 (v : Nat))
      obtain ⟨Z, hZ⟩ : ∃ Z, Z = Y.setCell ⟨w.heap.size + 1, pre.length, none⟩ (.int .u32 (v : Nat)) := ⟨_, rfl⟩
      rw [← hZ] at n1 n2 n3 n4 n5 ⊢
      have e3 : Z.cell? ⟨w.heap.size + 2, 0, none⟩ = some (.int .i64 (pre.length : Nat)) := n3.cell (j := 0) rfl
      have f3 := n3.free 0
      clear hZ hfr hcf k1 k2 k3 k4 hkp e2
      gi_wp2
      refine ⟨n5.setCell _ (.inl (by simp [twoOf]; omega)) _, ⟨n1.other _ _ (by simp <;> omega), ?_, ?_, n4.setCell (by simp <;> omega) _⟩, by simp; omega⟩
      · simpa using n2.other ⟨w.heap.size + 2, 0, none⟩ (.int .i64 (pre.length + 1 : Nat)) (by simp)
      · simpa using (n3.set 0 (.int .i64 (pre.length + 1 : Nat)))
  case stop =>
    rintro c pre x post X hsz hx ⟨⟨h1, h4⟩, rfl⟩ hd
    gi_wp2
    have r2 : RowAt (X.putObj W0.heap.size (.deferred none)) w.heap.size 127 (rowA 8 (wordsF startL 8)) := (World.putObj_heap_other (by omega)).trans h1
    refine leave_one hd ⟨_, results_cell_row rfl _ _ w.heap.size 127 (rowA 8 (wordsF startL 8)) (0, 0) _ rfl r2 Tryd.underlying127 rfl (by rw [info8, rowA_size]), rfl, ?_⟩
    exact below_kept h4 ((Kept.refl (fun k => k = W0.heap.size) _).putObj _ _ (.inl rfl)) (Nat.le_refl _) (fun k hk => by omega)
end Go.Proofs.YtbbjoahloghpkaaDoor
