/- Catalog: the walk of CatalogPlaces. -/
import Derived.Test.YtdjlpmelmhhooaaGreatDoorCtX3
namespace Go.Proofs.YtdjlpmelmhhooaaGreatDoor
open Go Go.RowKit
set_option linter.unusedSimpArgs false
set_option linter.unusedVariables false

theorem names_unlike {i j : Nat} (hi : i < 32) (hj : j < 32) (h : (ctR i).name = (ctR j).name) : i = j := by
  have key : ((List.range 32).all fun i => (List.range 32).all fun j => i == j || (ctR i).name.data.toList != (ctR j).name.data.toList) = true := by kernel_rfl
  have h1 := List.all_eq_true.1 key i (List.mem_range.2 hi)
  have h2 := List.all_eq_true.1 h1 j (List.mem_range.2 hj)
  rw [h] at h2
  simpa using h2
/-- Has field n a place in a message ahead of m? -/
def hadB (n m : Nat) : Bool := (List.range m).any fun j => decide (1 ≤ j) && ((ctIn n j).toNat != 45)
theorem hadB_next (n m : Nat) (h : 1 ≤ m) : hadB n (m + 1) = (hadB n m || ((ctIn n m).toNat != 45)) := by
  simp [hadB, List.range_succ, h]
theorem hadB_all : ∀ n, n < 32 → hadB n 10 = true := by decide
theorem need_first : ∀ n, n < 2 → ∀ m, 1 ≤ m → m ≤ 9 → ctNeed n m = true := by
  intro n hn m h1 h9
  have key : ((List.range 2).all fun n => (List.range 10).all fun m => decide (m = 0) || ctNeed n m) = true := by decide
  have a := List.all_eq_true.1 (List.all_eq_true.1 key n (List.mem_range.2 hn)) m (List.mem_range.2 (by omega))
  have : ¬ m = 0 := by omega
  simpa [this] using a
theorem ofXs_any (m : Nat) (γ : CtG) (n : Nat) (hn : n < 32) : (ofXs m γ).any (fun x => x.1 == n) = ((ctIn n m).toNat != 45) := by
  rw [Bool.eq_iff_iff, List.any_eq_true]
  constructor
  · rintro ⟨x, hx, he⟩
    rw [ofXs, List.mem_filter] at hx
    have : x.1 = n := by simpa using he
    have h2 := hx.2
    rw [ctHas, this] at h2
    exact h2
  · intro h
    refine ⟨(n, ctAtP γ n), ?_, by simp⟩
    rw [ofXs, List.mem_filter]
    exact ⟨by rw [ctXs, List.mem_map]; exact ⟨n, List.mem_range.2 hn, rfl⟩, h⟩
def cntF (m : Nat) : Nat := ((List.range 32).filter fun i => (ctIn i m).toNat != 45).length
theorem ofXs_len (m : Nat) (γ : CtG) : (ofXs m γ).length = cntF m := by
  rw [ofXs, ctXs, List.filter_map, List.length_map, cntF]
  rfl
theorem cnt_bounds : ∀ m, m < 10 → 1 ≤ m → 3 ≤ cntF m ∧ cntF m ≤ 32 := by decide
theorem msgN_own : ∀ m, m < 10 → 1 ≤ m → msgN (msgS m) = m := by decide
theorem ofXs_pre {m : Nat} {γ : CtG} {pre post : List CtX} {x : CtX} (h : ofXs m γ = pre ++ x :: post) : x.1 < 32 ∧ x = (x.1, ctAtP γ x.1) := by
  have hx : x ∈ ofXs m γ := by rw [h]; simp
  rw [ofXs, List.mem_filter, ctXs, List.mem_map] at hx
  obtain ⟨⟨i, hi, rfl⟩, _⟩ := hx
  exact ⟨List.mem_range.1 hi, rfl⟩

/-- The result's box, the count's. -/
structure PlB (b0 b1 n : Nat) (w X : World) : Prop where
  bel : Below b0 w X
  r0 : RowAt X b0 4 #[.bool false]
  r1 : RowAt X b1 3 #[.int .i64 (n : Nat)]
theorem PlB.kept {b0 b1 n : Nat} {w X Y : World} {T : Nat → Prop} (h : PlB b0 b1 n w X) (hk : Kept T X Y) (hT : ∀ k, T k → b1 < k) (h01 : b0 < b1) (hb : b0 ≤ w.heap.size) : PlB b0 b1 n w Y :=
  ⟨below_kept h.bel hk hb (fun k x => by have := hT k x; omega), hk.row h.r0 (fun x => by have := hT _ x; omega), hk.row h.r1 (fun x => by have := hT _ x; omega)⟩
/-- In a round of the outer loop. -/
structure PlR (b0 b1 n g q B : Nat) (γ : CtG) (v : Bool) (w X Y : World) : Prop where
  base : PlB b0 b1 (n + 1) w Y
  ri : RowAt Y g 3 #[.int .i64 (n : Nat)]
  rf : RowAt Y (g + 1) 58 ((ctR n).cells (ctAtP γ n))
  rq : RowAt Y q 4 #[.bool v]
  lp : ∃ r, Y.heap[B + 1]? = some (.loop r)
  kept : Kept (fun k => ¬ (twoOf B k ∨ heldD (fun _ => False) (B + 2) (ctM γ) k)) X Y
theorem PlR.on {b0 b1 n g q B Z : Nat} {γ : CtG} {v : Bool} {w X Y Y' : World} {T : Nat → Prop} (h : PlR b0 b1 n g q B γ v w X Y) (hk : Kept T Y Y') (hT : ∀ k, T k → Z ≤ k) (h01 : b0 < b1) (hb : b0 ≤ w.heap.size)
    (z1 : b1 < Z) (z2 : g + 1 < Z) (z3 : q < Z) (z4 : B + 1 < Z) (z5 : ctM γ ≤ Z) : PlR b0 b1 n g q B γ v w X Y' :=
  ⟨h.base.kept hk (fun k x => by have := hT k x; omega) h01 hb, hk.row h.ri (fun x => by have := hT _ x; omega), hk.row h.rf (fun x => by have := hT _ x; omega), hk.row h.rq (fun x => by have := hT _ x; omega),
    by obtain ⟨r, hr⟩ := h.lp
       exact ⟨r, (hk.block _ (Array.getElem?_eq_some_iff.1 hr).1 (fun x => by have := hT _ x; omega)).trans hr⟩,
    h.kept.trans (hk.mono fun k _ x hh => by
      have := hT k x
      rcases hh with (hh | hh) | hh | hh
      · omega
      · omega
      · exact hh
      · omega)⟩
theorem PlR.yes {b0 b1 n g q B : Nat} {γ : CtG} {v : Bool} {w X Y : World} (h : PlR b0 b1 n g q B γ v w X Y) (h01 : b0 < q) (q1 : b1 ≠ q) (q2 : g ≠ q) (q3 : g + 1 ≠ q) (q4 : B + 1 < q) (q5 : ctM γ ≤ q) : PlR b0 b1 n g q B γ true w X (Y.setCell ⟨q, 0, none⟩ (.bool true)) :=
  ⟨⟨h.base.bel.setCell (p := ⟨q, 0, none⟩) (by show b0 ≤ q; omega) _, h.base.r0.other _ _ (by show b0 ≠ q; omega), h.base.r1.other _ _ q1⟩, h.ri.other _ _ q2, h.rf.other _ _ q3, (h.rq.set 0 (.bool true)).eqA (by simp),
    by obtain ⟨r, hr⟩ := h.lp
       exact ⟨r, (Below.heap_setCell Y _ _ (B + 1) (by show B + 1 ≠ q; omega)).trans hr⟩,
    h.kept.setCell ⟨q, 0, none⟩ (.inl fun hh => by
      rcases hh with (hh | hh) | hh | hh
      · have : q = B := hh
        omega
      · have : q = B + 1 := hh
        omega
      · exact hh
      · have : q < ctM γ := hh.2
        omega) _⟩

/-- In the second loop: marks, too. -/
structure PlE (b0 b1 : Nat) (Ds : List Nat) (w Y : World) : Prop where
  base : PlB b0 b1 32 w Y
  df : ∀ d ∈ Ds, Y.heap[d]? = some (.deferred (some []))
  nd : Ds.Nodup
  up : ∀ d ∈ Ds, b1 < d
theorem PlE.on {b0 b1 Z : Nat} {Ds : List Nat} {w Y Y' : World} {T : Nat → Prop} (h : PlE b0 b1 Ds w Y) (hk : Kept T Y Y') (hT : ∀ k, T k → Z ≤ k) (h01 : b0 < b1) (hb : b0 ≤ w.heap.size) (z1 : b1 < Z) (z2 : ∀ d ∈ Ds, d < Z) : PlE b0 b1 Ds w Y' :=
  ⟨h.base.kept hk (fun k x => by have := hT k x; omega) h01 hb, fun d hd => (hk.block d (Array.getElem?_eq_some_iff.1 (h.df d hd)).1 (fun x => by have := hT _ x; have := z2 d hd; omega)).trans (h.df d hd), h.nd, h.up⟩

attribute [local go_sem] Oper.semAt_some
set_option maxRecDepth 100000 in
set_option maxHeartbeats 32000000 in
theorem places_core (w : World) (hM : MaxVar w) : Calls Tryz.prog 10 #[] w fun e w' => e = .returned (.bool true) ∧ Below w.heap.size w w' := by
  refine (callsIn_wide (n := 0)).1 ?_
  refine callsIn_of_wp_marks Tryz.func10 rfl trivial ?_
  simp only [Tryz.ntmps10, List.size_toArray, List.length_cons, List.length_nil, Nat.reduceAdd, Nat.reduceSub, Array.replicate_succ, Array.replicate_zero, List.push_toArray, List.append_toArray, List.nil_append, List.cons_append]
  have LA := hid (fun w h => ctAwake_any w h)
  have hM0 := hid (fun o => hM.alloc o)
  obtain ⟨b0, hb0⟩ : ∃ b, b = w.heap.size := ⟨_, rfl⟩
  clear hM
  gi_wp2_with (first
    | (refine ⟨trivial, rfl, ?_⟩; gi_at_call 29; refine (callsIn_wide.2 (LA.out _ (hM0.out _))).mono ?_; rintro e w1 ⟨rfl, hB⟩
       have r0 := hid ((RowAt.new w #[.bool false] 4).below hB (by simp))
       have bel := hid (below_cat hB (below_al (Below.refl w.heap.size w) _))
       have s1 : w.heap.size + 1 ≤ w1.heap.size := by have := hB.size; simpa using this
       clear hB hM0)
    | (refine ⟨trivial, rfl, ?_⟩; gi_at_call 31; refine (callsIn_wide.2 (fields_make _)).mono ?_; rintro e w2 ⟨rfl, rfl⟩))
  generalize hW0 : World.alloc w1 _ = W0
  obtain ⟨b1, hb1⟩ : ∃ b, b = w1.heap.size := ⟨_, rfl⟩
  have hN0 : PlB b0 b1 0 w W0 := by
    refine ⟨?_, ?_, ?_⟩
    · rw [← hW0, hb0]; exact below_al bel.out _
    · rw [← hW0, hb0]; exact r0.out.alloc _
    · rw [← hW0, hb1]; exact RowAt.new w1 _ _
  have hsz : b1 + 1 ≤ W0.heap.size := by rw [← hW0, hb1]; simp
  have h01 : b0 < b1 := by omega
  have hbw : b0 ≤ w.heap.size := Nat.le_of_eq hb0
  rw [← hb0, ← hb1]
  clear hW0 r0 bel s1 hb1
  replace hb0 := hid hb0
  have hTlo : ∀ γ k, (False ∨ twoOf W0.heap.size k ∨ (W0.heap.size + 2 ≤ k ∧ k < ctM γ)) → b1 < k := fun γ k h => by rcases h with h | (h | h) | h; exact h.elim; all_goals omega
  refine wp_dyn_box (gf := 76) (lb := #[]) rfl (enters_of Tryz.func76 (by kernel_rfl) rfl) (fields_on W0)
    (fun _ h => h.elim) (fun _ h => h.elim) (fun _ => rfl) (fun γ X Y hv hk => hv.kept hk (fun k h1 h2 => h1 (.inr h2)))
    (fun x g => [(2, .pointer (some ⟨g, 0, none⟩)), (3, .pointer (some ⟨g + 1, 0, none⟩))])
    (fun x g X => RowAt X g 3 #[.int .i64 (x.1 : Nat)] ∧ RowAt X (g + 1) 58 ((ctR x.1).cells x.2) ∧ W0.heap.size + 2 ≤ g)
    (fun x g X Y h hk => ⟨hk.row h.1 (fun h2 => by have := h.2.2; rcases h2 with h2 | h2 <;> omega), hk.row h.2.1 (fun h2 => by have := h.2.2; rcases h2 with h2 | h2 <;> omega), h.2.2⟩)
    (fun γ pre X => PlB b0 b1 pre.length w X) (fun c γ pre X => False) ?hI ?hIx ?h0 ?assign ?body ?done ?stop
  case hI =>
    rintro γ pre X Y h hv hk
    exact h.kept hk (hTlo γ) h01 hbw
  case hIx => rintro c γ pre X Y h _ _; exact h
  case h0 =>
    intro γ X hk hs hm hv
    exact hN0.kept hk (fun _ h => h.elim) h01 hbw
  case stop => rintro c γ pre x post X hs hx h; exact h.elim
  case assign =>
    intro l' γ pre x X K hm1 hm2 hi hK
    obtain ⟨C, hC⟩ : ∃ C, C = (ctR x.1).cells x.2 := ⟨_, rfl⟩
    have hC1 : C.size = 6 := by rw [hC]; rfl
    have hC2 : C.all (·.oneCell') = true := by rw [hC]; exact ctCells_one _ _
    simp only [encF]
    rw [fold2]
    rw [← hC] at hK
    replace hi := hid hi
    replace hK := hid hK
    simp only [← hC]
    replace hC1 := hid hC1
    replace hC2 := hid hC2
    have hC3 := hid hC
    clear hC
    simp only [List.zip_toArray, List.foldl_toArray', List.foldl_toArray, List.zip_cons_cons, List.zip_nil_left, List.foldl_cons, List.foldl_nil, List.setIfInBounds_toArray, List.set_cons_zero, List.set_cons_succ]
    gi_wp2_with (with_reducible refine at_opIn none (.store 58 (.tmp 3) (.tmp 14)) ?_
                 refine wpListIn_store_row (o := ⟨none, .store _ (.tmp 3) (.tmp 14), _, _, _, _⟩) rfl 58 (.tmp 3) (.tmp 14) rfl (X.heap.size + 1) C rfl (by rfl) 58 _ (RowAt.newS X _ _ _ _) (by rw [hC1.out]; exact infoField) (by rw [hC1.out]; rfl) hC2.out ?_
                 generalize hYd : World.setRow _ _ _ = Y
                 have hkY : Kept (fun _ => False) X Y := by rw [← hYd]; exact Kept.of_below (below_setRow (below_al (below_al (Below.refl _ _) _) _) (by omega) _)
                 have r1Y : RowAt Y X.heap.size 3 #[.int .i64 (x.1 : Nat)] := by rw [← hYd]; exact ((RowAt.new X _ _).alloc _).setRowOther _ _ (by omega)
                 have rY : RowAt Y (X.heap.size + 1) 58 C := by rw [← hYd]; exact (RowAt.newS X _ _ _ _).setRow _
                 have hfin := hid (hK.out X.heap.size Y hkY (hi.out.kept hkY (fun _ h => h.elim) h01 hbw) ⟨r1Y, rY, by omega⟩ (Nat.le_refl _))
                 clear hYd rY r1Y hkY)
    have hh := hfin.out
    simp only [encF, ← hC3.out] at hh
    simpa [putAll] using hh
  case body =>
    rintro γ pre x post g X hx hm1 hm2 hv hr hi ⟨rg1, rg, hg⟩
    obtain ⟨hp32, hxe, hpre⟩ := ctXs_pre hx
    obtain ⟨n, p⟩ := x
    obtain ⟨hn, rfl⟩ : n = pre.length ∧ p = ctAtP γ n := by
      have := hxe
      simp only [Prod.mk.injEq] at this
      exact ⟨this.1, by rw [this.1]; exact this.2⟩
    have hlen : (pre ++ [(n, ctAtP γ n)]).length = n + 1 := by simp [hn]
    rw [← hn] at hi hp32
    replace hlen := hid hlen
    clear hxe hpre hx hn
    obtain ⟨C, hC⟩ : ∃ C, C = (ctR n).cells (ctAtP γ n) := ⟨_, rfl⟩
    simp only [encF] at rg1 rg ⊢
    rw [fold2]
    rw [← hC] at rg ⊢
    simp only [putAll, List.zip_toArray, List.foldl_toArray', List.foldl_toArray, List.zip_cons_cons, List.zip_nil_left, List.foldl_cons, List.foldl_nil, List.setIfInBounds_toArray, List.set_cons_zero, List.set_cons_succ]
    have c1 : X.cell? ⟨b1, 0, none⟩ = some (.int .i64 (n : Nat)) := hi.r1.cell rfl
    have f1 := hi.r1.free 0
    replace hi := hid hi
    replace rg := hid rg
    replace rg1 := hid rg1
    replace hr := hid hr
    replace hv := hid hv
    have hC3 := hid hC
    clear hC
    gi_wp2
    have hq0 : g + 1 < X.heap.size := rg.out.lt
    have hP0 : PlR b0 b1 n g X.heap.size W0.heap.size γ (hadB n 1) w X ((X.setCell ⟨b1, 0, none⟩ (.int .i64 ((n : Int) + 1))).alloc (.cells #[.bool false] 4)) := by
      refine ⟨⟨below_kept (hi.out.bel.setCell (p := ⟨b1, 0, none⟩) (by show b0 ≤ b1; omega) _) ((Kept.refl (fun _ => False) _).alloc _) hbw (fun _ h => h.elim), (hi.out.r0.other _ _ (by show b0 ≠ b1; omega)).alloc _, ((hi.out.r1.set 0 (.int .i64 ((n : Int) + 1))).eqA (by simp)).alloc _⟩, (rg1.out.other _ _ (by show g ≠ b1; omega)).alloc _, ?_, ?_, ?_, ?_⟩
      · rw [← hC3.out]; exact (rg.out.other _ _ (by show g + 1 ≠ b1; omega)).alloc _
      · have := RowAt.new (X.setCell ⟨b1, 0, none⟩ (.int .i64 ((n : Int) + 1))) #[.bool false] 4
        rw [World.size_setCell] at this
        exact this
      · obtain ⟨r, hr'⟩ := hr.out
        have h1 := Below.heap_setCell X ⟨b1, 0, none⟩ (.int .i64 ((n : Int) + 1)) (W0.heap.size + 1) (by show W0.heap.size + 1 ≠ b1; omega)
        exact ⟨r, (Below.heap_alloc _ _ _ (by rw [World.size_setCell]; exact (Array.getElem?_eq_some_iff.1 hr').1)).trans (h1.trans hr')⟩
      · refine ((Kept.refl _ _).setCell ⟨b1, 0, none⟩ (.inl fun h => ?_) _).alloc _
        rcases h with (h | h) | h | h
        · have : b1 = W0.heap.size := h
          omega
        · have : b1 = W0.heap.size + 1 := h
          omega
        · exact h
        · have : W0.heap.size + 2 ≤ b1 := h.1
          omega
    have hV0 : CtV (W0.heap.size + 2) γ ((X.setCell ⟨b1, 0, none⟩ (.int .i64 ((n : Int) + 1))).alloc (.cells #[.bool false] 4)) :=
      hv.out.kept (((Kept.refl (fun k => k = b1) X).setCell ⟨b1, 0, none⟩ (.inl rfl) _).alloc _) (fun k h1 h2 => by omega)
    have hS0 : X.heap.size + 1 ≤ ((X.setCell ⟨b1, 0, none⟩ (.int .i64 ((n : Int) + 1))).alloc (.cells #[.bool false] 4)).heap.size := by
      rw [World.size_alloc, World.size_setCell]
      exact Nat.le_refl _
    generalize World.alloc (World.setCell X _ _) _ = Y0 at hP0 hV0 hS0 ⊢
    obtain ⟨q, hq⟩ : ∃ q, q = X.heap.size := ⟨_, rfl⟩
    rw [← hq] at hP0 hS0 hq0 hm2 ⊢
    have z1 : b1 < q + 1 := by omega
    have z2 : g + 1 < q + 1 := by omega
    have z3 : q < q + 1 := by omega
    have z4 : W0.heap.size + 1 < q + 1 := by omega
    have z5 : ctM γ ≤ q + 1 := by omega
    replace hq := hid hq
    replace hP0 := hid hP0
    replace hV0 := hid hV0
    clear hi rg rg1 hr hv c1 f1
    gi_loopw [5] (fun p wr => ∃ m : Nat, p = .int .i64 (m : Nat) ∧ 1 ≤ m ∧ m ≤ 10 ∧ Hid (PlR b0 b1 n g q W0.heap.size γ (hadB n m) w X wr) ∧ Hid (CtV (W0.heap.size + 2) γ wr) ∧ q + 1 ≤ wr.heap.size) (fun p _ => 11 - (intOf p).toNat)
    case atStart => exact ⟨1, rfl, Nat.le_refl _, by omega, hP0, hV0, hS0⟩
    case round =>
      clear hP0 hV0 hS0
      obtain ⟨m, rfl, hm1', hm10, hP, hV, hS⟩ := hrel
      by_cases hlt : m ≤ 9
      · have g1 : decide ((m : Int) ≤ 9) = true := decide_eq_true (by omega)
        have g1' : (m : Int) ≤ 9 := by omega
        gi_wp2_with (refine ⟨trivial, rfl, ?_⟩; gi_at_call 40; refine (CallsIn.inRound _ (callsIn_wide.2 (of_make _ _))).mono ?_; rintro e w2 ⟨rfl, rfl⟩)
        obtain ⟨bm, hbm⟩ : ∃ b, b = wr.heap.size := ⟨_, rfl⟩
        have hrm : RowAt (wr.alloc (.cells #[.int .i64 (m : Nat)] 3)) bm 3 #[.int .i64 (m : Nat)] := by rw [hbm]; exact RowAt.new _ _ _
        have hP2 := hP.out.on ((Kept.refl (fun _ => False) wr).alloc (.cells #[.int .i64 (m : Nat)] 3)) (fun _ h => h.elim) h01 hbw z1 z2 z3 z4 z5
        have hV2 := hV.out.kept ((Kept.refl (fun _ => False) wr).alloc (.cells #[.int .i64 (m : Nat)] 3)) (fun _ h => h.elim)
        have hS2 : bm + 1 = (wr.alloc (.cells #[.int .i64 (m : Nat)] 3)).heap.size := by rw [World.size_alloc, hbm]
        rw [← hbm]
        generalize World.alloc wr _ = W2 at hrm hP2 hV2 hS2 ⊢
        have hqb : q < bm := by omega
        replace hbm := hid hbm
        have hT2 : ∀ γ1 k, (False ∨ oneOf W2.heap.size k ∨ (W2.heap.size + 1 ≤ k ∧ k < ctM γ1)) → q + 1 ≤ k := fun γ1 k h => by
          rcases h with h | h | h
          · exact h.elim
          · have : k = W2.heap.size := h
            omega
          · omega
        obtain ⟨r₀, hr₀⟩ := hP2.lp
        refine wp_dynN_box hr₀ (gf := 80) (lb := #[.pointer (some ⟨bm, 0, none⟩)]) rfl (enters_of Tryz.func80 (by kernel_rfl) rfl) (of_on m hm1' hlt bm W2 hrm)
          (fun _ h => h.elim) (fun k h => by have := hrm.lt; omega) (fun _ => rfl) (fun γ1 X Y hv hk => hv.kept hk (fun k h1 h2 => h1 (.inr h2)))
          (fun x g1 => [(6, .pointer (some ⟨g1, 0, none⟩)), (7, .bool (ctNeed x.1 m))]) (fun x g1 Y => RowAt Y g1 58 ((ctR x.1).cells x.2) ∧ W2.heap.size + 1 ≤ g1)
          (fun x g1 Y Y' h hk => ⟨hk.row h.1 (fun h2 => by have h3 : g1 = W2.heap.size := h2; have := h.2; omega), h.2⟩)
          (fun γ1 pr Y => PlR b0 b1 n g q W0.heap.size γ (hadB n m || pr.any (fun x => x.1 == n)) w X Y ∧ CtV (W0.heap.size + 2) γ Y)
          (fun c γ1 pr Y => False) ?jI ?jIx ?j0 ?jassign ?jbody ?jdone ?jstop
        case jI =>
          rintro γ1 pr Y Y' ⟨h1, h2⟩ _ hk
          exact ⟨h1.on hk (hT2 γ1) h01 hbw z1 z2 z3 z4 z5, h2.kept hk (fun k h3 h4 => by have := hT2 γ1 k h3; have : k < ctM γ := h4.2; omega)⟩
        case jIx => rintro c γ1 pr Y Y' h _ _; exact h
        case jstop => rintro c γ1 pr x post Y hs hx h; exact h.elim
        case j0 =>
          intro γ1 Y hk hs hm hv
          refine ⟨?_, hV2.kept hk (fun _ h => h.elim)⟩
          have := hP2.on hk (fun _ h => h.elim) h01 hbw z1 z2 z3 z4 z5
          simpa using this
        case jassign =>
            intro l2 γ1 pr x U K hq1 hq2 hi hK
            obtain ⟨C, hC⟩ : ∃ C, C = (ctR x.1).cells x.2 := ⟨_, rfl⟩
            have hC1 : C.size = 6 := by rw [hC]; rfl
            have hC2 : C.all (·.oneCell') = true := by rw [hC]; exact ctCells_one _ _
            simp only [encO]
            rw [fold2]
            rw [← hC] at hK
            replace hi := hid hi
            replace hK := hid hK
            simp only [← hC]
            replace hC1 := hid hC1
            replace hC2 := hid hC2
            have hC3 := hid hC
            clear hC
            simp only [List.zip_toArray, List.foldl_toArray', List.foldl_toArray, List.zip_cons_cons, List.zip_nil_left, List.foldl_cons, List.foldl_nil, List.setIfInBounds_toArray, List.set_cons_zero, List.set_cons_succ]
            gi_wp2_with (with_reducible refine at_opIn none (.store 58 (.tmp 6) (.tmp 23)) ?_
                         refine wpListIn_store_row (o := ⟨none, .store _ (.tmp 6) (.tmp 23), _, _, _, _⟩) rfl 58 (.tmp 6) (.tmp 23) rfl U.heap.size C rfl (by rfl) 58 _ (RowAt.new U _ _) (by rw [hC1.out]; exact infoField) (by rw [hC1.out]; rfl) hC2.out ?_
                         generalize hYd : World.setRow _ _ _ = U1
                         have hkY : Kept (fun _ => False) U U1 := by rw [← hYd]; exact Kept.of_below (below_setRow (below_al (Below.refl _ _) _) (Nat.le_refl _) _)
                         have rY : RowAt U1 U.heap.size 58 C := by rw [← hYd]; exact (RowAt.new U _ _).setRow _
                         have hfin := hid (hK.out U.heap.size U1 hkY (⟨hi.out.1.on hkY (fun _ h => h.elim) h01 hbw z1 z2 z3 z4 z5, hi.out.2.kept hkY (fun _ h => h.elim)⟩) ⟨rY, by omega⟩ (Nat.le_refl _))
                         clear hYd rY hkY)
            have hh := hfin.out
            simp only [encO, ← hC3.out] at hh
            simpa [putAll] using hh
        case jdone =>
          rintro γ1 Y hs ⟨h1, h2⟩
          rw [ofXs_any m γ1 n hp32, ← hadB_next n m hm1'] at h1
          replace h1 := hid h1
          replace h2 := hid h2
          gi_wp2
          go_roundw
          case rel => exact ⟨m + 1, by go_num, by omega, by omega, h1, h2, by omega⟩
          case measure => simp [intOf]; omega
        case jbody =>
          rintro γ1 pr x post g1 Y hx hq1 hq2 hv1 hr1 ⟨hP1, hV1⟩ ⟨rg1, hg1⟩
          obtain ⟨hx32, hxe⟩ := ofXs_pre hx
          obtain ⟨i, pi⟩ := x
          dsimp only at hx32 rg1
          have hany : (pr ++ [(i, pi)]).any (fun x => x.1 == n) = (pr.any (fun x => x.1 == n) || (i == n)) := by simp
          obtain ⟨T, hT⟩ : ∃ T, T = (ctR i).name := ⟨_, rfl⟩
          obtain ⟨N, hN⟩ : ∃ N, N = (ctR n).name := ⟨_, rfl⟩
          have c6 : Y.cell? ⟨g1, 0, none⟩ = some (.string T) := by rw [hT]; exact rg1.cell rfl
          have c3 : Y.cell? ⟨g + 1, 0, none⟩ = some (.string N) := by rw [hN]; exact hP1.rf.cell rfl
          simp only [encO]
          rw [fold2]
          simp only [putAll, List.zip_toArray, List.foldl_toArray', List.foldl_toArray, List.zip_cons_cons, List.zip_nil_left, List.foldl_cons, List.foldl_nil, List.setIfInBounds_toArray, List.set_cons_zero, List.set_cons_succ]
          generalize (ctR i).cells pi = C1
          by_cases hin : i = n
          · have hTN : (T.toList == N.toList) = true := by rw [hT, hN, hin, toList_beqB]; exact decide_eq_true rfl
            obtain ⟨nd, hnd⟩ : ∃ nd, nd = ctNeed i m := ⟨_, rfl⟩
            rw [← hnd]
            have hyes := hP1.yes (by omega) (by omega) (by omega) (by omega) (by omega) (by omega)
            have hVy : CtV (W0.heap.size + 2) γ (Y.setCell ⟨q, 0, none⟩ (.bool true)) := hV1.kept ((Kept.refl (fun k => k = q) Y).setCell ⟨q, 0, none⟩ (.inl rfl) _) (fun k h3 h4 => by have : k < ctM γ := h4.2; omega)
            have c4 : Y.cell? ⟨q, 0, none⟩ = some (.bool (hadB n m || pr.any fun x => x.1 == n)) := hP1.rq.cell rfl
            have f4 := hP1.rq.free 0
            have c2 : (Y.setCell ⟨q, 0, none⟩ (.bool true)).cell? ⟨g, 0, none⟩ = some (.int .i64 (n : Nat)) := hyes.ri.cell rfl
            have hkq : Kept (fun k => ¬ (oneOf W2.heap.size k ∨ heldD (fun k => k = bm) (W2.heap.size + 1) (ctM γ1) k)) Y (Y.setCell ⟨q, 0, none⟩ (.bool true)) := (Kept.refl _ _).setCell ⟨q, 0, none⟩ (.inl (by
              rintro (h | h | h)
              · have : q = W2.heap.size := h
                omega
              · have : q = bm := h
                omega
              · have : W2.heap.size + 1 ≤ q := h.1
                omega)) _
            have hv2 : (hadB n m || (pr ++ [(i, pi)]).any fun x => x.1 == n) = true := by rw [hany, hin]; simp
            have hcase : (decide ((n : Int) < 2) = true ∧ nd = true) ∨ decide ((n : Int) < 2) = false := by
              by_cases h2 : n < 2
              · exact .inl ⟨decide_eq_true (by omega), by rw [hnd, hin]; exact need_first n h2 m hm1' hlt⟩
              · exact .inr (decide_eq_false (by omega))
            replace hyes := hid hyes
            replace hVy := hid hVy
            replace hkq := hid hkq
            replace hv2 := hid hv2
            replace hnd := hid hnd
            replace hany := hid hany
            replace hin := hid hin
            replace hT := hid hT
            replace hN := hid hN
            clear hP1 hV1 rg1 hv1 hx hxe hP2 hV2 hr₀ hr1
            rcases hcase with ⟨hc, rfl⟩ | hc
            all_goals
              gi_wp2
            all_goals
              refine ⟨hkq.out, ?_, hVy.out⟩
              rw [hv2.out]
              exact hyes.out
          · have hTN : (T.toList == N.toList) = false := by
              rw [hT, hN, toList_beqB]
              exact decide_eq_false (fun h => hin (names_unlike hx32 hp32 h))
            have hv2 : (hadB n m || (pr ++ [(i, pi)]).any fun x => x.1 == n) = (hadB n m || pr.any fun x => x.1 == n) := by rw [hany, beq_eq_false_iff_ne.2 hin, Bool.or_false]
            replace hP1 := hid hP1
            replace hV1 := hid hV1
            replace hv2 := hid hv2
            replace hany := hid hany
            replace hT := hid hT
            replace hN := hid hN
            clear rg1 hv1 hx hxe hP2 hV2 hr₀ hr1
            gi_wp2
            refine ⟨Kept.refl _ _, ?_, hV1.out⟩
            rw [hv2.out]
            exact hP1.out
      · obtain rfl : m = 10 := by omega
        have g1 : decide (((10 : Nat) : Int) ≤ 9) = false := by decide
        obtain ⟨I, hI⟩ : ∃ I, I = (ctR n).inn := ⟨_, rfl⟩
        have hIs : I.size = 9 := by rw [hI]; exact inn_size _ hp32
        have hI9 : ((I.size : Int) != 9) = false := by rw [hIs]; decide
        have hPo := hP.out
        rw [hadB_all n hp32] at hPo
        have c4 : wr.cell? ⟨q, 0, none⟩ = some (.bool true) := hPo.rq.cell rfl
        have c5 : wr.cell? ⟨g + 1, 5, none⟩ = some (.string I) := by rw [hI]; exact hPo.rf.cell rfl
        have hfin := hid (show PlB b0 b1 (n + 1) w wr from hPo.base)
        have hkk := hid hPo.kept
        replace hI := hid hI
        replace hPo := hid hPo
        clear hP
        gi_wp2
        exact ⟨hkk.out, by show PlB b0 b1 (pre ++ [(n, ctAtP γ n)]).length w wr; rw [hlen.out]; exact hfin.out⟩
  case done =>
    rintro γ X hs h hd
    rw [show (ctXs γ).length = 32 by simp [ctXs]] at h
    have hE0 : PlE b0 b1 [W0.heap.size] w X := ⟨h, fun d hd' => by rw [List.mem_singleton.1 hd']; exact hd, by simp, fun d hd' => by rw [List.mem_singleton.1 hd']; omega⟩
    have hD0 : ∀ d ∈ [W0.heap.size], d < X.heap.size := fun d hd' => by rw [List.mem_singleton.1 hd']; omega
    replace hE0 := hid hE0
    replace hD0 := hid hD0
    clear h hd
    gi_wp2
    refine wpIn_loop (fun a W => ∃ (m : Nat) (Ds : List Nat) (u2 u3 u4 u5 u6 u7 u9 u10 u11 u12 u13 u14 u15 u16 u17 u18 u19 u20 u21 u22 u23 u24 u25 u26 u27 u28 u29 u30 u31 u32 u33 u34 u35 u36 u37 u38 u39 u40 u41 u42 u43 u44 u45 u46 u47 u48 u49 u50 u51 u52 u53 u54 u55 u56 u57 u58 u59 u60 u61 u62 u63 u64 u65 u66 u67 u68 u69 u70 : Value), a = { tmps := #[.pointer (some ⟨b0, 0, none⟩), .pointer (some ⟨b1, 0, none⟩), u2, u3, u4, u5, u6, u7, .int .i64 (m : Nat), u9, u10, u11, u12, u13, u14, u15, u16, u17, u18, u19, u20, u21, u22, u23, u24, u25, u26, u27, u28, u29, u30, u31, u32, u33, u34, u35, u36, u37, u38, u39, u40, u41, u42, u43, u44, u45, u46, u47, u48, u49, u50, u51, u52, u53, u54, u55, u56, u57, u58, u59, u60, u61, u62, u63, u64, u65, u66, u67, u68, u69, u70], defers := Ds.map fun d => { target := .collected d, args := #[] } } ∧ 1 ≤ m ∧ m ≤ 10 ∧ Hid (PlE b0 b1 Ds w W) ∧ Hid (∀ d ∈ Ds, d < W.heap.size) ∧ b1 < W.heap.size)
      (fun a _ => 11 - (intOf (a.tmps.getD 8 undef)).toNat) ?lstart ?lround
    case lstart => exact ⟨1, [W0.heap.size], _, _, _, _, _, _, _, _, _, _, _, _, _, _, _, _, _, _, _, _, _, _, _, _, _, _, _, _, _, _, _, _, _, _, _, _, _, _, _, _, _, _, _, _, _, _, _, _, _, _, _, _, _, _, _, _, _, _, _, _, _, _, _, _, _, _, _, _, rfl, Nat.le_refl _, by omega, hE0, hD0, by omega⟩
    case lround =>
      clear hE0 hD0 hs
      rintro a W ⟨m, Ds, u2, u3, u4, u5, u6, u7, u9, u10, u11, u12, u13, u14, u15, u16, u17, u18, u19, u20, u21, u22, u23, u24, u25, u26, u27, u28, u29, u30, u31, u32, u33, u34, u35, u36, u37, u38, u39, u40, u41, u42, u43, u44, u45, u46, u47, u48, u49, u50, u51, u52, u53, u54, u55, u56, u57, u58, u59, u60, u61, u62, u63, u64, u65, u66, u67, u68, u69, u70, rfl, hm1, hm10, hE, hDs, hbW⟩
      by_cases hlt : m ≤ 9
      · have g1 : decide ((m : Int) ≤ 9) = true := decide_eq_true (by omega)
        have g1' : (m : Int) ≤ 9 := by omega
        gi_wp2_with (refine ⟨trivial, rfl, ?_⟩; gi_at_call 40; refine (callsIn_wide.2 (of_make _ _)).mono ?_; rintro e w2 ⟨rfl, rfl⟩)
        obtain ⟨bk, hbk⟩ : ∃ b, b = W.heap.size := ⟨_, rfl⟩
        have hK2 : Kept (fun _ => False) W ((W.alloc (.cells #[.int .i64 0] 3)).alloc (.cells #[.int .i64 (m : Nat)] 3)) := ((Kept.refl _ _).alloc _).alloc _
        have hrk : RowAt ((W.alloc (.cells #[.int .i64 0] 3)).alloc (.cells #[.int .i64 (m : Nat)] 3)) bk 3 #[.int .i64 ((0 : Nat) : Int)] := by rw [hbk]; exact (RowAt.new W _ _).alloc _
        have hrm : RowAt ((W.alloc (.cells #[.int .i64 0] 3)).alloc (.cells #[.int .i64 (m : Nat)] 3)) (bk + 1) 3 #[.int .i64 (m : Nat)] := by rw [hbk]; exact RowAt.newS W _ _ _ _
        have hDk : ∀ d ∈ Ds, d < bk := by rw [hbk]; exact hDs.out
        have hE2 := hE.out.on hK2 (fun _ h => h.elim) h01 hbw (show b1 < bk by omega) hDk
        have hS2 : bk + 2 = ((W.alloc (.cells #[.int .i64 0] 3)).alloc (.cells #[.int .i64 (m : Nat)] 3)).heap.size := by rw [World.size_alloc, World.size_alloc, hbk]
        rw [← hbk]
        generalize World.alloc (World.alloc W _) _ = W2 at hrk hrm hE2 hS2 ⊢
        have hbk1 : b1 < bk := by omega
        replace hbk := hid hbk
        clear hK2 hE hDs
        have hTk : ∀ γ1 k, (False ∨ twoOf W2.heap.size k ∨ (W2.heap.size + 2 ≤ k ∧ k < ctM γ1)) → bk + 2 ≤ k := fun γ1 k h => by
          rcases h with h | (h | h) | h
          · exact h.elim
          · omega
          · omega
          · omega
        obtain ⟨hc3, hc32⟩ := cnt_bounds m (by omega) hm1
        refine wp_dyn_put (gf := 80) (lb := #[.pointer (some ⟨bk + 1, 0, none⟩)]) rfl (enters_of Tryz.func80 (by kernel_rfl) rfl) (of_on m hm1 hlt (bk + 1) W2 hrm)
          (fun _ h => h.elim) (fun k h => by have := hrm.lt; omega) (fun _ => rfl) (fun γ1 X Y hv hk => hv.kept hk (fun k h1 h2 => h1 (.inr h2)))
          (fun x => []) (fun γ1 pr Y => PlE b0 b1 Ds w Y ∧ RowAt Y bk 3 #[.int .i64 (pr.length : Nat)]) (fun c γ1 pr Y => False) ?kI ?kIx ?k0 ?kassign ?kbody ?kdone ?kstop
        case kI =>
          rintro γ1 pr Y Y' ⟨h1, h2⟩ _ hk
          exact ⟨h1.on hk (hTk γ1) h01 hbw (by omega) (fun d hd => by have := hDk d hd; omega), hk.row h2 (fun h => by have := hTk γ1 _ h; omega)⟩
        case kIx => rintro c γ1 pr Y Y' h _ _; exact h
        case kstop => rintro c γ1 pr x post Y hs hx h; exact h.elim
        case k0 =>
          intro γ1 Y hk hs hm hv
          exact ⟨hE2.on hk (fun _ h => h.elim) h01 hbw (by omega) hDk, hk.row hrk (fun h => h)⟩
        case kassign =>
          intro l2 x Y K hK
          gi_wp2
          simpa [putAll] using hK
        case kbody =>
          rintro γ1 pr x post Y hx hq1 hq2 hv1 hr1 ⟨hP1, hk1⟩
          have hlen : (pr ++ [x]).length = pr.length + 1 := by simp
          have ck : Y.cell? ⟨bk, 0, none⟩ = some (.int .i64 (pr.length : Nat)) := hk1.cell rfl
          have fk := hk1.free 0
          have hpr : (pr.length : Int) ≤ 1000 := by
            have h1 := congrArg List.length hx
            rw [ofXs_len] at h1
            simp at h1
            omega
          have hfin1 : PlE b0 b1 Ds w (Y.setCell ⟨bk, 0, none⟩ (.int .i64 ((pr.length : Int) + 1))) := hP1.on ((Kept.refl (fun k => k = bk) Y).setCell ⟨bk, 0, none⟩ (.inl rfl) _) (Z := bk) (fun k h => Nat.le_of_eq h.symm) h01 hbw hbk1 hDk
          have hfin2 := (hk1.set 0 (.int .i64 ((pr.length : Int) + 1))).eqA (A' := #[.int .i64 ((pr.length + 1 : Nat) : Int)]) (by simp)
          have hkq : Kept (fun k => ¬ (twoOf W2.heap.size k ∨ heldD (fun k => k = bk + 1) (W2.heap.size + 2) (ctM γ1) k)) Y (Y.setCell ⟨bk, 0, none⟩ (.int .i64 ((pr.length : Int) + 1))) := (Kept.refl _ _).setCell ⟨bk, 0, none⟩ (.inl (by
            rintro ((h | h) | h | h)
            · have : bk = W2.heap.size := h
              omega
            · have : bk = W2.heap.size + 1 := h
              omega
            · have : bk = bk + 1 := h
              omega
            · have : W2.heap.size + 2 ≤ bk := h.1
              omega)) _
          replace hfin1 := hid hfin1
          replace hfin2 := hid hfin2
          replace hkq := hid hkq
          replace hlen := hid hlen
          clear hP1 hk1 hv1 hx hr1 hE2 hrk hrm
          simp only [encO]
          rw [fold2]
          simp only [putAll, List.zip_toArray, List.foldl_toArray', List.foldl_toArray, List.zip_cons_cons, List.zip_nil_left, List.foldl_cons, List.foldl_nil, List.setIfInBounds_toArray, List.set_cons_zero, List.set_cons_succ]
          generalize (ctR x.1).cells x.2 = C1
          generalize ctNeed x.1 m = nd1
          gi_wp2
          exact ⟨hkq.out, hfin1.out, by show RowAt _ bk _ #[.int .i64 (((pr ++ [x]).length : Nat) : Int)]; rw [hlen.out]; exact hfin2.out⟩
        case kdone =>
          rintro γ1 Y hs ⟨h1, h2⟩ hd
          rw [ofXs_len] at h2
          obtain ⟨k, hk⟩ : ∃ k, k = cntF m := ⟨_, rfl⟩
          rw [← hk] at h2 hc3 hc32
          have g3 : decide ((k : Int) < 3) = false := decide_eq_false (by omega)
          have g3' : ¬ (k : Int) < 3 := by omega
          have g4 : decide ((32 : Int) < (k : Int)) = false := decide_eq_false (by omega)
          have g4' : ¬ (32 : Int) < (k : Int) := by omega
          have ck : Y.cell? ⟨bk, 0, none⟩ = some (.int .i64 (k : Nat)) := h2.cell rfl
          have c1 : Y.cell? ⟨b1, 0, none⟩ = some (.int .i64 32) := h1.base.r1.cell rfl
          have LM := hid (fun w => messages_any w)
          have hMx := msgA_at m (by omega)
          have LG := hid (fun w => message_any (msgS m) w)
          rw [msgN_own m (by omega) hm1] at LG
          obtain ⟨M, hMe⟩ : ∃ M, M = msgA := ⟨_, rfl⟩
          obtain ⟨T, hTe⟩ : ∃ T, T = msgS m := ⟨_, rfl⟩
          rw [← hMe] at LM hMx
          rw [← hTe] at LG hMx
          have hx := fun w => run_index_str (P := Tryz.prog) 65 9 10 Tryz.underlying65 Tryz.underlying9 (by kernel_rfl) .i64 M m _ (by omega) hMx w
          have g5 : ((m : Int) != (m : Int)) = false := by simp
          have hEY : PlE b0 b1 (W2.heap.size :: Ds) w Y := ⟨h1.base, fun d hd' => by
            rcases List.mem_cons.1 hd' with rfl | hd'
            · exact hd
            · exact h1.df d hd', List.nodup_cons.2 ⟨fun hm => by have := hDk _ hm; omega, h1.nd⟩, fun d hd' => by
            rcases List.mem_cons.1 hd' with rfl | hd'
            · omega
            · exact h1.up d hd'⟩
          have hDY : ∀ d ∈ W2.heap.size :: Ds, d < Y.heap.size := fun d hd' => by
            rcases List.mem_cons.1 hd' with rfl | hd'
            · omega
            · have := hDk d hd'; omega
          have hYb : b1 < Y.heap.size := by omega
          replace hEY := hid hEY
          replace hDY := hid hDY
          replace hk := hid hk
          clear h1 h2 hd hMx hMe hTe hE2 hrk hrm
          gi_wp2_with (first
            | (refine ⟨trivial, rfl, ?_⟩; gi_at_call 35; refine (callsIn_wide.2 (LM.out _)).mono ?_; rintro e w3 ⟨rfl, hB3⟩
               replace hB3 := hid hB3)
            | (refine ⟨trivial, rfl, ?_⟩; gi_at_call 38; refine (callsIn_wide.2 (LG.out _)).mono ?_; rintro e w4 ⟨rfl, hB4⟩
               replace hB4 := hid hB4))
          have hB := below_cat hB4.out hB3.out
          have hE5 := hEY.out.on (Kept.of_below (S := fun _ => False) hB) (fun _ h => h.elim) h01 hbw hYb hDY.out
          have hs5 := hB.size
          refine ⟨⟨m + 1, W2.heap.size :: Ds, _, _, _, _, _, _, _, _, _, _, _, _, _, _, _, _, _, _, _, _, _, _, _, _, _, _, _, _, _, _, _, _, _, _, _, _, _, _, _, _, _, _, _, _, _, _, _, _, _, _, _, _, _, _, _, _, _, _, _, _, _, _, _, _, _, _, _, _, rfl, by omega, by omega, hid hE5, hid (fun d hd => Nat.lt_of_lt_of_le (hDY.out d hd) hs5), by omega⟩, ?_⟩
          simp [intOf]
          omega
      · obtain rfl : m = 10 := by omega
        have g1 : decide (((10 : Nat) : Int) ≤ 9) = false := by decide
        have c1 : W.cell? ⟨b1, 0, none⟩ = some (.int .i64 32) := hE.out.base.r1.cell rfl
        have c0 : W.cell? ⟨b0, 0, none⟩ = some (.bool false) := hE.out.base.r0.cell rfl
        have f0 := hE.out.base.r0.free 0
        have hr0 := hid ((hE.out.base.r0.set 0 (.bool true)).eqA (A' := #[.bool true]) (by simp))
        have hbl := hid (hE.out.base.bel.setCell (p := ⟨b0, 0, none⟩) (Nat.le_refl b0) (.bool true))
        have hdf := hid (show ∀ d ∈ Ds, (W.setCell ⟨b0, 0, none⟩ (.bool true)).heap[d]? = some (.deferred (some [])) from fun d hd => defer_cell (hE.out.df d hd) _ _ (by have := hE.out.up d hd; show d ≠ b0; omega))
        have hnd := hid hE.out.nd
        have hup := hid hE.out.up
        clear hE
        gi_wp2
        generalize W.setCell ⟨b0, 0, none⟩ (.bool true) = Z at hr0 hbl hdf ⊢
        refine leave_many Ds Z hdf.out hnd.out fun Z' hk => ⟨_, results_cell1 rfl _ _ b0 _ rfl ((hk.row hr0.out (fun h => by have := hup.out _ h; omega)).cell (j := 0) rfl) Tryz.underlying4, rfl, ?_⟩
        rw [← hb0.out]
        exact below_kept hbl.out hk hbw (fun d hd => by have := hup.out _ hd; omega)
theorem catalogPlaces_row (w : World) (hM : MaxVar w) : Calls Tryz.prog 10 #[] w fun e w' => e = .returned (.bool true) ∧ Below w.heap.size w w' := places_core w hM
end Go.Proofs.YtdjlpmelmhhooaaGreatDoor
