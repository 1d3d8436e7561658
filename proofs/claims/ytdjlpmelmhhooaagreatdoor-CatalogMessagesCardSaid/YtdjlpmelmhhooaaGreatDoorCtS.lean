/- Catalog: Bytes (printed by mkCtS.py). -/
import Derived.Test.YtdjlpmelmhhooaaGreatDoorCtX3
import Derived.Test.YtdjlpmelmhhooaaGreatDoorFmW
namespace Go.Proofs.YtdjlpmelmhhooaaGreatDoor
open Go Go.RowKit
set_option linter.unusedSimpArgs false
set_option linter.unusedVariables false

/-- How many bytes a field takes at most, with what stands around it. -/
def ctLen (i : Nat) : Int := (ctR i).name.size + longN (ctR i).k (ctR i).mn (ctR i).mx (ctR i).texts + 6
def ctSum (l : List CtX) : Int := (l.map fun x => ctLen x.1).sum
theorem ctSum_snoc (l : List CtX) (x : CtX) : ctSum (l ++ [x]) = ctSum l + ctLen x.1 := by simp [ctSum]
theorem ctFacts : ∀ i, i < 32 → chkN (ctR i).k (ctR i).mn (ctR i).mx (ctR i).texts.length = 0 ∧ (ctR i).texts.length ≤ 1000 ∧ (∀ t ∈ (ctR i).texts, t.size ≤ 1000) ∧ (ctR i).name.size ≤ 100 ∧ 0 ≤ longN (ctR i).k (ctR i).mn (ctR i).mx (ctR i).texts ∧ longN (ctR i).k (ctR i).mn (ctR i).mx (ctR i).texts ≤ 4000 := by decide
theorem ctLen_bounds {i : Nat} (h : i < 32) : 6 ≤ ctLen i ∧ ctLen i ≤ 4106 := by
  have := ctFacts i h
  unfold ctLen
  omega
/-- All bytes of message m, field by field. -/
def ctTot (m j : Nat) : Int := (((List.range j).filter fun i => (ctIn i m).toNat != 45).map ctLen).sum
theorem ofXs_sum (m : Nat) (γ : CtG) : ctSum (ofXs m γ) = ctTot m 32 := by
  rw [ctSum, ofXs, ctXs, List.filter_map, List.map_map]
  rfl
theorem ofXs_inS {m : Nat} {γ : CtG} {pre post : List CtX} {x : CtX} (h : ofXs m γ = pre ++ x :: post) : x.1 < 32 ∧ x = (x.1, ctAtP γ x.1) := by
  have hx : x ∈ ofXs m γ := by rw [h]; simp
  rw [ofXs, List.mem_filter, ctXs, List.mem_map] at hx
  obtain ⟨⟨i, hi, rfl⟩, _⟩ := hx
  exact ⟨List.mem_range.1 hi, rfl⟩
theorem ctSum_bound : ∀ (l : List CtX), (∀ x ∈ l, x.1 < 32) → 0 ≤ ctSum l ∧ ctSum l ≤ 4106 * l.length
  | [], _ => by simp [ctSum]
  | x :: l, h => by
    have h1 := ctSum_bound l (fun y hy => h y (by simp [hy]))
    have h2 := ctLen_bounds (h x (by simp))
    have h3 : ctSum (x :: l) = ctLen x.1 + ctSum l := by simp [ctSum]
    rw [h3, List.length_cons]
    constructor <;> push_cast <;> omega
theorem ofXs_preS {m : Nat} {γ : CtG} {pre post : List CtX} {x : CtX} (h : ofXs m γ = pre ++ x :: post) : 0 ≤ ctSum pre ∧ ctSum pre ≤ 140000 := by
  have hl : pre.length ≤ 32 := by
    have h1 : (ofXs m γ).length ≤ 32 := by
      rw [ofXs]
      exact Nat.le_trans (List.length_filter_le _ _) (by simp [ctXs])
    rw [h] at h1
    simp at h1
    omega
  have := ctSum_bound pre (fun y hy => by
    have hy' : y ∈ ofXs m γ := by rw [h]; simp [hy]
    rw [ofXs, List.mem_filter, ctXs, List.mem_map] at hy'
    obtain ⟨⟨i, hi, rfl⟩, _⟩ := hy'
    exact List.mem_range.1 hi)
  constructor
  · omega
  · have h2 : (4106 : Int) * pre.length ≤ 4106 * 32 := by omega
    omega

attribute [local go_sem] Oper.semAt_some
set_option maxRecDepth 100000 in
set_option maxHeartbeats 4000000 in
/-- Of no message there is nothing. -/
theorem of_none (m : Int) (hm : m < 1 ∨ 9 < m) (bm : Nat) (w : World) (hbm : RowAt w bm 3 #[.int .i64 m]) :
    IterOn Tryz.prog 80 #[.pointer (some ⟨bm, 0, none⟩)] (encO 1) (fun _ => False) (fun k => k = bm) [] w := by
  intro l J Jx W hb hJ hJx hY h0
  have rm := hbm.below hb hbm.lt
  refine callsIn_of_wp_marks Tryz.func80 rfl trivial ?_
  simp only [Tryz.ntmps80, List.size_toArray, List.length_cons, List.length_nil, Nat.reduceAdd, Nat.reduceSub, Array.replicate_succ, Array.replicate_zero, List.push_toArray, List.append_toArray, List.nil_append, List.cons_append]
  have cm : ∀ o, (W.alloc o).cell? ⟨bm, 0, none⟩ = some (.int .i64 m) := fun o => (rm.alloc o).cell rfl
  have hfin := hid (hJ _ _ _ h0 ((Kept.refl _ W).alloc (.cells #[.func (.yield l) #[] #[]] 108)))
  replace hJ := hid hJ
  replace hJx := hid hJx
  replace hY := hid hY
  rcases hm with h1 | h1
  case' inl => have g1 : decide (m < 1) = true := decide_eq_true h1
  case' inr =>
    have g0 : decide (m < 1) = false := decide_eq_false (by omega)
    have g1 : decide (9 < m) = true := decide_eq_true h1
  all_goals
    gi_wp2
    exact leave_none ⟨_, results_none rfl _ _ _, ⟨⟨_, rfl⟩, hfin.out⟩⟩

set_option maxRecDepth 100000 in
set_option maxHeartbeats 8000000 in
theorem bytes_none (m : Int) (hm : m < 1 ∨ 9 < m) (w : World) : Calls Tryz.prog 41 #[.int .i64 m] w fun e w' => e = .returned (.int .i64 0) ∧ Below w.heap.size w w' := by
  refine (callsIn_wide (n := 0)).1 ?_
  refine callsIn_of_wp_marks Tryz.func41 rfl trivial ?_
  simp only [Tryz.ntmps41, List.size_toArray, List.length_cons, List.length_nil, Nat.reduceAdd, Nat.reduceSub, Array.replicate_succ, Array.replicate_zero, List.push_toArray, List.append_toArray, List.nil_append, List.cons_append]
  gi_wp2_with (refine ⟨trivial, rfl, ?_⟩; gi_at_call 40; refine (callsIn_wide.2 (of_make _ _)).mono ?_; rintro e w2 ⟨rfl, rfl⟩)
  obtain ⟨b, hb⟩ : ∃ b, b = w.heap.size := ⟨_, rfl⟩
  have hrm : RowAt ((w.alloc (.cells #[.int .i64 0] 3)).alloc (.cells #[.int .i64 m] 3)) (b + 1) 3 #[.int .i64 m] := by rw [hb]; exact RowAt.newS w _ _ _ _
  have hr3 : RowAt ((w.alloc (.cells #[.int .i64 0] 3)).alloc (.cells #[.int .i64 m] 3)) b 3 #[.int .i64 0] := by rw [hb]; exact (RowAt.new w _ _).alloc _
  have hbl : Below b w ((w.alloc (.cells #[.int .i64 0] 3)).alloc (.cells #[.int .i64 m] 3)) := by rw [hb]; exact below_al (below_al (Below.refl _ _) _) _
  have hS : b + 2 = ((w.alloc (.cells #[.int .i64 0] 3)).alloc (.cells #[.int .i64 m] 3)).heap.size := by rw [World.size_alloc, World.size_alloc, hb]
  rw [← hb]
  generalize World.alloc (World.alloc w _) _ = W0 at hrm hr3 hbl hS ⊢
  have hbw : b ≤ w.heap.size := Nat.le_of_eq hb
  replace hb := hid hb
  refine wp_iter (gf := 80) (lb := #[.pointer (some ⟨b + 1, 0, none⟩)]) rfl (enters_of Tryz.func80 (by kernel_rfl) rfl) (of_none m hm (b + 1) W0 hrm)
    (fun _ h => h.elim) (fun k h => by have := hrm.lt; omega) (fun _ => rfl) (fun pre X => RowAt X b 3 #[.int .i64 0] ∧ Below b w X) (fun c pre X => False) ?hI ?hIx ⟨hr3, hbl⟩ (fun x a' X => True) (fun _ _ _ _ _ _ => trivial) ?assign ?body ?done ?stop
  case hI =>
    rintro pre X Y ⟨h1, h2⟩ hk
    exact ⟨hk.row h1 (fun h => by rcases h with h | h | h; exact h.elim; all_goals omega), below_kept h2 hk hbw (fun k h => by rcases h with h | h | h; exact h.elim; all_goals omega)⟩
  case hIx => rintro c pre X Y h _; exact h
  case stop => rintro c pre x post X _ _ h; exact h.elim
  case body => rintro pre x post a' X hx; simp at hx
  case assign =>
    intro l2 pre x X K hs hi hK
    obtain ⟨C, hC⟩ : ∃ C, C = (ctR x.1).cells x.2 := ⟨_, rfl⟩
    have hC1 : C.size = 6 := by rw [hC]; rfl
    have hC2 : C.all (·.oneCell') = true := by rw [hC]; exact ctCells_one _ _
    simp only [encO, ← hC]
    rw [fold2]
    replace hi := hid hi
    replace hK := hid hK
    replace hC1 := hid hC1
    replace hC2 := hid hC2
    clear hC
    simp only [List.zip_toArray, List.foldl_toArray', List.foldl_toArray, List.zip_cons_cons, List.zip_nil_left, List.foldl_cons, List.foldl_nil, List.setIfInBounds_toArray, List.set_cons_zero, List.set_cons_succ]
    gi_wp2_with (with_reducible refine at_opIn none (.store 58 (.tmp 4) (.tmp 7)) ?_
                 refine wpListIn_store_row (o := ⟨none, .store _ (.tmp 4) (.tmp 7), _, _, _, _⟩) rfl 58 (.tmp 4) (.tmp 7) rfl X.heap.size C rfl (by rfl) 58 _ (RowAt.new X _ _) (by rw [hC1.out]; exact infoField) (by rw [hC1.out]; rfl) hC2.out ?_
                 generalize hYd : World.setRow _ _ _ = Y
                 have hkY : Kept (fun _ => False) X Y := by rw [← hYd]; exact Kept.of_below (below_setRow (below_al (Below.refl _ _) _) (Nat.le_refl _) _)
                 have hfin := hid (fun a' => hK.out a' Y hkY ⟨hkY.row hi.out.1 (fun h => h), below_kept hi.out.2 hkY hbw (fun _ h => h.elim)⟩ trivial)
                 clear hYd hkY)
    exact hfin.out _
  case done =>
    rintro X hs ⟨h1, h2⟩ hd
    have c1 : X.cell? ⟨b, 0, none⟩ = some (.int .i64 0) := h1.cell rfl
    replace h1 := hid h1
    replace h2 := hid h2
    replace hd := hid hd
    gi_wp2
    refine leave_one hd.out ⟨_, results_tmp rfl _ _ _, rfl, ?_⟩
    rw [← hb.out]
    exact below_kept h2.out ((Kept.refl (fun k => k = W0.heap.size) X).putObj _ _ (.inl rfl)) hbw (fun k hk => by omega)
/-- In Bytes' loop. -/
structure BtI (b : Nat) (l : List CtX) (w X : World) : Prop where
  r : RowAt X b 3 #[.int .i64 (ctSum l)]
  bel : Below b w X
set_option maxRecDepth 100000 in
set_option maxHeartbeats 8000000 in
theorem bytes_some (m : Nat) (h1 : 1 ≤ m) (h9 : m ≤ 9) (w : World) : Calls Tryz.prog 41 #[.int .i64 (m : Nat)] w fun e w' => e = .returned (.int .i64 (ctTot m 32)) ∧ Below w.heap.size w w' := by
  refine (callsIn_wide (n := 0)).1 ?_
  refine callsIn_of_wp_marks Tryz.func41 rfl trivial ?_
  simp only [Tryz.ntmps41, List.size_toArray, List.length_cons, List.length_nil, Nat.reduceAdd, Nat.reduceSub, Array.replicate_succ, Array.replicate_zero, List.push_toArray, List.append_toArray, List.nil_append, List.cons_append]
  gi_wp2_with (refine ⟨trivial, rfl, ?_⟩; gi_at_call 40; refine (callsIn_wide.2 (of_make _ _)).mono ?_; rintro e w2 ⟨rfl, rfl⟩)
  obtain ⟨b, hb⟩ : ∃ b, b = w.heap.size := ⟨_, rfl⟩
  have hrm : RowAt ((w.alloc (.cells #[.int .i64 0] 3)).alloc (.cells #[.int .i64 (m : Nat)] 3)) (b + 1) 3 #[.int .i64 (m : Nat)] := by rw [hb]; exact RowAt.newS w _ _ _ _
  have hB0 : BtI b [] w ((w.alloc (.cells #[.int .i64 0] 3)).alloc (.cells #[.int .i64 (m : Nat)] 3)) := by
    rw [hb]
    exact ⟨(RowAt.new w _ _).alloc _, below_al (below_al (Below.refl _ _) _) _⟩
  have hS : b + 2 = ((w.alloc (.cells #[.int .i64 0] 3)).alloc (.cells #[.int .i64 (m : Nat)] 3)).heap.size := by rw [World.size_alloc, World.size_alloc, hb]
  rw [← hb]
  generalize World.alloc (World.alloc w _) _ = W0 at hrm hB0 hS ⊢
  have hbw : b ≤ w.heap.size := Nat.le_of_eq hb
  replace hb := hid hb
  refine wp_dyn_box (gf := 80) (lb := #[.pointer (some ⟨b + 1, 0, none⟩)]) rfl (enters_of Tryz.func80 (by kernel_rfl) rfl) (of_on m h1 h9 (b + 1) W0 hrm)
    (fun _ h => h.elim) (fun k h => by have := hrm.lt; omega) (fun _ => rfl) (fun γ X Y hv hk => hv.kept hk (fun k h1 h2 => h1 (.inr h2)))
    (fun x g => [(4, .pointer (some ⟨g, 0, none⟩))]) (fun x g X => RowAt X g 58 ((ctR x.1).cells x.2) ∧ W0.heap.size + 2 ≤ g)
    (fun x g X Y h hk => ⟨hk.row h.1 (fun h2 => by have := h.2; rcases h2 with h2 | h2 <;> omega), h.2⟩)
    (fun γ pre X => BtI b pre w X) (fun c γ pre X => False) ?hI ?hIx ?h0 ?assign ?body ?done ?stop
  case hI =>
    rintro γ pre X Y ⟨h1, h2⟩ hv hk
    exact ⟨hk.row h1 (fun h => by rcases h with h | (h | h) | h; exact h.elim; all_goals omega), below_kept h2 hk hbw (fun k h => by rcases h with h | (h | h) | h; exact h.elim; all_goals omega)⟩
  case hIx => rintro c γ pre X Y h _ _; exact h
  case stop => rintro c γ pre x post X hs hx h; exact h.elim
  case h0 =>
    intro γ X hk hs hm hv
    exact ⟨hk.row hB0.r (fun h => h), below_kept hB0.bel hk hbw (fun _ h => h.elim)⟩
  case assign =>
    intro l' γ pre x X K hm1 hm2 hi hK
    obtain ⟨C, hC⟩ : ∃ C, C = (ctR x.1).cells x.2 := ⟨_, rfl⟩
    have hC1 : C.size = 6 := by rw [hC]; rfl
    have hC2 : C.all (·.oneCell') = true := by rw [hC]; exact ctCells_one _ _
    simp only [encO]
    rw [fold2]
    rw [← hC] at hK
    replace hi := hid hi
    replace hK := hid hK
    simp only [← hC]
    replace hC1 := hid hC1
    replace hC2 := hid hC2
    have hC3 := hid hC
    clear hC
    simp only [List.zip_toArray, List.foldl_toArray', List.foldl_toArray, List.zip_cons_cons, List.zip_nil_left, List.foldl_cons, List.foldl_nil, List.setIfInBounds_toArray, List.set_cons_zero, List.set_cons_succ]
    gi_wp2_with (with_reducible refine at_opIn none (.store 58 (.tmp 4) (.tmp 7)) ?_
                 refine wpListIn_store_row (o := ⟨none, .store _ (.tmp 4) (.tmp 7), _, _, _, _⟩) rfl 58 (.tmp 4) (.tmp 7) rfl X.heap.size C rfl (by rfl) 58 _ (RowAt.new X _ _) (by rw [hC1.out]; exact infoField) (by rw [hC1.out]; rfl) hC2.out ?_
                 generalize hYd : World.setRow _ _ _ = Y
                 have hkY : Kept (fun _ => False) X Y := by rw [← hYd]; exact Kept.of_below (below_setRow (below_al (Below.refl _ _) _) (Nat.le_refl _) _)
                 have rY : RowAt Y X.heap.size 58 C := by rw [← hYd]; exact (RowAt.new X _ _).setRow _
                 have hfin := hid (hK.out X.heap.size Y hkY (⟨hkY.row hi.out.r (fun h => h), below_kept hi.out.bel hkY hbw (fun _ h => h.elim)⟩) ⟨rY, by omega⟩ (Nat.le_refl _))
                 clear hYd rY hkY)
    have hh := hfin.out
    simp only [encO, ← hC3.out] at hh
    simpa [putAll] using hh
  case done =>
    rintro γ X hs ⟨h1, h2⟩ hd
    rw [ofXs_sum] at h1
    obtain ⟨S, hSe⟩ : ∃ S, S = ctTot m 32 := ⟨_, rfl⟩
    rw [← hSe] at h1
    replace hSe := hid hSe
    have c1 : X.cell? ⟨b, 0, none⟩ = some (.int .i64 S) := h1.cell rfl
    replace h1 := hid h1
    replace h2 := hid h2
    replace hd := hid hd
    gi_wp2
    refine leave_one hd.out ⟨_, results_tmp rfl _ _ _, by rw [← hSe.out]; rfl, ?_⟩
    rw [← hb.out]
    exact below_kept h2.out ((Kept.refl (fun k => k = W0.heap.size) X).putObj _ _ (.inl rfl)) hbw (fun k hk => by omega)
  case body =>
    rintro γ pre x post g X hx hm1 hm2 hv hr ⟨hi1, hi2⟩ ⟨rg, hg⟩
    obtain ⟨hx32, hxe⟩ := ofXs_inS hx
    obtain ⟨i, p⟩ := x
    obtain rfl : p = ctAtP γ i := by
      have := hxe
      simp only [Prod.mk.injEq] at this
      exact this.2
    dsimp only at hx32 rg
    obtain ⟨f1, f2, f3, f4, f5, f6⟩ := ctFacts i hx32
    obtain ⟨hs0, hs1⟩ := ofXs_preS hx
    have hsn := ctSum_snoc pre (i, ctAtP γ i)
    have hst := (hv i hx32).1
    obtain ⟨C, hC⟩ : ∃ C, C = (ctR i).cells (ctAtP γ i) := ⟨_, rfl⟩
    obtain ⟨N, hN⟩ : ∃ N, N = (ctR i).name := ⟨_, rfl⟩
    obtain ⟨L, hL⟩ : ∃ L, L = longN (ctR i).k (ctR i).mn (ctR i).mx (ctR i).texts := ⟨_, rfl⟩
    obtain ⟨R, hR⟩ : ∃ R, R = ruleA (ctR i).k (ctR i).mn (ctR i).mx (.slice (ctAtP γ i).1 (ctR i).texts.length (ctAtP γ i).2) := ⟨_, rfl⟩
    have hR4 : R.size = 4 := by rw [hR]; rfl
    have hCR : ∀ j v, R.toList[j]? = some v → C[1 + j]? = some v := by
      intro j v hj
      rw [hC]
      rw [hR] at hj
      have hjl : j < 4 := by have := (List.getElem?_eq_some_iff.1 hj).1; simpa [ruleA] using this
      rcases j with _ | _ | _ | _ | j
      · exact hj
      · exact hj
      · exact hj
      · exact hj
      · omega
    have hC0 : C[0]? = some (.string N) := by rw [hC, hN]; rfl
    have LL : ∀ q : Sub X, Calls Tryz.prog 28 #[.agg R] q.x fun e w' => e = .returned (.int .i64 L) ∧ Below q.x.heap.size q.x w' := fun q => by
      rw [hR, hL]
      exact longest_any _ _ _ _ _ _ _ f1 f2 f3 q.x (hst.below q.h)
    have hlen : ctLen i = (N.size : Int) + L + 6 := by rw [hN, hL]; rfl
    rw [hlen] at hsn
    rw [← hN] at f4
    rw [← hL] at f5 f6
    obtain ⟨S, hS'⟩ : ∃ S, S = ctSum pre := ⟨_, rfl⟩
    rw [← hS'] at hs0 hs1 hsn hi1
    have hsn' : ctSum (pre ++ [(i, ctAtP γ i)]) = S + ((N.size : Int) + L + 6) := hsn
    replace hsn' := hid hsn'
    have q0 : ∀ q : Sub X, q.x.cell? ⟨g, 0, none⟩ = some (.string N) := fun q => q.cell rg (by rw [← hC]; exact hC0)
    have qr : ∀ q : Sub X, (Instr.loadAt 37 (.pointer (some ⟨g, 1, none⟩))).run Tryz.prog q.x = .ok (.agg R) q.x := fun q => by
      have := run_loadAt_mid (P := Tryz.prog) q.x g 1 37 R.toList _ (fun j v hj => q.cell rg (by rw [← hC]; exact hCR j v hj)) Tryz.underlying37 rfl (by rw [Array.length_toList, hR4]; exact infoRule)
      simpa using this
    have q3 : ∀ q : Sub X, q.x.cell? ⟨b, 0, none⟩ = some (.int .i64 S) := fun q => q.cell hi1 rfl
    simp only [encO]
    rw [fold2]
    rw [← hC]
    simp only [putAll, List.zip_toArray, List.foldl_toArray', List.foldl_toArray, List.zip_cons_cons, List.zip_nil_left, List.foldl_cons, List.foldl_nil, List.setIfInBounds_toArray, List.set_cons_zero, List.set_cons_succ]
    generalize ctNeed i m = nd
    replace LL := hid LL
    replace hi1 := hid hi1
    replace hi2 := hid hi2
    have qr' := hid qr
    clear hst hv hx hxe f1 f2 f3 hr rg hC hN hL hR hCR hC0 hlen hsn hS' hR4 qr
    gi_wp2
    refine wpIn_region_last_round (by kernel_rfl) (by kernel_rfl) (by kernel_rfl) (by kernel_rfl) 10 _ rfl rfl ?_
    simp only [muted, mute]
    repeat (first
      | (go_big_quiet_want; refine quiet_load 37 (.tmp 13) rfl rfl qr'.out ?_; simp only [Act.put, List.setIfInBounds_toArray, List.set_cons_zero, List.set_cons_succ]; go_big_quiet_on)
      | (go_big_quiet_step (first | (go_at_call 28; with_reducible refine Sub.call _ (LL.out _)))))
    refine wpQuiet_nil ?_
    intro q
    have k1 := hi1.out.below q.h hi1.out.lt
    have k2 := below_kept hi2.out (Kept.of_below (S := fun _ => False) q.h) hbw (fun _ h => h.elim)
    have hkp := Kept.of_below (S := fun k => ¬ (twoOf W0.heap.size k ∨ heldD (fun k => k = b + 1) (W0.heap.size + 2) (ctM γ) k)) q.h
    obtain ⟨Y, hY⟩ : ∃ Y, Y = q.x := ⟨_, rfl⟩
    rw [← hY] at k1 k2 hkp ⊢
    have hfr := k1.free 0
    have hcf : Y.cell? ⟨b, 0, none⟩ = some (.int .i64 S) := k1.cell rfl
    have hw1 : IntKind.i64.wrap ((N.size : Int) + L) = (N.size : Int) + L := by rw [IntKind.wrap_i64]; omega
    have hw2 : IntKind.i64.wrap ((N.size : Int) + L + 6) = (N.size : Int) + L + 6 := by rw [IntKind.wrap_i64]; omega
    have hw3 : IntKind.i64.wrap (S + ((N.size : Int) + L + 6)) = S + ((N.size : Int) + L + 6) := by rw [IntKind.wrap_i64]; omega
    unfold Oper.wpIn
    simp [go_sem, hfr, hcf]
    refine ⟨hkp.setCell ⟨b, 0, none⟩ (.inl ?_) _, ?_, ?_⟩
    · rintro ((h | h) | h | h)
      · have : b = W0.heap.size := h
        omega
      · have : b = W0.heap.size + 1 := h
        omega
      · have : b = b + 1 := h
        omega
      · have : W0.heap.size + 2 ≤ b := h.1
        omega
    · rw [hsn'.out]
      exact (k1.set 0 _).eqA (by simp)
    · exact k2.setCell (p := ⟨b, 0, none⟩) (Nat.le_refl b) _
end Go.Proofs.YtdjlpmelmhhooaaGreatDoor
