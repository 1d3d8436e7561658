/- Catalog: the walk of CatalogMessages, of no message (printed by mkCtMo.py). -/
import Derived.Test.YtdjlpmelmhhooaaGreatDoorCtM
namespace Go.Proofs.YtdjlpmelmhhooaaGreatDoor
open Go Go.RowKit
set_option linter.unusedSimpArgs false
set_option linter.unusedVariables false

def MsO (b0 b3 g : Nat) (γ : CtG) (m : Int) (w : World) (a : Act) (W : World) : Prop := ∃ (j : Nat), a.tmps.size = 92 ∧ a.tmps.getD 0 undef = .int .i64 m ∧ a.tmps.getD 1 undef = .pointer (some ⟨b0, 0, none⟩) ∧ a.tmps.getD 2 undef = .bool false ∧ a.tmps.getD 3 undef = .pointer (some ⟨b3, 0, none⟩) ∧ a.tmps.getD 4 undef = .pointer (some ⟨b3 + 1, 0, none⟩) ∧ a.tmps.getD 12 undef = .slice (some ⟨g, 0, none⟩) 32 32 ∧ a.tmps.getD 13 undef = .int .i64 32 ∧ a.tmps.getD 14 undef = .int .i64 (j : Nat) ∧ a.defers = [] ∧ j ≤ 32 ∧ Hid (MsI b0 b3 g (b3 + 2) γ m 0 0 [] w W) ∧ b3 + 2 ≤ W.heap.size ∧ g < W.heap.size ∧ γ.1 ≤ W.heap.size

attribute [local go_sem] Oper.semAt_some
set_option maxRecDepth 100000 in
set_option maxHeartbeats 64000000 in
theorem messages_out (m : Int) (hm : m < 1 ∨ 9 < m) (w : World) (hM : MaxVar w) : Calls Tryz.prog 9 #[.int .i64 m] w fun e w' => e = .returned (.bool true) ∧ Below w.heap.size w w' := by
  refine (callsIn_wide (n := 0)).1 ?_
  refine callsIn_of_wp_marks Tryz.func9 rfl trivial ?_
  simp only [Tryz.ntmps9, List.size_toArray, List.length_cons, List.length_nil, Nat.reduceAdd, Nat.reduceSub, Array.replicate_succ, Array.replicate_zero, List.push_toArray, List.append_toArray, List.nil_append, List.cons_append]
  have LA := hid (fun w h => ctAwake_any w h)
  have LT := hid (fun w => rtTable_any w)
  have hM0 := hid (fun o => hM.alloc o)
  obtain ⟨b0, hb0⟩ : ∃ b, b = w.heap.size := ⟨_, rfl⟩
  clear hM
  gi_wp2_with (first
    | (refine ⟨trivial, rfl, ?_⟩; gi_at_call 29; refine (callsIn_wide.2 (LA.out _ (hM0.out _))).mono ?_; rintro e w1 ⟨rfl, hB⟩
       have r0 := hid ((RowAt.new w #[.int .i64 m] 3).below hB (by simp))
       have bel := hid (below_cat hB (below_al (Below.refl w.heap.size w) _))
       have s1 : w.heap.size + 1 ≤ w1.heap.size := by have := hB.size; simpa using this
       clear hB hM0)
    | (refine ⟨trivial, rfl, ?_⟩; gi_at_call 30; refine (callsIn_wide.2 (LT.out _)).mono ?_; rintro e w2 ⟨g, ps, rfl, hR, hA, hgs, hB2⟩
       replace hR := hid hR
       replace hA := hid hA
       replace hB2 := hid hB2))
  obtain ⟨b3, hb3⟩ : ∃ b, b = w1.heap.size := ⟨_, rfl⟩
  obtain ⟨γ, hγ⟩ : ∃ γ : CtG, γ = (w2.heap.size, ps) := ⟨_, rfl⟩
  have hsz2 : b3 + 2 ≤ w2.heap.size := by have := hB2.out.size; simp only [World.size_alloc] at this; omega
  have h03 : b0 < b3 := by omega
  have hbw : b0 ≤ w.heap.size := Nat.le_of_eq hb0
  have hg3 : b3 + 1 < g := by simp only [World.size_alloc] at hgs; omega
  have hg2 : g < w2.heap.size := hR.out.lt
  have hI0 : MsI b0 b3 g (b3 + 2) γ m 0 0 [] w w2 := by
    have hv := ctV_of (m := w2.heap.size) hA.out (Nat.le_refl _)
    simp only [World.size_alloc] at hv
    refine ⟨?_, ?_, ?_, ?_, ?_, ?_, fun d hd => (by cases hd), List.nodup_nil, fun d hd => (by cases hd)⟩
    · rw [hb0]; exact below_cat hB2.out (below_al (below_al bel.out _) _)
    · rw [hb0]; exact ((r0.out.alloc _).alloc _).below hB2.out (by simp only [World.size_alloc]; omega)
    · rw [hb3]; exact ((RowAt.new w1 _ _).alloc _).below hB2.out (by simp only [World.size_alloc]; omega)
    · rw [hb3]; exact (RowAt.newS w1 _ _ _ _).below hB2.out (by simp only [World.size_alloc]; omega)
    · rw [hγ]; exact hR.out
    · rw [hγ, hb3]; exact hv
  have hcell : ∀ (i j : Nat) (v : Value), i < 32 → ((ctR i).cells (γ.2.getD i (none, 0)))[j]? = some v → (ctCells ctTab γ.2)[i * 6 + j]? = some v := fun i j v hi hv => by
    rw [hγ] at hv ⊢
    exact (ctAt_get hA.out i _ (ctTab_at i hi)).2 j v hv
  have hγ1 : γ.1 = w2.heap.size := by rw [hγ]
  rw [← hb0, ← hb3]
  clear hR hA hB2 r0 bel hγ hgs
  replace hI0 := hid hI0
  replace hcell := hid hcell
  have hZ0 : γ.1 ≤ w2.heap.size := Nat.le_of_eq hγ1
  clear hγ1
  replace hb0 := hid hb0
  replace hb3 := hid hb3
  refine wpIn_loop (MsO b0 b3 g γ m w) (fun a _ => 33 - (intOf (a.tmps.getD 14 undef)).toNat) ?lstart ?lround
  case lstart => exact ⟨0, rfl, rfl, rfl, rfl, rfl, rfl, rfl, rfl, rfl, rfl, by omega, hI0, hsz2, hg2, hZ0⟩
  case lround =>
    clear hI0 hsz2 hg2 hZ0
    rintro ⟨t, df⟩ W ⟨j, hsz, e0, e1, e2, e3, e4, e12, e13, e14, hdf, hj32, hI, hS1, hS2, hS3⟩
    dsimp only at hsz e0 e1 e2 e3 e4 e12 e13 e14 hdf
    subst hdf
    obtain ⟨f, rfl⟩ : ∃ f : Nat → Value, t = #[.int .i64 m, .pointer (some ⟨b0, 0, none⟩), .bool false, .pointer (some ⟨b3, 0, none⟩), .pointer (some ⟨b3 + 1, 0, none⟩), f 5, f 6, f 7, f 8, f 9, f 10, f 11, .slice (some ⟨g, 0, none⟩) 32 32, .int .i64 32, .int .i64 (j : Nat), f 15, f 16, f 17, f 18, f 19, f 20, f 21, f 22, f 23, f 24, f 25, f 26, f 27, f 28, f 29, f 30, f 31, f 32, f 33, f 34, f 35, f 36, f 37, f 38, f 39, f 40, f 41, f 42, f 43, f 44, f 45, f 46, f 47, f 48, f 49, f 50, f 51, f 52, f 53, f 54, f 55, f 56, f 57, f 58, f 59, f 60, f 61, f 62, f 63, f 64, f 65, f 66, f 67, f 68, f 69, f 70, f 71, f 72, f 73, f 74, f 75, f 76, f 77, f 78, f 79, f 80, f 81, f 82, f 83, f 84, f 85, f 86, f 87, f 88, f 89, f 90, f 91] := ⟨fun k => t.getD k undef, by
      refine (arr_range t 92 hsz).trans ?_
      show (#[t.getD 0 undef, t.getD 1 undef, t.getD 2 undef, t.getD 3 undef, t.getD 4 undef, t.getD 5 undef, t.getD 6 undef, t.getD 7 undef, t.getD 8 undef, t.getD 9 undef, t.getD 10 undef, t.getD 11 undef, t.getD 12 undef, t.getD 13 undef, t.getD 14 undef, t.getD 15 undef, t.getD 16 undef, t.getD 17 undef, t.getD 18 undef, t.getD 19 undef, t.getD 20 undef, t.getD 21 undef, t.getD 22 undef, t.getD 23 undef, t.getD 24 undef, t.getD 25 undef, t.getD 26 undef, t.getD 27 undef, t.getD 28 undef, t.getD 29 undef, t.getD 30 undef, t.getD 31 undef, t.getD 32 undef, t.getD 33 undef, t.getD 34 undef, t.getD 35 undef, t.getD 36 undef, t.getD 37 undef, t.getD 38 undef, t.getD 39 undef, t.getD 40 undef, t.getD 41 undef, t.getD 42 undef, t.getD 43 undef, t.getD 44 undef, t.getD 45 undef, t.getD 46 undef, t.getD 47 undef, t.getD 48 undef, t.getD 49 undef, t.getD 50 undef, t.getD 51 undef, t.getD 52 undef, t.getD 53 undef, t.getD 54 undef, t.getD 55 undef, t.getD 56 undef, t.getD 57 undef, t.getD 58 undef, t.getD 59 undef, t.getD 60 undef, t.getD 61 undef, t.getD 62 undef, t.getD 63 undef, t.getD 64 undef, t.getD 65 undef, t.getD 66 undef, t.getD 67 undef, t.getD 68 undef, t.getD 69 undef, t.getD 70 undef, t.getD 71 undef, t.getD 72 undef, t.getD 73 undef, t.getD 74 undef, t.getD 75 undef, t.getD 76 undef, t.getD 77 undef, t.getD 78 undef, t.getD 79 undef, t.getD 80 undef, t.getD 81 undef, t.getD 82 undef, t.getD 83 undef, t.getD 84 undef, t.getD 85 undef, t.getD 86 undef, t.getD 87 undef, t.getD 88 undef, t.getD 89 undef, t.getD 90 undef, t.getD 91 undef] : Array Value) = _
      rw [e0, e1, e2, e3, e4, e12, e13, e14]⟩
    clear hsz e0 e1 e2 e3 e4 e12 e13 e14
    by_cases hlt : j < 32
    · have g1 : decide ((j : Int) < 32) = true := decide_eq_true (by omega)
      have g1' : (j : Int) < 32 := by omega
      have hrng := tab_range (B := 0) hcell.out hI.out.rg j hlt
      obtain ⟨C, hC⟩ : ∃ C, C = (ctR j).cells (γ.2.getD j (none, 0)) := ⟨_, rfl⟩
      have hC1 : C.size = 6 := by rw [hC]; rfl
      have hC2 : C.all (·.oneCell') = true := by rw [hC]; exact ctCells_one _ _
      rw [← hC] at hrng
      replace hrng := hid hrng
      replace hC1 := hid hC1
      replace hC2 := hid hC2
      have hC3 := hid hC
      clear hC
      have hcase : decide (m < 1) = true ∨ (decide (m < 1) = false ∧ decide (9 < m) = true) := by
        rcases hm with h | h
        · exact .inl (decide_eq_true h)
        · exact .inr ⟨decide_eq_false (by omega), decide_eq_true h⟩
      clear hm
      rcases hcase with gm | ⟨gm, gm2⟩
      all_goals
        gi_wp2_with (first
          | (with_reducible refine at_opIn (some 17) (.load 61 (.tmp 16)) ?_
             refine wpListIn_load_mid (o := ⟨some 17, .load _ (.tmp 16), _, _, _, _⟩) rfl 61 (.tmp 16) rfl g (j * 6) rfl C.toList _ hrng.out Tryz.underlying61 rfl (by rw [Array.length_toList, hC1.out]; exact infoRow) ?_)
          | (with_reducible refine at_opIn none (.store 61 (.tmp 6) (.tmp 17)) ?_
             refine wpListIn_store_row (o := ⟨none, .store _ (.tmp 6) (.tmp 17), _, _, _, _⟩) rfl 61 (.tmp 6) (.tmp 17) rfl W.heap.size C rfl (by rfl) 61 _ (RowAt.new W _ _) (by rw [hC1.out]; exact infoRow) (by rw [hC1.out]; rfl) hC2.out ?_
             generalize hYd : World.setRow _ _ _ = Y
             have hkY : Kept (fun _ => False) W Y := by rw [← hYd]; exact Kept.of_below (below_setRow (below_al (Below.refl _ _) _) (Nat.le_refl _) _)
             have hfin2 := hid (hI.out.on hkY (fun _ h => h.elim) (Z := W.heap.size) h03 hbw (by omega) hS2 hS3 (fun d hd => by cases hd))
             have cmY : Y.cell? ⟨b0, 0, none⟩ = some (.int .i64 m) := hfin2.out.r0.cell rfl
             have hsY := hkY.size
             clear hYd hkY))
        refine ⟨by unfold MsO; exact ⟨j + 1, rfl, rfl, rfl, rfl, rfl, rfl, rfl, rfl, rfl, rfl, by omega, hfin2, by omega, by omega, by omega⟩, ?_⟩
        simp [intOf]
        omega
    · obtain rfl : j = 32 := by omega
      have g1 : decide (((32 : Nat) : Int) < 32) = false := by decide
      have cm : W.cell? ⟨b0, 0, none⟩ = some (.int .i64 m) := hI.out.r0.cell rfl
      have hm0 := hid hm
      clear hm
      gi_wp2_with (refine ⟨trivial, rfl, ?_⟩; gi_at_call 40; refine (callsIn_wide.2 (of_make _ _)).mono ?_; rintro e w2 ⟨rfl, rfl⟩)
      obtain ⟨bm, hbm⟩ : ∃ b, b = W.heap.size := ⟨_, rfl⟩
      have hrm : RowAt (W.alloc (.cells #[.int .i64 m] 3)) bm 3 #[.int .i64 m] := by rw [hbm]; exact RowAt.new _ _ _
      have hI2 := hI.out.on ((Kept.refl (fun _ => False) W).alloc (.cells #[.int .i64 m] 3)) (fun _ h => h.elim) (Z := W.heap.size) h03 hbw (by omega) hS2 hS3 (fun d hd => by cases hd)
      have hS4 : bm + 1 = (W.alloc (.cells #[.int .i64 m] 3)).heap.size := by rw [World.size_alloc, hbm]
      rw [← hbm] at hS1 hS2 hS3 ⊢
      generalize World.alloc W _ = W2 at hrm hI2 hS4 ⊢
      replace hbm := hid hbm
      clear hI cm
      refine wp_iter (gf := 80) (lb := #[.pointer (some ⟨bm, 0, none⟩)]) rfl (enters_of Tryz.func80 (by kernel_rfl) rfl) (of_none m hm0.out bm W2 hrm)
        (fun _ h => h.elim) (fun k h => by have := hrm.lt; omega) (fun _ => rfl) (fun pr Y => MsI b0 b3 g (b3 + 2) γ m 0 0 [] w Y) (fun c pr Y => False) ?kI ?kIx hI2 (fun x a' X => True) (fun _ _ _ _ _ _ => trivial) ?kassign ?kbody ?kdone ?kstop
      case kI =>
        rintro pr Y Y' h hk
        exact h.on hk (Z := bm + 1) (fun k h => by rcases h with h | h | h; exact h.elim; all_goals omega) h03 hbw (by omega) (by omega) (by omega) (fun d hd => by cases hd)
      case kIx => rintro c pr Y Y' h _; exact h
      case kstop => rintro c pr x post Y hs hx h; exact h.elim
      case kbody => rintro pr x post a' Y hx; simp at hx
      case kassign =>
        intro l2 pr x Y K hs hi hK
        gi_wp2
        exact hK _ _ (Kept.refl _ _) hi trivial
      case kdone =>
        rintro Y hs h hd
        have hE := h.mark hd (by omega) (fun d hd => by cases hd)
        have LB := hid (fun w => bytes_none m hm0.out w)
        have LC : Hid (∀ w, Calls Tryz.prog 25 #[.agg #[.int .i64 3, .int .i64 0, .int .i64 0, .slice none 0 0]] w fun e w' => e = .returned (.int .i64 0) ∧ Below w.heap.size w w') := hid (fun w => ruleRefCheck_any 3 0 0 none 0 0 w)
        have q4 : ∀ q : Sub Y, q.x.cell? ⟨b3 + 1, 0, none⟩ = some (.int .i64 0) := fun q => q.cell hE.r4 rfl
        have q3 : ∀ q : Sub Y, q.x.cell? ⟨b3, 0, none⟩ = some (.int .i64 0) := fun q => q.cell hE.r3 rfl
        have q0 : ∀ q : Sub Y, q.x.cell? ⟨b0, 0, none⟩ = some (.int .i64 m) := fun q => q.cell hE.r0 rfl
        replace hE := hid hE
        have hYs : bm + 3 ≤ Y.heap.size := by omega
        clear h hd hI2
        gi_wp2
        refine wpIn_region_sub (by kernel_rfl) (by kernel_rfl) ?_
        repeat (go_big_quiet_step (first
          | (go_at_call 41; with_reducible refine Sub.call _ (LB.out _))
          | (go_at_call 25; with_reducible refine Sub.call _ (LC.out _))))
        refine wpQuiet_nil ?_
        intro q
        gi_wp2
        have hE2 := hE.out.on (Kept.of_below (S := fun _ => False) q.h) (fun _ h => h.elim) (Z := bm + 3) h03 hbw (by omega) (by omega) (by omega) (fun d hd => by
          rcases List.mem_cons.1 hd with rfl | hd
          · omega
          · cases hd)
        refine leave_many [W2.heap.size] q.x hE2.df hE2.nd fun Z' hk => ⟨_, results_tmp rfl _ _ _, rfl, ?_⟩
        rw [← hb0.out]
        exact below_kept hE2.bel hk hbw (fun d hd => by have := hE2.up _ hd; omega)
theorem catalogMessages_row (a0 : Int) (_ : (Lit.int .i64 a0).wf = true) (w : World) (hM : MaxVar w) : Calls Tryz.prog 9 #[.int .i64 a0] w fun e w' => e = .returned (.bool true) ∧ Below w.heap.size w w' := by
  by_cases h : a0 < 1 ∨ 9 < a0
  · exact messages_out a0 h w hM
  · obtain ⟨m, rfl⟩ := Int.eq_ofNat_of_zero_le (show 0 ≤ a0 by omega)
    exact messages_core m (by omega) (by omega) w hM
end Go.Proofs.YtdjlpmelmhhooaaGreatDoor
