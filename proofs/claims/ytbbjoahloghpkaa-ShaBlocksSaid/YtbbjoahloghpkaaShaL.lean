/- The law ShaBlocks: the walk. -/
import Derived.Test.YtbbjoahloghpkaaShaI
import Derived.Test.YtbbjoahloghpkaaShaF
import Derived.Test.YtbbjoahloghpkaaLeav
namespace Go.Proofs.Ytbbjoahloghpkaa
open Go Go.RowKit
set_option linter.unusedSimpArgs false
attribute [local go_sem] Oper.semAt_some

theorem wordsF_get0 (L : List Nat) (n k j : Nat) (hj : j < k) (hn : j < n) : (rowA n (wordsF L k))[j]? = some (.int .u32 (L.getD j 0 : Nat)) := by
  rw [rowA_get _ _ _ hn]; simp [wordsF, hj]
set_option maxRecDepth 100000 in
theorem blocks_big (s : ByteArray) (hbig : decide ((1000 : Int) < (s.size : Int)) = true) (st : Nat) (w : World) :
    CallsIn Fence.wide 0 Try.prog 4 #[.string s, .int .u8 (st : Int)] w fun e w' => e = .returned (.bool true) ∧ Below w.heap.size w w' := by
  have hbig' : decide (1000 < s.size) = true := by rw [decide_eq_true_iff] at hbig ⊢; omega
  refine callsIn_of_wp_marks Try.func4 rfl trivial ?_
  simp only [Try.ntmps4, List.size_toArray, List.length_cons, List.length_nil, Nat.reduceAdd, Nat.reduceSub, Array.replicate_succ, Array.replicate_zero, List.push_toArray, List.append_toArray, List.nil_append, List.cons_append]
  gi_wp2_with (refine ⟨trivial, rfl, ?_⟩; gi_at_call 6; refine (callsIn_wide.2 (shaAwake_any _)).mono ?_; rintro e w1 ⟨rfl, hB1⟩
               have r1 : RowAt w1 (w.heap.size + 1) 4 #[.bool false] := by
                 have := RowAt.new (w.alloc (.cells #[.int .u8 (st : Int)] 5)) #[.bool false] 4
                 rw [World.size_alloc] at this
                 exact this.below hB1 (by simp)
               have hB := below_cat hB1 (below_al (below_al (Below.refl _ _) _) _)
               have q1 := r1.cell (j := 0) rfl
               have f1 := r1.free 0
               clear hB1
               replace hB := hid hB)
  exact leave_empty ⟨_, results_box rfl _ _ (w.heap.size + 1) _ rfl ((r1.set 0 _).cell (j := 0) rfl) Try.underlying4, rfl, hB.out.setCell (by simp) _⟩
set_option maxRecDepth 100000 in
set_option maxHeartbeats 4000000 in
theorem blocks_small (s : ByteArray) (hs : s.size ≤ 1000) (st : Nat) (hst : st ≤ 255) (w : World) :
    CallsIn Fence.wide 0 Try.prog 4 #[.string s, .int .u8 (st : Int)] w fun e w' => e = .returned (.bool true) ∧ Below w.heap.size w w' := by
  have LB := fun w => blocks_make s (by omega) w
  have LP := fun w => refPad_any s (by omega) w
  have LK : ∀ w, Calls Try.prog 16 #[] w fun e w' => e = .returned (.agg (rowA 64 (wordsF keyL 64))) ∧ Below w.heap.size w w' := fun w => keys_any w
  have LD := fun w => refK_any w
  have hpm := padS_mod s
  have hpl := padS_le s
  obtain ⟨p, hp⟩ : ∃ p, p = padS s := ⟨_, rfl⟩
  have LI := blocks_on p (by rw [hp]; omega) (by rw [hp]; exact hpm)
  rw [← hp] at LB LP hpm hpl
  obtain ⟨N, hN⟩ : ∃ N, N = p.size / 64 := ⟨_, rfl⟩
  have hxs : blocksN p = blocksTo p N := by rw [hN]; rfl
  have hall : p.extract 0 (64 * N) = p := by rw [hN]; exact extract_all hpm
  have hpN : p.size = 64 * N := by omega
  have hpNi : (p.size : Int) / 64 = (N : Int) := by omega
  have hsm : decide ((1000 : Int) < (s.size : Int)) = false := by rw [decide_eq_false_iff_not]; omega
  have hsm' : decide (1000 < s.size) = false := by rw [decide_eq_false_iff_not]; omega
  have hlenN : ∀ pre x post, blocksTo p N = pre ++ x :: post → pre.length < N ∧ x = blk p pre.length := fun pre x post h => blocks_split h
  have hlN : (blocksTo p N).length = N := by simp [blocksTo]
  have hps : N ≤ 20 := by omega
  have hz64 := zero64
  replace LB := hid LB
  replace LI := hid LI
  replace LP := hid LP
  replace LK := hid LK
  replace LD := hid LD
  replace hxs := hid hxs
  replace hall := hid hall
  replace hpN := hid hpN
  replace hpNi := hid hpNi
  replace hlenN := hid hlenN
  replace hlN := hid hlN
  clear hpm hpl hp hN
  refine callsIn_of_wp_marks Try.func4 rfl trivial ?_
  simp only [Try.ntmps4, List.size_toArray, List.length_cons, List.length_nil, Nat.reduceAdd, Nat.reduceSub, Array.replicate_succ, Array.replicate_zero, List.push_toArray, List.append_toArray, List.nil_append, List.cons_append]
  gi_wp2_with (first
    | (refine ⟨trivial, rfl, ?_⟩; gi_at_call 6; refine (callsIn_wide.2 (shaAwake_any _)).mono ?_; rintro e w1 ⟨rfl, hB1⟩
       have r0 : RowAt w1 w.heap.size 5 #[.int .u8 (st : Int)] := ((RowAt.new w _ _).alloc _).below hB1 (by simp; omega)
       have r1 : RowAt w1 (w.heap.size + 1) 4 #[.bool false] := by
         have := RowAt.new (w.alloc (.cells #[.int .u8 (st : Int)] 5)) #[.bool false] 4
         rw [World.size_alloc] at this
         exact this.below hB1 (by simp)
       have hB := below_cat hB1 (below_al (below_al (Below.refl _ _) _) _)
       have hRs : Rows w1 [(w.heap.size, 5, #[.int .u8 (st : Int)]), (w.heap.size + 1, 4, #[.bool false])] := ⟨r0, r1, trivial⟩
       clear hB1 r0 r1
       replace hB := hid hB
       replace hRs := hid hRs)
    | (refine ⟨trivial, rfl, ?_⟩; gi_at_call 15; with_reducible refine (callsIn_wide.2 (LB.out _)).mono ?_; rintro e W1 ⟨rfl, hbx, hB2⟩
       replace hbx := hid hbx
       replace hB2 := hid hB2))
  obtain ⟨A, hA⟩ : ∃ A, A = w1.heap.size := ⟨_, rfl⟩
  have hwA : w.heap.size + 2 ≤ A := by rw [hA]; have := hRs.out.2.1.lt; omega
  have r2 : RowAt W1 A 9 #[.string (p.extract 0 (64 * 0))] := by
    rw [hA, show p.extract 0 (64 * 0) = ⟨#[]⟩ by simp; rfl]
    exact ((RowAt.new w1 _ _).alloc _).below hB2.out (by simp; omega)
  have r3 : RowAt W1 (A + 1) 3 #[.int .i64 ((0 : Nat) : Int)] := by
    have := RowAt.new (w1.alloc (.cells #[.string ⟨#[]⟩] 9)) #[.int .i64 0] 3
    rw [World.size_alloc] at this
    rw [hA]
    exact this.below hB2.out (by simp)
  have hBw : Below w.heap.size w W1 := below_cat hB2.out (below_al (below_al hB.out _) _)
  have hRw : Rows W1 [(A + 1, 3, #[.int .i64 ((0 : Nat) : Int)]), (w.heap.size, 5, #[.int .u8 (st : Int)]), (w.heap.size + 1, 4, #[.bool false])] := ⟨r3, ((hRs.out.alloc _).alloc _).below hB2.out⟩
  replace hbx := hbx.out
  rw [World.size_alloc, World.size_alloc, ← hA] at hbx
  have hbb : A + 2 < W1.heap.size := hbx.lt
  rw [← hA]
  clear hA hB hB2 hRs r3
  clear w1
  have hit := LI.out (A + 1 + 1) W1 hbx
  rw [hxs.out] at hit
  refine wp_iter_put (gf := 31) (lb := #[.pointer (some ⟨A + 1 + 1, 0, none⟩)]) rfl (enters_of Try.func31 (by kernel_rfl) rfl) hit
    (fun _ h => h.elim) (fun k hk => by subst hk; exact hbx.lt) (fun _ => rfl) (fun x => [(7, .string x)])
    (fun pre X => RowAt X A 9 #[.string (p.extract 0 (64 * pre.length))] ∧ Rows X [(A + 1, 3, #[.int .i64 ((0 : Nat) : Int)]), (w.heap.size, 5, #[.int .u8 (st : Int)]), (w.heap.size + 1, 4, #[.bool false])] ∧ Below w.heap.size w X)
    (fun _ _ _ => False) ?hI ?hIx ⟨r2, hRw, hBw⟩ ?assign ?body ?done ?stop
  case hI =>
    rintro pre X Y ⟨h1, h2, h3⟩ hk
    have hT : ∀ k, (False ∨ twoOf W1.heap.size k) → A + 2 ≤ k := by rintro k (h | h | h); exact h.elim; all_goals omega
    exact ⟨hk.row h1 (fun x => by have := hT _ x; omega), h2.kept hk (fun r hr x => by
      simp only [List.mem_cons, List.not_mem_nil, or_false] at hr
      rcases hr with rfl | rfl | rfl <;> (have := hT _ x; dsimp only at this; omega)), below_kept h3 hk (Nat.le_refl _) (fun k x => by have := hT _ x; omega)⟩
  case hIx => exact fun _ _ _ _ h => h.elim
  case assign =>
    intro l x W K hK
    gi_wp2
    simpa [encB, putAll] using hK
  case body =>
    rintro pre x post X hx hXs _ ⟨h1, h2, h3⟩
    obtain ⟨hlt, hxe⟩ := hlenN.out pre x post hx
    obtain ⟨k, hk⟩ : ∃ k, k = pre.length := ⟨_, rfl⟩
    rw [← hk] at h1 hlt hxe
    have hcat : p.extract 0 (64 * k) ++ x = p.extract 0 (64 * (k + 1)) := by rw [hxe]; exact blk_extract p k
    have hsz1 : (p.extract 0 (64 * k)).size ≤ 2000 := by rw [ByteArray.size_extract]; omega
    have hsz2 : x.size = 64 := by rw [hxe]; exact blk_size p k (by have := hpN.out; omega)
    have hsz2i : ((x.size : Int) != 64) = false := by rw [hsz2]; rfl
    have hsz2b : x.size ≤ 64 := by omega
    obtain ⟨u, hu⟩ : ∃ u, u = p.extract 0 (64 * k) := ⟨_, rfl⟩
    rw [← hu] at h1 hcat hsz1
    have c1 : X.cell? ⟨A, 0, none⟩ = some (.string u) := h1.cell rfl
    have f1 := h1.free 0
    have hlen : (pre ++ [x]).length = k + 1 := by simp [hk]
    replace hk := hid hk
    replace hcat := hid hcat
    replace hu := hid hu
    replace hxe := hid hxe
    replace hlen := hid hlen
    replace h2 := hid h2
    replace hsz2 := hid hsz2
    clear hx
    simp only [putAll, encB, fold1, List.foldl_cons, List.foldl_nil, List.setIfInBounds_toArray, List.set_cons_zero, List.set_cons_succ]
    gi_wp2
    refine ⟨(Kept.refl _ _).setCell _ (.inl (by simp [twoOf] <;> omega)) _, ?_, ?_, h3.setCell (by simp <;> omega) _⟩
    · rw [hlen.out, ← hcat.out]
      exact h1.set 0 _
    · exact h2.out.other _ _ (fun r hr => by
        simp only [List.mem_cons, List.not_mem_nil, or_false] at hr
        rcases hr with rfl | rfl | rfl <;> (dsimp only; omega))
  case stop => exact fun _ _ _ _ _ _ _ h => h.elim
  case done =>
    rintro X hX ⟨h1, h2, h3⟩ hd
    rw [hlN.out] at h1
    rw [hall.out] at h1
    replace hd := hid hd
    replace h2 := hid h2
    replace h3 := hid h3
    replace h1 := hid h1
    clear hit r2 hRw hBw
    gi_wp2_with (refine ⟨trivial, rfl, ?_⟩; gi_at_call 15; with_reducible refine (callsIn_wide.2 (LB.out _)).mono ?_; rintro e W2 ⟨rfl, hbx2, hB2⟩
                 replace hbx2 := hid hbx2
                 replace hB2 := hid hB2)
    have hX2 := hX
    have g1 := h1.out.below hB2.out h1.out.lt
    have g2 := h2.out.below hB2.out
    have g3 := below_cat hB2.out h3.out
    have gd := defer_below hd.out hB2.out
    have hB2s := hB2.out.size
    obtain ⟨B0, hB0⟩ : ∃ B0, B0 = X.heap.size := ⟨_, rfl⟩
    have hbx3 := hbx2.out
    rw [← hB0] at hbx3 hB2s hX2 ⊢
    have hb0 : B0 < W2.heap.size := hbx3.lt
    clear h1 h2 h3 hd hB2 hbx2 hX hB0
    clear X
    have hit := LI.out B0 W2 hbx3
    rw [hxs.out] at hit
    refine wp_iter_put (gf := 31) (lb := #[.pointer (some ⟨B0, 0, none⟩)]) rfl (enters_of Try.func31 (by kernel_rfl) rfl) hit
      (fun _ h => h.elim) (fun k hk => by subst hk; exact hb0) (fun _ => rfl) (fun _ => [])
      (fun pre X => (RowAt X A 9 #[.string p] ∧ Rows X [(A + 1, 3, #[.int .i64 (pre.length : Nat)]), (w.heap.size, 5, #[.int .u8 (st : Int)]), (w.heap.size + 1, 4, #[.bool false])] ∧ Below w.heap.size w X ∧ X.heap[W1.heap.size]? = some (.deferred (some []))) ∧ pre.length ≤ st)
      (fun c pre X => (RowAt X A 9 #[.string p] ∧ Rows X [(A + 1, 3, #[.int .i64 (pre.length : Nat)]), (w.heap.size, 5, #[.int .u8 (st : Int)]), (w.heap.size + 1, 4, #[.bool false])] ∧ Below w.heap.size w X ∧ X.heap[W1.heap.size]? = some (.deferred (some []))) ∧ pre.length = st + 1 ∧ c = .exit 2) ?hI2 ?hIx2 ⟨⟨g1, g2, g3, gd⟩, Nat.zero_le _⟩ ?assign2 ?body2 ?done2 ?stop2
    case hI2 =>
      rintro pre X Y ⟨⟨h1, h2, h3, h4⟩, h5⟩ hk
      have hT : ∀ k, (False ∨ twoOf W2.heap.size k) → W1.heap.size + 2 ≤ k := by rintro k (h | h | h); exact h.elim; all_goals omega
      exact ⟨⟨hk.row h1 (fun x => by have := hT _ x; omega), h2.kept hk (fun r hr x => by
        simp only [List.mem_cons, List.not_mem_nil, or_false] at hr
        rcases hr with rfl | rfl | rfl <;> (have := hT _ x; dsimp only at this; omega)), below_kept h3 hk (Nat.le_refl _) (fun k x => by have := hT _ x; omega), defer_kept h4 hk (fun x => by have := hT _ x; omega)⟩, h5⟩
    case hIx2 =>
      rintro c pre X Y ⟨⟨h1, h2, h3, h4⟩, h5⟩ hk
      have hT : ∀ k, (False ∨ twoOf W2.heap.size k) → W1.heap.size + 2 ≤ k := by rintro k (h | h | h); exact h.elim; all_goals omega
      exact ⟨⟨hk.row h1 (fun x => by have := hT _ x; omega), h2.kept hk (fun r hr x => by
        simp only [List.mem_cons, List.not_mem_nil, or_false] at hr
        rcases hr with rfl | rfl | rfl <;> (have := hT _ x; dsimp only at this; omega)), below_kept h3 hk (Nat.le_refl _) (fun k x => by have := hT _ x; omega), defer_kept h4 hk (fun x => by have := hT _ x; omega)⟩, h5⟩
    case assign2 =>
      intro l x W K hK
      gi_wp2
      simpa [encB, putAll] using hK
    case body2 =>
      rintro pre x post X hx hXs _ ⟨⟨h1, h2, h3, h4⟩, h5⟩
      obtain ⟨hlt, _⟩ := hlenN.out pre x post hx
      obtain ⟨k, hk⟩ : ∃ k, k = pre.length := ⟨_, rfl⟩
      rw [← hk] at h2 h5 hlt
      have c2 : X.cell? ⟨A + 1, 0, none⟩ = some (.int .i64 (k : Nat)) := h2.1.cell rfl
      have f2 := h2.1.free 0
      have c3 : X.cell? ⟨w.heap.size, 0, none⟩ = some (.int .u8 (st : Int)) := h2.2.1.cell rfl
      have hki : (k : Int) ≤ 2000 := by omega
      have hsti : (st : Int) ≤ 255 := by omega
      have hlen : (pre ++ [x]).length = k + 1 := by simp [hk]
      have n2 : Rows (X.setCell ⟨A + 1, 0, none⟩ (.int .i64 ((k + 1 : Nat) : Int))) [(A + 1, 3, #[.int .i64 ((k + 1 : Nat) : Int)]), (w.heap.size, 5, #[.int .u8 (st : Int)]), (w.heap.size + 1, 4, #[.bool false])] :=
        ⟨h2.1.set 0 _, h2.2.other _ _ (fun r hr => by
          simp only [List.mem_cons, List.not_mem_nil, or_false] at hr
          rcases hr with rfl | rfl <;> (dsimp only; omega))⟩
      have n1 := h1.other ⟨A + 1, 0, none⟩ (.int .i64 ((k + 1 : Nat) : Int)) (by simp)
      have n3 := h3.setCell (p := ⟨A + 1, 0, none⟩) (by simp <;> omega) (.int .i64 ((k + 1 : Nat) : Int))
      have n4 := defer_cell h4 ⟨A + 1, 0, none⟩ (.int .i64 ((k + 1 : Nat) : Int)) (by simp <;> omega)
      have nk : Kept (fun i => ¬ (twoOf W2.heap.size i ∨ i = B0)) X (X.setCell ⟨A + 1, 0, none⟩ (.int .i64 ((k + 1 : Nat) : Int))) := (Kept.refl _ _).setCell _ (.inl (by simp [twoOf] <;> omega)) _
      have e1 : ((k : Int) + 1) = ((k + 1 : Nat) : Int) := by omega
      replace hk := hid hk
      replace hlen := hid hlen
      replace h1 := hid h1
      replace h2 := hid h2
      replace h3 := hid h3
      replace h4 := hid h4
      replace n1 := hid n1
      replace n2 := hid n2
      replace n3 := hid n3
      replace n4 := hid n4
      replace nk := hid nk
      replace e1 := hid e1
      clear hx
      simp only [putAll, encB, fold1, List.foldl_cons, List.foldl_nil, List.setIfInBounds_toArray, List.set_cons_zero, List.set_cons_succ]
      by_cases hlast : k = st
      · have d1 : decide ((st : Int) < (k : Int) + 1) = true := by rw [decide_eq_true_iff]; omega
        have d1' : decide (st < k + 1) = true := by rw [decide_eq_true_iff]; omega
        replace hlast := hid hlast
        gi_wp2
        rw [e1.out]
        exact ⟨nk.out, by rw [hlen.out]; exact ⟨n1.out, n2.out, n3.out, n4.out⟩, by rw [hlen.out, hlast.out], rfl⟩
      · have d1 : decide ((st : Int) < (k : Int) + 1) = false := by rw [decide_eq_false_iff_not]; omega
        have d1' : decide (st < k + 1) = false := by rw [decide_eq_false_iff_not]; omega
        gi_wp2
        rw [e1.out]
        exact ⟨nk.out, by rw [hlen.out]; exact ⟨n1.out, n2.out, n3.out, n4.out⟩, by rw [hlen.out]; omega⟩
    case' done2 =>
      rintro X hX ⟨⟨h1, h2, h3, h4⟩, h5⟩ hd
      rw [hlN.out] at h2 h5
      obtain ⟨n, hn⟩ : ∃ n, n = N := ⟨_, rfl⟩
      have hmn : (n : Int) = min (N : Int) ((st : Int) + 1) := by omega
      rw [← hn] at h2
      clear h5
    case' stop2 =>
      rintro c pre x post X hX hx ⟨⟨h1, h2, h3, h4⟩, h5, rfl⟩ hd
      have h6 := (hlenN.out pre x post hx).1
      obtain ⟨n, hn⟩ : ∃ n, n = (pre ++ [x]).length := ⟨_, rfl⟩
      have hnl : n = pre.length + 1 := by rw [hn]; simp
      have hmn : (n : Int) = min (N : Int) ((st : Int) + 1) := by omega
      rw [← hn] at h2 h5
      clear hnl h6 hx
    all_goals
      have hmin : ∀ (ts : Array TypeId) (ty : TypeId) (w : World), (Builtin.min_ ts ty #[.int .i64 (N : Int), .int .i64 ((st : Int) + 1)]).run Try.prog w = .ok (.int .i64 (n : Int)) w := fun ts ty w => by rw [run_mn2, hmn]
      have hsti : (st : Int) ≤ 255 := by omega
      replace h1 := hid h1
      replace h2 := hid h2
      replace h3 := hid h3
      replace h4 := hid h4
      replace hd := hid hd
      replace hmn := hid hmn
      replace hn := hid hn
      gi_wp2_with (first
        | (refine ⟨trivial, rfl, ?_⟩; gi_at_call 16; with_reducible refine (callsIn_wide.2 (LK.out _)).mono ?_; rintro e Y ⟨rfl, hBY⟩
           have k1 := h1.out.below hBY h1.out.lt
           have k2 := h2.out.below hBY
           have k3 := below_cat hBY h3.out
           have k4 := defer_below h4.out hBY
           have kd := defer_below hd.out hBY
           have hYs := hBY.size
           have gY := RowAt.new Y (rowA 64 (wordsF keyL 0)) 41
           replace gY := hid gY
           replace k1 := hid k1
           replace k2 := hid k2
           replace k3 := hid k3
           replace k4 := hid k4
           replace kd := hid kd
           clear hBY h1 h2 h3 h4 hd)
        | (refine wpListIn_store_row rfl 41 _ _ rfl Y.heap.size (rowA 64 (wordsF keyL 64)) rfl rfl 41 (rowA 64 (wordsF keyL 0)) gY.out (by rw [info64, rowA_size]) (by rw [rowA_size, rowA_size]) (wordsF_one _ _ _) ?_
           have hYX : A < Y.heap.size ∧ W2.heap.size + 2 ≤ Y.heap.size := ⟨k1.out.lt, by omega⟩
           have m0 := gY.out.setRow (rowA 64 (wordsF keyL 64))
           have m1 := (k1.out.alloc (.cells (rowA 64 (wordsF keyL 0)) 41)).setRowOther Y.heap.size (rowA 64 (wordsF keyL 64)) (by omega)
           have m2 := (k2.out.alloc (.cells (rowA 64 (wordsF keyL 0)) 41)).setRowOther Y.heap.size (rowA 64 (wordsF keyL 64)) (fun r hr => by
             simp only [List.mem_cons, List.not_mem_nil, or_false] at hr
             rcases hr with rfl | rfl | rfl <;> (dsimp only; omega))
           have m3 := below_setRow (below_al k3.out (.cells (rowA 64 (wordsF keyL 0)) 41)) k3.out.size (rowA 64 (wordsF keyL 64))
           have m4 := (setRow_other (Y.alloc (.cells (rowA 64 (wordsF keyL 0)) 41)) Y.heap.size W1.heap.size (rowA 64 (wordsF keyL 64)) (by omega)).trans ((Below.heap_alloc _ _ _ (by omega)).trans k4.out)
           have md := (setRow_other (Y.alloc (.cells (rowA 64 (wordsF keyL 0)) 41)) Y.heap.size W2.heap.size (rowA 64 (wordsF keyL 64)) (by omega)).trans ((Below.heap_alloc _ _ _ (by omega)).trans kd.out)
           obtain ⟨Kb, hKb⟩ : ∃ Kb, Kb = Y.heap.size := ⟨_, rfl⟩
           rw [← hKb] at m0 m1 m2 m3 m4 md hYX ⊢
           obtain ⟨Z, hZ⟩ : ∃ Z, Z = (Y.alloc (.cells (rowA 64 (wordsF keyL 0)) 41)).setRow Kb (rowA 64 (wordsF keyL 64)) := ⟨_, rfl⟩
           rw [← hZ] at m0 m1 m2 m3 m4 md ⊢
           clear hZ hKb gY k1 k2 k3 k4 kd hYs hX
           clear X Y
           replace m0 := hid m0
           replace m1 := hid m1
           replace m2 := hid m2
           replace m3 := hid m3
           replace m4 := hid m4
           replace md := hid md)
        | (refine ⟨trivial, rfl, ?_⟩; gi_at_call 17; with_reducible refine (callsIn_wide.2 (LD.out _)).mono ?_; rintro e V ⟨rfl, hD, hBV⟩
           have v0 := m0.out.below hBV m0.out.lt
           have v1 := m1.out.below hBV m1.out.lt
           have v2 := m2.out.below hBV
           have v3 := below_cat hBV m3.out
           have v4 := defer_below m4.out hBV
           have vd := defer_below md.out hBV
           obtain ⟨Db, hDb⟩ : ∃ Db, Db = Z.heap.size := ⟨_, rfl⟩
           rw [← hDb] at hD ⊢
           clear hDb hBV m0 m1 m2 m3 m4 md
           clear Z
           replace v0 := hid v0
           replace v1 := hid v1
           replace v2 := hid v2
           replace v3 := hid v3
           replace v4 := hid v4
           replace vd := hid vd
           replace hD := hid hD))
      gi_loop [38] (fun v => ∃ i : Nat, i ≤ 64 ∧ v = .int .i64 (i : Nat)) (fun v => 64 - (intOf v).toNat)
      case atStart => exact ⟨0, by omega, rfl⟩
      case round =>
        obtain ⟨i, hi, rfl⟩ := hrel
        by_cases h64 : i = 64
        · subst h64
          rw [show ((64 : Nat) : Int) = 64 from rfl]
          have hpi := hpNi.out
          gi_wp2_with (refine ⟨trivial, rfl, ?_⟩; gi_at_call 18; with_reducible refine (callsIn_wide.2 (LP.out _)).mono ?_; rintro e U ⟨rfl, hBU⟩
                       have u1 := v1.out.below hBU v1.out.lt
                       have u2 := v2.out.below hBU
                       have u3 := below_cat hBU v3.out
                       have u4 := defer_below v4.out hBU
                       have ud := defer_below vd.out hBU
                       have c1 : U.cell? ⟨A, 0, none⟩ = some (.string p) := u1.cell rfl
                       have c2 : U.cell? ⟨A + 1, 0, none⟩ = some (.int .i64 (n : Nat)) := u2.1.cell rfl
                       have c3 : U.cell? ⟨w.heap.size, 0, none⟩ = some (.int .u8 (st : Int)) := u2.2.1.cell rfl
                       have c4 : U.cell? ⟨w.heap.size + 1, 0, none⟩ = some (.bool false) := u2.2.2.1.cell rfl
                       have f4 := u2.2.2.1.free 0
                       replace u1 := hid u1
                       replace u2 := hid u2
                       replace u3 := hid u3
                       replace u4 := hid u4
                       replace ud := hid ud)
          have r4 := u2.out.2.2.1.set 0 (.bool true)
          have e4 := defer_cell u4.out ⟨w.heap.size + 1, 0, none⟩ (.bool true) (by simp <;> omega)
          have ed := defer_cell ud.out ⟨w.heap.size + 1, 0, none⟩ (.bool true) (by simp <;> omega)
          have e3 := u3.out.setCell (p := ⟨w.heap.size + 1, 0, none⟩) (by simp) (.bool true)
          refine leave_two e4 ed (by omega) ⟨_, results_box rfl _ _ (w.heap.size + 1) (.bool true) rfl ?_ Try.underlying4, rfl, ?_⟩
          · have q1 : RowAt (((U.setCell ⟨w.heap.size + 1, 0, none⟩ (.bool true)).putObj W2.heap.size (.deferred none)).putObj W1.heap.size (.deferred none)) (w.heap.size + 1) 4 #[.bool true] :=
              (World.putObj_heap_other (by omega)).trans ((World.putObj_heap_other (by omega)).trans r4)
            exact q1.cell rfl
          · exact below_kept e3 (((Kept.refl (fun k => k = W2.heap.size ∨ k = W1.heap.size) _).putObj _ _ (.inl (.inl rfl))).putObj _ _ (.inl (.inr rfl))) (Nat.le_refl _) (fun k hk => by omega)
        · have hlt : i < 64 := by omega
          have hlti : (i : Int) < 64 := by omega
          have q1 : V.cell? ⟨Db, i, none⟩ = some (.int .u32 (keyL.getD i 0 : Nat)) := hD.out.cell (wordsF_get0 keyL 64 64 i hlt hlt)
          have q2 : V.cell? ⟨Kb, i, none⟩ = some (.int .u32 (keyL.getD i 0 : Nat)) := v0.out.cell (wordsF_get0 keyL 64 64 i hlt hlt)
          obtain ⟨x, hx⟩ : ∃ x, x = keyL.getD i 0 := ⟨_, rfl⟩
          rw [← hx] at q1 q2
          clear hx
          gi_wp2
          go_round
          case rel => exact ⟨i + 1, by omega, by go_num⟩
          case measure => simp [intOf]; omega
theorem shaBlocks_walk (s : ByteArray) (c : Int) (_hs : s.size ≤ 140737488351232) (wc : (Lit.int .u8 c).wf = true) (w : World) :
    Calls Try.prog 4 #[.string s, .int .u8 c] w fun e w' => e = .returned (.bool true) ∧ Below w.heap.size w w' := by
  have hb := bounds_u8 wc
  obtain ⟨m, rfl⟩ := Int.eq_ofNat_of_zero_le hb.1
  refine (callsIn_wide (n := 0)).1 ?_
  by_cases h : s.size ≤ 1000
  · exact blocks_small s h m (by omega) w
  · exact blocks_big s (by rw [decide_eq_true_iff]; omega) m w
end Go.Proofs.Ytbbjoahloghpkaa
