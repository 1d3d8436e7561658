/- Disk: the walk of DiskCrashes. -/
import Derived.Test.YtaofpeajfgcjcaaDkV
namespace Go.Proofs.Ytaofpeajfgcjcaa
open Go Go.RowKit Go.Maps
set_option linter.unusedSimpArgs false
set_option linter.unusedVariables false

theorem secOf_all (l : Nat → UInt8) (a : Nat) (b : Blk) (x j : Nat) (hj : j < 128) : secOf (allL [(a, b)] l) x j = if a = x then b j else secOf l x j := by
  have h1 : (x * 128 + j) / 128 = x := by omega
  have h2 : (x * 128 + j) % 128 = j := by omega
  unfold secOf allL
  rw [h1, h2]
  by_cases e : a = x
  · subst e; simp [shownZ]
  · have : ¬ ((a : Int) = (x : Int)) := by omega
    simp [shownZ, this, e]
/-- A crash, a write, a sync, a crash: what lasts then. -/
theorem crashes_plain {S2 S3 S4 S5 : DS} {k : Nat} (hc : S2.Calm 16 k) (hh : S2.hangs = []) (a2 : Int) (h3 : S3 = S2.crash a2) (h4 : S4 = (S3.write 3 (fillB 1)).2) (h5 : S5 = (S4.sync).2) (x : Nat) (hx : x < 16) :
    ∃ B', (((List.range 16).map fun i => secOf S2.lasts i).set 3 (fillB 1))[x]? = some B' ∧ blkA B' = blkA (secOf (S5.crash a2).lasts x) := by
  have e3h : S3.hangs = [] := by rw [h3]; rfl
  have e3l : S3.lasts = S2.lasts := by rw [h3]; show settleL S2.hangs a2 S2.lasts = _; rw [hh]; rfl
  have c3 : S3.Calm 16 k := by rw [h3]; exact hc.crash a2
  have e4 : S4 = S3.stepped.push (3, fillB 1) := by
    rw [h4]; unfold DS.write
    rw [if_neg (by have := c3.mayE 3 (by decide); simpa using this), if_neg (by rw [c3.f]; decide)]
    rfl
  have e4h : S4.hangs = [(3, fillB 1)] := by rw [e4]; show S3.hangs ++ _ = _; rw [e3h]; rfl
  have e4l : S4.lasts = S2.lasts := by rw [e4]; exact e3l
  have c4 : S4.Calm 16 (k + 1) := by rw [h4]; exact c3.write _ _
  have e5 : S5 = { S4.stepped with lasts := allL S4.hangs S4.lasts, hangs := [] } := by
    rw [h5]; unfold DS.sync
    rw [if_neg (by have := c4.mayE 0 (by decide); simpa using this), if_neg (by rw [c4.f]; decide)]
  have e6 : (S5.crash a2).lasts = allL [(3, fillB 1)] S2.lasts := by
    rw [e5]; show settleL [] a2 (allL S4.hangs S4.lasts) = _; rw [e4h, e4l]; rfl
  rw [e6]
  by_cases e : 3 = x
  · subst e
    exact ⟨fillB 1, by simp, blkA_ext fun j hj => by rw [secOf_all _ _ _ _ _ hj, if_pos rfl]⟩
  · refine ⟨secOf S2.lasts x, ?_, blkA_ext fun j hj => by rw [secOf_all _ _ _ _ _ hj, if_neg e]⟩
    rw [List.getElem?_set_ne (by omega)]
    simp [hx]
attribute [local go_sem] Oper.semAt_some
theorem crashes_big (a0 : Option Addr) (len cap : Nat) (a1 a2 : Int) (hl : 30 < len) (w : World) :
    Calls Try.prog 3 #[.slice a0 len cap, .int .i64 a1, .int .i64 a2] w fun e w' => e = .returned (.bool true) ∧ Below w.heap.size w w' := by
  refine (callsIn_wide (n := 0)).1 ?_
  refine callsIn_of_wp_marks Try.func3 rfl trivial ?_
  simp only [Try.ntmps3, List.size_toArray, List.length_cons, List.length_nil, Nat.reduceAdd, Nat.reduceSub, Array.replicate_succ, Array.replicate_zero, List.push_toArray, List.append_toArray, List.nil_append, List.cons_append]
  have LA := hid awake_any
  have g1 : decide ((30 : Int) < (len : Int)) = true := decide_eq_true (by omega)
  have g2 : decide (30 < len) = true := decide_eq_true hl
  gi_wp2_with (refine ⟨trivial, rfl, ?_⟩; gi_at_call 7; refine (callsIn_wide.2 (LA.out _)).mono ?_; rintro e w1 ⟨rfl, hB⟩
               have r0 := (RowAt.new w #[.bool false] 4).below hB (by simp only [World.size_alloc]; omega)
               have b1 := hid (below_cat hB (below_al (Below.refl w.heap.size w) _))
               have f0 := r0.free 0
               have c0 := r0.cell (j := 0) rfl
               replace r0 := hid r0
               clear hB)
  have r2 := (r0.out.set 0 (.bool true)).eqA (A' := #[.bool true]) (by simp)
  refine leave_none ⟨_, results_box rfl _ _ w.heap.size (.bool true) rfl (r2.cell (j := 0) rfl) Try.underlying4, rfl, ?_⟩
  exact b1.out.setCell (Nat.le_refl _) _
set_option maxRecDepth 1000000 in
set_option maxHeartbeats 64000000 in
theorem crashes_core (a0 : Option Addr) (len cap : Nat) (a1 a2 : Int) (hl : len ≤ 30) (qs : List ActT) (w : World) (hq : IsActs w a0 len qs) (hw1 : keepOk a1) (hw2 : keepOk a2) :
    Calls Try.prog 3 #[.slice a0 len cap, .int .i64 a1, .int .i64 a2] w fun e w' => e = .returned (.bool true) ∧ Below w.heap.size w w' := by
  refine (callsIn_wide (n := 0)).1 ?_
  refine callsIn_of_wp_marks Try.func3 rfl trivial ?_
  simp only [Try.ntmps3, List.size_toArray, List.length_cons, List.length_nil, Nat.reduceAdd, Nat.reduceSub, Array.replicate_succ, Array.replicate_zero, List.push_toArray, List.append_toArray, List.nil_append, List.cons_append]
  have LA := hid awake_any
  have LN := hid (new_dk 16 (by decide) (by decide))
  have g1 : decide ((30 : Int) < (len : Int)) = false := decide_eq_false (by omega)
  have g2 : decide (30 < len) = false := decide_eq_false (by omega)
  replace hq := hid hq
  replace hw1 := hid hw1
  replace hw2 := hid hw2
  gi_wp2_with (first
    | (refine ⟨trivial, rfl, ?_⟩; gi_at_call 7; refine (callsIn_wide.2 (LA.out _)).mono ?_; rintro e w1 ⟨rfl, hB⟩
       have r0 := hid ((RowAt.new w #[.bool false] 4).below hB (by simp only [World.size_alloc]; omega))
       have b1 := hid (below_cat hB (below_al (Below.refl w.heap.size w) _))
       have s1 : w.heap.size < w1.heap.size := by have := hB.size; simp at this; omega
       clear hB)
    | (refine ⟨trivial, rfl, ?_⟩; gi_at_call 8; refine (callsIn_wide.2 (LN.out _)).mono ?_; rintro e w2 ⟨d, F, rfl, hd2, hB2, hF2⟩
       have o0 : Side w1 w2 w.heap.size d F (DS.new 16) [] [] := ⟨⟨hd2, hB2, hF2⟩, r0.out.below hB2 r0.out.lt, s1, fun x hx => (by cases hx), fun x hx => (by cases hx)⟩
       replace o0 := hid o0
       clear hd2 hB2 hF2))
  have hq1 := hid (hq.out.below b1.out)
  have hb12 := hid o0.out.own.bel
  refine wpIn_loop_f (σ := Nat) (fun i f => #[.slice a0 len cap, .int .i64 a1, .int .i64 a2, f 3, f 4, f 5, .pointer (some ⟨w.heap.size, 0, none⟩), .pointer (some ⟨d, 0, none⟩), f 8, f 9, f 10, f 11, f 12, f 13, f 14, f 15, f 16, f 17, f 18, f 19, f 20, f 21, f 22, f 23, f 24, .slice a0 len cap, .int .i64 (len : Nat), .int .i64 (i : Nat), f 28, f 29, f 30, f 31, f 32, f 33, f 34, f 35, f 36, f 37, f 38, f 39, f 40, f 41, f 42, f 43, f 44, f 45, f 46, f 47, f 48, f 49, f 50, f 51, f 52, f 53, f 54, f 55, f 56, f 57, f 58, f 59, f 60, f 61, f 62, f 63, f 64, f 65, f 66, f 67, f 68, f 69, f 70, f 71, f 72, f 73, f 74, f 75, f 76, f 77]) (fun i V => i ≤ len ∧ Hid (∃ F', Side w1 V w.heap.size d F' ((DS.new 16).runW (qs.take i)) [] [])) (fun i => len - i) 0 [] rfl rfl ⟨Nat.zero_le _, hid ⟨F, o0.out⟩⟩ ?_
  rintro i f V ⟨hi, ho⟩ K hKK
  dsimp only at hi ho hKK ⊢
  replace hKK := hid hKK
  clear o0 LN
  obtain ⟨F', o1⟩ := ho.out
  clear ho
  have hcalm := (DS.Calm.new 16).runW (qs.take i)
  have hql := hq1.out.len
  have htl : (qs.take i).length ≤ 30 := by rw [List.length_take]; omega
  have hok := hid (hcalm.ok (by omega))
  replace hcalm := hid hcalm
  replace hql := hid hql
  replace htl := hid htl
  by_cases hlt : i < len
  · have t1 : decide ((i : Int) < (len : Int)) = true := decide_eq_true (by omega)
    have t2 : decide (i < len) = true := decide_eq_true hlt
    have i1 : (0 : Int) ≤ (i : Int) := by omega
    have i2 : (i : Int) < (len : Int) := by omega
    have hadd : IntKind.i64.wrap ((i : Int) + 1) = ((i + 1 : Nat) : Int) := by rw [IntKind.wrap_i64]; omega
    obtain ⟨q, hqi⟩ : ∃ q, qs[i]? = some q := ⟨_, List.getElem?_eq_getElem (by rw [hql.out]; exact hlt)⟩
    obtain ⟨hqo, x, rfl, hcq⟩ := (hq1.out.below (o1.own.bel)).at hqi
    have hia : (Try.prog.info? 29).map (·.size) = some (actV q).length := by kernel_rfl
    have hrun := runW_snoc (DS.new 16) (qs.take i) q
    have htk : qs.take i ++ [q] = qs.take (i + 1) := by
      have h1 : i < qs.length := by rw [hql.out]; exact hlt
      rw [List.take_succ_eq_append_getElem h1]
      rw [List.getElem?_eq_getElem h1] at hqi
      rw [Option.some.inj hqi]
    rw [htk] at hrun
    replace o1 := hid o1
    replace hcq := hid hcq
    replace hia := hid hia
    replace hrun := hid hrun
    replace htk := hid htk
    replace hqi := hid hqi
    gi_wp2_with (with_reducible refine at_opIn (some 30) (.load 29 (.tmp 29)) ?_
                 refine wpListIn_load_addr (o := ⟨some 30, _, _, _, _, _⟩) rfl 29 (.tmp 29) rfl (x.add (i * 3)) rfl (actV q) _ hcq.out Try.underlying29 rfl hia.out ?_
                 simp only [actV])
    have o2 := o1.out.add #[.int .i64 q.1, .int .i64 q.2.1, .int .u8 (q.2.2.toNat : Nat)] 29
    have rb := hid (o2.row _ (.head _)).1
    have hdk := hid o2.own.dk
    replace o2 := hid o2
    refine crashes_r9 hdk hok rb _ _ _ _ _ _ _ _ _ _ _ _ _ _ _ _ _ _ _ _ _ _ _ _ _ _ _ _ _ _ _ _ _ _ _ _ _ _ _ _ _ _ _ _ _ _ _ _ _ _ _ _ _ _ _ _ _ _ _ _ _ _ _ _ _ _ _ _ _ _ _ _ _ _ _ _ ?_
    rintro v31 v32 v33 v34 v35 v36 v37 V2 ⟨F2, hd2, hF2⟩ hk2
    obtain ⟨F3, o3, _, _⟩ := o2.out.to ⟨F2, hd2, hk2, hF2⟩
    rw [← hrun.out] at o3
    have o4 : Hid (∃ F', Side w1 V2 w.heap.size d F' ((DS.new 16).runW (qs.take (i + 1))) [] []) := hid ⟨F3, o3.drop (ys := []) (fun y hy => (by cases hy))⟩
    clear o3 hd2 hF2 hk2 rb hdk o2 hcq hia
    gi_wp2
    exact hKK.out (i + 1) _ _ rfl (by omega) ⟨hlt, o4⟩
  · obtain rfl : i = len := by omega
    have t1 : decide ((i : Int) < (i : Int)) = false := decide_eq_false (by omega)
    have ht : qs.take i = qs := List.take_of_length_le (by rw [hql.out]; exact Nat.le_refl _)
    rw [ht] at o1 hcalm hok
    clear hKK ht
    obtain ⟨S1, hS1⟩ : ∃ S1, S1 = (DS.new 16).runW qs := ⟨_, rfl⟩
    rw [← hS1] at o1 hcalm hok
    obtain ⟨n0, hn0⟩ : ∃ n0, n0 = 0 + (qs.take i).length := ⟨_, rfl⟩
    replace hS1 := hid hS1
    replace o1 := hid o1
    have LF := hid all_any
    gi_wp2_with (first
      | (refine ⟨trivial, rfl, ?_⟩; gi_at_call 11; refine (callsIn_wide.2 (crash_any o1.out.own.dk hok.out a1 hw1.out)).mono ?_; rintro e w3 ⟨rfl, ht⟩
         obtain ⟨F3, o3, _, _⟩ := o1.out.to ht
         have o4 := o3.add #[.slice none 0 0] 35
         replace o4 := hid o4
         clear ht o3)
      | (refine ⟨trivial, rfl, ?_⟩; gi_at_call 12; refine (callsIn_wide.2 (LF.out _ _)).mono ?_; rintro e w4 ⟨rfl, rfl⟩
         have o5 := hid (o4.out.add #[.pointer (some ⟨d, 0, none⟩)] 24)))
    obtain ⟨c, hc⟩ : ∃ c, c = w3.heap.size := ⟨_, rfl⟩
    have hbx : (w3.alloc (.cells #[.slice none 0 0] 35)).heap.size = c + 1 := by rw [hc]; simp
    have o6 := o5.out
    rw [hbx, ← hc] at o6
    generalize hW0 : World.alloc (World.alloc w3 _) _ = W0 at o6 ⊢
    have hW0s : W0.heap.size = c + 2 := by rw [← hW0, hc]; simp
    rw [← hc]
    clear o5 o4 hW0 hbx LF
    obtain ⟨S2, hS2⟩ : ∃ S2, S2 = S1.crash a1 := ⟨_, rfl⟩
    rw [← hS2] at o6
    have rbx := (o6.row _ (.head _)).1
    have rc0 := (o6.row _ (.tail _ (.head _))).1
    have hcw := (o6.row _ (.tail _ (.head _))).2.1
    have hcF := (o6.row _ (.tail _ (.head _))).2.2
    obtain ⟨L, M, v0, hdA, hFA⟩ := id o6.own.dk
    have hall := all_on hdA rbx
    have hn16 : S2.n = 16 := by rw [hS2, (hcalm.out.crash a1).n]
    rw [hn16] at hall
    have hFlt := o6.own.dk.lt
    have hcc := hid hc
    clear hc
    replace hS2 := hid hS2
    replace hn16 := hid hn16
    have hW0 : w1.heap.size ≤ W0.heap.size := o6.own.bel.size
    refine wp_iter_box (gf := 27) (lb := #[.pointer (some ⟨c + 1, 0, none⟩)]) rfl (enters_of Try.func27 (by kernel_rfl) rfl) hall
      (fun _ h => h.elim) (fun k h => by rcases h with h | h | h; omega; exact hFlt k ((hFA k).2 (.inl h)); exact hFlt k ((hFA k).2 (.inr (.inl h)))) (fun _ => rfl)
      (fun x g => [(13, .pointer (some ⟨g, 0, none⟩))]) (fun x g W => RowAt W g 32 (blkA (secOf S2.lasts x)) ∧ W0.heap.size + 2 ≤ g) ?hR
      (fun pre W => Side w1 W w.heap.size d F3 S2 [] [] ∧ ∃ v, RowAt W c 35 #[v] ∧ Was w1 W F3 v (pre.map fun i => secOf S2.lasts i) [w.heap.size, c, W0.heap.size, W0.heap.size + 1] ∧ ∀ g, v.ownBlock = some g → W0.heap.size + 2 ≤ g)
      (fun c pre W => False) ?hI ?hIx ⟨o6.drop (fun y hy => (by cases hy)), _, rc0, ⟨World.ownsRow_nil _ _ _ _, fun g hg => (by cases hg)⟩, fun g hg => (by cases hg)⟩ ?assign ?body ?done ?stop
    case hR =>
      rintro x g W W' ⟨h1, h2⟩ hk
      exact ⟨hk.row h1 (fun h => by rcases h with h | h | h; exact h.elim; all_goals omega), h2⟩
    case hI =>
      rintro pre W W' ⟨h1, v, h2, h3, h4⟩ hk
      refine ⟨h1.kept hk (fun k h => ?_) (fun k hF h => ?_) (fun x hx => (by cases hx)) (fun x hx => (by cases hx)), v, hk.row h2 (fun h => ?_), h3.kept hk (fun g hg h => ?_), h4⟩
      · rcases h with h | h | h; exact h.elim; all_goals omega
      · have := hFlt k hF; rcases h with h | h | h; exact h.elim; all_goals omega
      · rcases h with h | h | h; exact h.elim; all_goals omega
      · have := h4 g hg; rcases h with h | h | h; exact h.elim; all_goals omega
    case hIx => rintro c' pre W W' h _; exact h
    case stop => rintro c' pre x post W _ _ h; exact h.elim
    case assign =>
      intro l pre x W K hs hi hK
      have hz := zero_block
      have hzs := zeroBlk_size
      have hbs := blkA_size (secOf S2.lasts x)
      have hst := cells_block _ _ _ (blkA (secOf S2.lasts x)) (RowAt.new W zeroBlk 32) zeroBlk_size (blkA_size _) (blkA_one _)
      rw [World.setRow_alloc_new] at hst
      have hfin := hid (hK W.heap.size (W.alloc (.cells (blkA (secOf S2.lasts x)) 32)) (Kept.of_below (below_al (Below.refl _ _) _)) (by
        obtain ⟨h1, v, h2, h3, h4⟩ := hi
        exact ⟨h1.below (below_al (Below.refl _ _) _), v, h2.alloc _, h3.below (below_al (Below.refl _ _) _), h4⟩) ⟨RowAt.new _ _ _, hs⟩)
      clear hK hi
      simp only [encB] at hfin ⊢
      rw [fold2] at hfin ⊢
      simp only [putAll, List.foldl_cons, List.foldl_nil, List.setIfInBounds_toArray, List.set_cons_zero, List.set_cons_succ] at hfin ⊢
      gi_wp2
      exact hfin.out
    case body =>
      rintro pre x post g W hx hs _ ⟨h1, v, h2, h3, h4⟩ ⟨h5, h6⟩
      simp only [encB]
      rw [fold2]
      simp only [putAll, List.foldl_cons, List.foldl_nil, List.setIfInBounds_toArray, List.set_cons_zero, List.set_cons_succ]
      have c11 := h2.cell (j := 0) rfl
      have hlen : pre.length ≤ 16 := by
        have h7 := congrArg List.length hx
        simp at h7
        omega
      have hib : (Try.prog.info? 32).map (·.size) = some (blkA (secOf S2.lasts x)).size := infoBlkCs _
      obtain ⟨B, hB⟩ : ∃ B, B = secOf S2.lasts x := ⟨_, rfl⟩
      rw [← hB] at h5 hib
      replace h1 := hid h1
      replace h2 := hid h2
      replace h3 := hid h3
      replace h4 := hid h4
      replace h5 := hid h5
      replace hB := hid hB
      replace hib := hid hib
      gi_wp2_with (first
        | (with_reducible refine at_opIn (some 47) (.load 32 (.tmp 13)) ?_
           refine wpListIn_load_row (o := ⟨some 47, _, _, _, _, _⟩) rfl 32 (.tmp 13) rfl g rfl 32 (blkA B) (0, 0) _ h5.out Try.underlying32 rfl hib.out ?_)
        | (with_reducible refine at_opIn (some 48) (.buildSlice 35 1 #[(0, .tmp 47)]) ?_
           refine wpListIn_step_round (o := ⟨some 48, _, _, _, _, _⟩) rfl (by intro c h; cases h) (OpR.of_ok (opOk_buildSlice 35 32 1 _ rfl #[(0, .agg (blkA B))] (by simp only [List.map_toArray, List.map_cons, List.map_nil]; rfl) _ (buildSlice_blk B W) (Ψ := fun u W' => u = .slice (some ⟨W.heap.size, 0, none⟩) 1 1 ∧ W' = W.alloc (.cells (blkA B) 32)) ⟨rfl, rfl⟩)) ?_
           rintro _ _ ⟨_, rfl, rfl⟩)
        | (with_reducible refine at_opIn (some 49) (.call { callee := .builtin .append, args := #[.tmp 46, .tmp 48], argTypes := #[35, 35] }) ?_
           have hbl := below_al (Below.refl W.heap.size W) (.cells (blkA B) 32)
           refine wpListIn_step_round (o := ⟨some 49, _, _, _, _, _⟩) rfl (by intro c h; cases h) (opR_append_blk (.tmp 46) (.tmp 48) rfl rfl rfl (h3.out.below hbl).bk (RowAt.new _ _ _) (by rw [List.length_map]; omega)) ?_
           rintro v' W2 ⟨k1, k2, k3, q', cp, hv'⟩
           have rc2 := k2.row (h2.out.alloc (.cells (blkA B) 32)) (fun h => by have := h4.out _ h; omega)
           have f11 := rc2.free 0
           have c11b := rc2.cell (j := 0) rfl
           subst hv'
           replace rc2 := hid rc2
           replace k1 := hid k1
           replace k2 := hid k2
           replace k3 := hid k3
           clear c11 hbl))
      obtain ⟨v', hv'⟩ : ∃ v', v' = Value.slice q' (pre.length + 1) cp := ⟨_, rfl⟩
      have hFd := (hFA d).2 (.inl rfl)
      have hFL := (hFA L).2 (.inr (.inl rfl))
      have hdlt := hFlt d hFd
      have hLlt := hFlt L hFL
      have hcd : c ≠ d := fun e => hcF (by rw [e]; exact hFd)
      have hcL : c ≠ L := fun e => hcF (by rw [e]; exact hFL)
      have hk1 := k1.out
      have hk3 := k3.out
      simp only [List.length_map] at hk1 hk3
      have hk2 : Kept (fun k => v.ownBlock = some k) W W2 := (Kept.of_below (below_al (Below.refl _ _) _)).trans k2.out
      have hkc : Kept (fun k => k = c) W2 (W2.setCell ⟨c, 0, none⟩ (.slice q' (pre.length + 1) cp)) := (Kept.refl (· = c) _).setCell ⟨c, 0, none⟩ (.inl rfl) _
      have hkA : Kept (fun k => k = c ∨ v.ownBlock = some k) W (W2.setCell ⟨c, 0, none⟩ (.slice q' (pre.length + 1) cp)) := (hk2.mono fun k _ h => .inr h).trans (hkc.mono fun k _ h => .inl h)
      have hg1 : ∀ g', (Value.slice q' (pre.length + 1) cp).ownBlock = some g' → c + 4 ≤ g' ∧ w1.heap.size ≤ g' ∧ ¬ F3 g' := by
        intro g' hg'
        rcases hk3 g' hg' with h | h
        · exact ⟨by have := h4.out g' h; omega, (h3.out.ne g' h).1, (h3.out.ne g' h).2.1⟩
        · have : (W.alloc (.cells (blkA B) 32)).heap.size = W.heap.size + 1 := by simp
          rw [this] at h
          exact ⟨by omega, by omega, fun hF => by have := hFlt _ hF; omega⟩
      refine ⟨hkA.mono fun k _ h => ?_, h1.out.kept hkA (fun k h => ?_) (fun k hF h => ?_) (fun x hx => (by cases hx)) (fun x hx => (by cases hx)), _, (rc2.out.set 0 _).eqA (A' := #[.slice q' (pre.length + 1) cp]) (by simp), ⟨?_, fun g' hg' => ?_⟩, fun g' hg' => (hg1 g' hg').1⟩
      · rintro (h' | h' | h' | h')
        · rcases h with h | h
          · rcases h' with h' | h' <;> omega
          · have := h4.out _ h; rcases h' with h' | h' <;> omega
        · rcases h with h | h
          · omega
          · have := h4.out _ h; omega
        · rcases h with h | h
          · exact hcd (by omega)
          · have := h4.out _ h; omega
        · rcases h with h | h
          · exact hcL (by omega)
          · have := h4.out _ h; omega
      · rcases h with h | h
        · omega
        · exact (h3.out.ne _ h).1
      · rcases h with h | h
        · exact hcF (by rw [← h]; exact hF)
        · exact (h3.out.ne _ h).2.1 hF
      · rw [List.map_append, List.map_singleton, ← hB.out]
        exact IsBlks.kept hk1 hkc (fun g' hg' => by have := (hg1 g' hg').1; omega)
      · refine ⟨(hg1 g' hg').2.1, (hg1 g' hg').2.2, ?_⟩
        have := (hg1 g' hg').1
        simp only [List.mem_cons, List.not_mem_nil, or_false]
        omega
    case done =>
      rintro W hs ⟨h1, v, h2, h3, h4⟩ hmk
      have hFm : ¬ F3 W0.heap.size := fun hF => by have := hFlt _ hF; omega
      have o7 := ((h1.markAdd hmk (by omega) hFm).rowAdd h2 hcw hcF)
      have hbsl : ((List.range 16).map fun i => secOf S2.lasts i).length = 16 := by simp
      obtain ⟨bs, hbs⟩ : ∃ bs, bs = (List.range 16).map fun i => secOf S2.lasts i := ⟨_, rfl⟩
      rw [← hbs] at h3 hbsl
      have hw := h3
      have hok2 : S2.Ok := by rw [hS2.out]; exact (hcalm.out.crash a1).ok (by have := hql.out; omega)
      have hcalm2 := (hcalm.out.crash a1).crash a2
      rw [← hS2.out] at hcalm2
      obtain ⟨S3, hS3⟩ : ∃ S3, S3 = S2.crash a2 := ⟨_, rfl⟩
      rw [← hS3] at hcalm2
      obtain ⟨S4, hS4⟩ : ∃ S4, S4 = (S3.write 3 (fillB 1)).2 := ⟨_, rfl⟩
      have hcalm4 := hcalm2.write 3 (fillB 1)
      rw [← hS4] at hcalm4
      have hm40 : S4.mayE 0 = 0 := hcalm4.mayE 0 (by decide)
      have hsy : S4.sync = (0, { S4.stepped with lasts := allL S4.hangs S4.lasts, hangs := [] }) := by unfold DS.sync; rw [if_neg (by rw [hm40]; decide), if_neg (by rw [hcalm4.f]; decide)]
      obtain ⟨S5, hS5⟩ : ∃ S5, S5 = (S4.sync).2 := ⟨_, rfl⟩
      have hcalm5 := hcalm4.sync
      rw [← hS5] at hcalm5
      have hsy1 : (S4.sync).1 = 0 := by rw [hsy]
      have hkk : 0 + qs.length + 1 + 1 ≤ 1000 := by have := hql.out; omega
      have hok3 := hid (hcalm2.ok (by omega))
      have hok4 := hid (hcalm4.ok (by omega))
      have hok5 := hid (hcalm5.ok (by omega))
      replace hok2 := hid hok2
      replace o7 := hid o7
      replace hw := hid hw
      replace hbs := hid hbs
      replace hbsl := hid hbsl
      replace hS3 := hid hS3
      replace hS4 := hid hS4
      replace hS5 := hid hS5
      replace hsy := hid hsy
      replace hsy1 := hid hsy1
      replace hcalm2 := hid hcalm2
      replace hcalm4 := hid hcalm4
      replace hcalm5 := hid hcalm5
      replace hm40 := hid hm40
      have LF := hid fill_any
      clear h1 h2 h3 h4 hmk hdA hall rbx rc0 o6 hFA
      gi_wp2_with (first
        | (refine ⟨trivial, rfl, ?_⟩; gi_at_call 11; refine (callsIn_wide.2 (crash_any o7.out.own.dk hok2.out a2 hw2.out)).mono ?_; rintro e w5 ⟨rfl, ht⟩
           rw [← hS3.out] at ht
           obtain ⟨F4, o8, hk8, hF8⟩ := o7.out.to ht
           have hw8 := hid (hw.out.to hk8 hF8)
           replace o8 := hid o8
           clear ht o7 hw hk8 hF8)
        | (refine ⟨trivial, rfl, ?_⟩; gi_at_call 10; refine (callsIn_wide.2 (LF.out 1 _)).mono ?_; rintro e w6 ⟨rfl, hB6⟩
           have o9 := hid (o8.out.below hB6)
           have hw9 := hid (hw8.out.below hB6)
           clear o8 hw8 hB6)
        | (refine ⟨trivial, rfl, ?_⟩; gi_at_call 9; refine (callsIn_wide.2 (write_any o9.out.own.dk hok3.out 3 (fillB 1))).mono ?_; rintro e w7 ⟨rfl, ht⟩
           rw [← hS4.out] at ht
           obtain ⟨F5, o10, hk10, hF10⟩ := o9.out.to ht
           have hw10 := hid (hw9.out.to hk10 hF10)
           replace o10 := hid o10
           clear ht o9 hw9 hk10 hF10)
        | (refine ⟨trivial, rfl, ?_⟩; gi_at_call 13; refine (callsIn_wide.2 (sync_any o10.out.own.dk hok4.out)).mono ?_; rintro e w8 ⟨rfl, ht⟩
           rw [← hS5.out] at ht
           obtain ⟨F6, o11, hk11, hF11⟩ := o10.out.to ht
           have hw11 := hid (hw10.out.to hk11 hF11)
           rw [hsy1.out]
           replace o11 := hid o11
           clear ht o10 hw10 hk11 hF11))
      obtain ⟨q, cp, hvv, hq⟩ := hw11.out.bk.shape
      rw [hbsl.out] at hvv hq
      obtain ⟨gw, rfl, hgw⟩ := hq (by decide)
      have rcw := hid (o11.out.row _ (.head _)).1
      have hbk := hid hw11.out.bk
      have hgw' := hid hgw
      have hvv' := hid hvv
      have hgne := hw11.out.ne gw hgw
      clear hvv hq hgw
      refine crashes_r20 rcw hbk hgw' hbsl hvv' _ _ _ _ _ _ _ _ _ _ _ _ _ _ _ _ _ _ _ _ _ _ _ _ _ _ _ _ _ _ _ _ _ _ _ _ _ _ _ _ _ _ _ _ _ _ _ _ _ _ _ _ _ _ _ _ _ _ _ _ _ _ _ _ _ _ _ _ _ _ _ _ _ _ _ _ _ ?_
      rintro v59 v60 v61 w9 hbk9 hk9
      have o12 := o11.out.kept hk9 (fun k h => by rw [h]; exact hgne.1) (fun k hF h => hgne.2.1 (by rw [← h]; exact hF)) (fun x hx h => by
        obtain rfl : x = (c, 35, #[v]) := by simpa using hx
        exact hgne.2.2 (by rw [← h]; simp)) (fun m hm h => by
        obtain rfl : m = W0.heap.size := by simpa using hm
        exact hgne.2.2 (by rw [← h]; simp))
      have hw12 : Was w1 w9 F6 v (bs.set 3 (fillB 1)) [w.heap.size, c, W0.heap.size, W0.heap.size + 1] := ⟨hbk9, hw11.out.ne⟩
      replace o12 := hid o12
      replace hw12 := hid hw12
      replace hgne := hid hgne
      clear rcw hbk hbk9 hk9 o11 hw11
      have LG := hid all_any
      gi_wp2_with (first
        | (refine ⟨trivial, rfl, ?_⟩; gi_at_call 11; refine (callsIn_wide.2 (crash_any o12.out.own.dk hok5.out a2 hw2.out)).mono ?_; rintro e w10 ⟨rfl, ht⟩
           obtain ⟨F7, o13, hk13, hF13⟩ := o12.out.to ht
           have hw13 := hid (hw12.out.to hk13 hF13)
           replace o13 := hid o13
           clear ht o12 hw12 hk13 hF13)
        | (refine ⟨trivial, rfl, ?_⟩; gi_at_call 12; refine (callsIn_wide.2 (LG.out _ _)).mono ?_; rintro e w11 ⟨rfl, rfl⟩
           have o14 := hid (o13.out.add #[.pointer (some ⟨d, 0, none⟩)] 24)
           have hw14 := hid (hw13.out.below (below_al (Below.refl _ _) (.cells #[.pointer (some ⟨d, 0, none⟩)] 24)))
           clear hw13))
      have o15 := o14.out
      have hw15 := hw14.out
      obtain ⟨bx, hbx⟩ : ∃ bx, bx = w10.heap.size := ⟨_, rfl⟩
      rw [← hbx] at o15 ⊢
      generalize hW9 : World.alloc w10 _ = W9 at o15 hw15 ⊢
      have hW9s : W9.heap.size = bx + 1 := by rw [← hW9, hbx]; simp
      clear o14 hw14 hW9 o13
      replace hbx := hid hbx
      obtain ⟨S6, hS6⟩ : ∃ S6, S6 = S5.crash a2 := ⟨_, rfl⟩
      rw [← hS6] at o15
      have hplain : ∀ x, x < 16 → ∃ B', (bs.set 3 (fillB 1))[x]? = some B' ∧ blkA B' = blkA (secOf S6.lasts x) := by
        intro x hx
        have := crashes_plain (S2 := S2) (S3 := S3) (S4 := S4) (S5 := S5) (by rw [hS2.out]; exact hcalm.out.crash a1) (by rw [hS2.out]; rfl) a2 hS3.out hS4.out hS5.out x hx
        rw [← hbs.out, ← hS6] at this
        exact this
      have hn6 : S6.n = 16 := by rw [hS6, (hcalm5.out.crash a2).n]
      have rbx2 := (o15.row _ (.head _)).1
      obtain ⟨L2, M2, v2, hdB, hFB⟩ := id o15.own.dk
      have hall2 := all_on hdB rbx2
      rw [hn6] at hall2
      have hFlt2 := o15.own.dk.lt
      have rcw2 := (o15.row _ (.tail _ (.head _))).1
      have hc9 := rcw2.lt
      have hm9 := (Array.getElem?_eq_some_iff.1 (o15.mark _ (.head _)).1).1
      have hvlt := hw15.lt
      have hw9 : w1.heap.size ≤ W9.heap.size := o15.own.bel.size
      replace hS6 := hid hS6
      replace hplain := hid hplain
      replace hn6 := hid hn6
      replace hvv' := hvv'
      refine wp_iter_box (gf := 27) (lb := #[.pointer (some ⟨bx, 0, none⟩)]) rfl (enters_of Try.func27 (by kernel_rfl) rfl) hall2
        (fun _ h => h.elim) (fun k h => by rcases h with h | h | h; omega; exact hFlt2 k ((hFB k).2 (.inl h)); exact hFlt2 k ((hFB k).2 (.inr (.inl h)))) (fun _ => rfl)
        (fun x g => [(14, .int .i64 (x : Nat)), (15, .pointer (some ⟨g, 0, none⟩))]) (fun x g W => RowAt W g 32 (blkA (secOf S6.lasts x)) ∧ W9.heap.size + 2 ≤ g) ?kR
        (fun pre W => Side w1 W w.heap.size d F7 S6 [(c, 35, #[v])] [W0.heap.size] ∧ Was w1 W F7 v (bs.set 3 (fillB 1)) [w.heap.size, c, W0.heap.size, W0.heap.size + 1])
        (fun c pre W => False) ?kI ?kIx ⟨o15.drop (fun y hy => .tail _ hy), hw15⟩ ?kassign ?kbody ?kdone ?kstop
      case kR =>
        rintro x g W W' ⟨h1, h2⟩ hk
        exact ⟨hk.row h1 (fun h => by rcases h with h | h | h; exact h.elim; all_goals omega), h2⟩
      case kI =>
        rintro pre W W' ⟨h1, h2⟩ hk
        refine ⟨h1.kept hk (fun k h => ?_) (fun k hF h => ?_) (fun x hx h => ?_) (fun m hm h => ?_), h2.kept hk (fun g hg h => ?_)⟩
        · rcases h with h | h | h; exact h.elim; all_goals omega
        · have := hFlt2 k hF; rcases h with h | h | h; exact h.elim; all_goals omega
        · obtain rfl : x = (c, 35, #[v]) := by simpa using hx
          rcases h with h | h | h; exact h.elim; all_goals (dsimp only at h; omega)
        · obtain rfl : m = W0.heap.size := by simpa using hm
          rcases h with h | h | h; exact h.elim; all_goals omega
        · have := hvlt g hg; rcases h with h | h | h; exact h.elim; all_goals omega
      case kIx => rintro c' pre W W' h _; exact h
      case kstop => rintro c' pre x post W _ _ h; exact h.elim
      case kassign =>
        intro l pre x W K hs hi hK
        have hz := zero_block
        have hzs := zeroBlk_size
        have hbs2 := blkA_size (secOf S6.lasts x)
        have hst := cells_block _ _ _ (blkA (secOf S6.lasts x)) (RowAt.new W zeroBlk 32) zeroBlk_size (blkA_size _) (blkA_one _)
        rw [World.setRow_alloc_new] at hst
        have hfin := hid (hK W.heap.size (W.alloc (.cells (blkA (secOf S6.lasts x)) 32)) (Kept.of_below (below_al (Below.refl _ _) _)) ⟨hi.1.below (below_al (Below.refl _ _) _), hi.2.below (below_al (Below.refl _ _) _)⟩ ⟨RowAt.new _ _ _, hs⟩)
        clear hK hi
        simp only [encB] at hfin ⊢
        rw [fold2] at hfin ⊢
        simp only [putAll, List.foldl_cons, List.foldl_nil, List.setIfInBounds_toArray, List.set_cons_zero, List.set_cons_succ] at hfin ⊢
        gi_wp2
        exact hfin.out
      case kbody =>
        rintro pre x post g W hx hs _ ⟨h1, h2⟩ ⟨h5, h6⟩
        have hx16 : x < 16 := by
          have : x ∈ List.range 16 := by rw [hx]; simp
          simpa using this
        obtain ⟨B', hB1, hB2⟩ := hplain.out x hx16
        simp only [encB]
        rw [fold2]
        simp only [putAll, List.foldl_cons, List.foldl_nil, List.setIfInBounds_toArray, List.set_cons_zero, List.set_cons_succ]
        have rcb := hid (h1.row _ (.head _)).1
        have hbk := hid h2.bk
        replace hB1 := hid hB1
        replace hB2 := hid hB2
        replace h5 := hid h5
        replace h1 := hid h1
        replace h2 := hid h2
        clear hx
        gi_wp2
        refine crashes_r25 rcb h5 hbk hgw' hB1 hB2 hx16 hvv' _ _ _ _ _ _ _ _ _ _ _ _ _ _ _ _ _ _ _ _ _ _ _ _ _ _ _ _ _ _ _ _ _ _ _ _ _ _ _ _ _ _ _ _ _ _ _ _ _ _ _ _ _ _ _ _ _ _ _ _ _ _ _ _ _ _ _ _ _ _ _ _ _ _ _ ?_
        intro v69 v70 v71 v72 v73 W' hBW
        have i1 := hid (h1.out.below hBW)
        have i2 := hid (h2.out.below hBW)
        have i3 : Hid (Kept (fun k => ¬ (twoOf W9.heap.size k ∨ (k = bx ∨ k = d ∨ k = L2))) W W') := hid (Kept.of_below hBW)
        clear hBW
        gi_wp2
        exact ⟨i3.out, i1.out, i2.out⟩
      case kdone =>
        rintro W hs ⟨h1, h2⟩ hmk
        have hok6 : S6.Ok := by rw [hS6.out]; exact (hcalm5.out.crash a2).ok (by omega)
        have hh6 : S6.hangs.length = 0 := by rw [hS6.out]; rfl
        have hhg := hangs_any h1.own.dk hok6
        rw [hh6] at hhg
        have f6 := h1.rr.free 0
        have c6 := h1.rr.cell (j := 0) rfl
        have hm1 := (h1.mark _ (.head _)).1
        replace hhg := hid hhg
        replace hh6 := hid hh6
        replace hmk := hid hmk
        replace hm1 := hid hm1
        replace h1 := hid h1
        replace h2 := hid h2
        gi_wp2_with (refine ⟨trivial, rfl, ?_⟩; gi_at_call 14; refine (callsIn_wide.2 hhg.out).mono ?_; rintro e w12 ⟨rfl, rfl⟩)
        have r4 := (h1.out.rr.set 0 (.bool true)).eqA (A' := #[.bool true]) (by simp)
        have hrl := h1.out.rlt
        have d1 := defer_cell hm1.out ⟨w.heap.size, 0, none⟩ (.bool true) (by show W0.heap.size ≠ w.heap.size; omega)
        have d2 := defer_cell hmk.out ⟨w.heap.size, 0, none⟩ (.bool true) (by show W9.heap.size ≠ w.heap.size; omega)
        have hbl := (below_cat h1.out.own.bel b1.out).setCell (p := ⟨w.heap.size, 0, none⟩) (Nat.le_refl _) (.bool true)
        generalize World.setCell W ⟨w.heap.size, 0, none⟩ (.bool true) = Z at r4 d1 d2 hbl ⊢
        rw [hW0s] at d1
        rw [hW9s] at d2
        have r5 : RowAt ((Z.putObj (bx + 1) (.deferred none)).putObj (c + 2) (.deferred none)) w.heap.size 4 #[.bool true] := (World.putObj_heap_other (by omega)).trans ((World.putObj_heap_other (by omega)).trans r4)
        refine leave_two d1 d2 (by omega) ⟨_, results_box rfl _ _ w.heap.size (.bool true) rfl (r5.cell (j := 0) rfl) Try.underlying4, rfl, ?_⟩
        exact below_kept hbl (((Kept.refl (fun k => k = bx + 1 ∨ k = c + 2) _).putObj _ _ (.inl (.inl rfl))).putObj _ _ (.inl (.inr rfl))) (Nat.le_refl _) (fun k hk => by omega)
theorem crashes_walk (a0 : Option Addr) (len cap : Nat) (rs : List (List Value)) (a1 a2 : Int) (w : World) (h0 : IsRecs K3 w a0 len rs) (h1 : (Lit.int .i64 a1).wf = true) (h2 : (Lit.int .i64 a2).wf = true) :
    Calls Try.prog 3 #[.slice a0 len cap, .int .i64 a1, .int .i64 a2] w fun e w' => e = .returned (.bool true) ∧ Below w.heap.size w w' := by
  by_cases hl : 30 < len
  · exact crashes_big a0 len cap a1 a2 hl w
  · obtain ⟨qs, hq⟩ := acts_of h0
    have b1 := bounds_i64 h1
    have b2 := bounds_i64 h2
    exact crashes_core a0 len cap a1 a2 (by omega) qs w hq ⟨by omega, by omega⟩ ⟨by omega, by omega⟩
end Go.Proofs.Ytaofpeajfgcjcaa
