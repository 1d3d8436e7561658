/- Disk: the walk of DiskKeeps. Printed by wip/tools/mkDkZ.py. -/
import Derived.Test.YtaofpeajfgcjcaaDkY
namespace Go.Proofs.Ytaofpeajfgcjcaa
open Go Go.RowKit Go.Maps
set_option linter.unusedSimpArgs false
set_option linter.unusedVariables false

attribute [local go_sem] Oper.semAt_some
theorem keeps_big (a0 a1 : Option Addr) (len cap len1 cap1 : Nat) (a2 : Int) (hm0 : len ≤ 140737488355328) (hm1 : len1 ≤ 140737488355328) (hl : 40 < len + len1) (w : World) :
    Calls Try.prog 4 #[.slice a0 len cap, .slice a1 len1 cap1, .int .i64 a2] w fun e w' => e = .returned (.bool true) ∧ Below w.heap.size w w' := by
  refine (callsIn_wide (n := 0)).1 ?_
  refine callsIn_of_wp_marks Try.func4 rfl trivial ?_
  simp only [Try.ntmps4, List.size_toArray, List.length_cons, List.length_nil, Nat.reduceAdd, Nat.reduceSub, Array.replicate_succ, Array.replicate_zero, List.push_toArray, List.append_toArray, List.nil_append, List.cons_append]
  have LA := hid awake_any
  have hwr : IntKind.i64.wrap ((len : Int) + (len1 : Int)) = (len : Int) + (len1 : Int) := by rw [IntKind.wrap_i64]; omega
  have g1 : decide ((40 : Int) < (len : Int) + (len1 : Int)) = true := decide_eq_true (by omega)
  gi_wp2_with (refine ⟨trivial, rfl, ?_⟩; gi_at_call 7; refine (callsIn_wide.2 (LA.out _)).mono ?_; rintro e w1 ⟨rfl, hB⟩
               have r0 := (RowAt.new w #[.bool false] 4).below hB (by simp only [World.size_alloc]; omega)
               have b1 := hid (below_cat hB (below_al (Below.refl w.heap.size w) _))
               have f0 := r0.free 0
               have c0 := r0.cell (j := 0) rfl
               replace r0 := hid r0
               clear hB)
  have r2 := (r0.out.set 0 (.bool true)).eqA (A' := #[.bool true]) (by simp)
  refine leave_none ⟨_, results_box rfl _ _ w.heap.size (.bool true) rfl (r2.cell (j := 0) rfl) Try.underlying4, rfl, ?_⟩
  exact b1.out.setCell (Nat.le_refl _) _
set_option maxRecDepth 1000000 in
set_option maxHeartbeats 64000000 in
theorem keeps_core (a0 a1 : Option Addr) (len cap len1 cap1 : Nat) (a2 : Int) (hl : len + len1 ≤ 40) (qs ts : List ActT) (w : World) (hq : IsActs w a0 len qs) (hq2 : IsActs w a1 len1 ts) (hw2 : keepOk a2) :
    Calls Try.prog 4 #[.slice a0 len cap, .slice a1 len1 cap1, .int .i64 a2] w fun e w' => e = .returned (.bool true) ∧ Below w.heap.size w w' := by
  refine (callsIn_wide (n := 0)).1 ?_
  refine callsIn_of_wp_marks Try.func4 rfl trivial ?_
  simp only [Try.ntmps4, List.size_toArray, List.length_cons, List.length_nil, Nat.reduceAdd, Nat.reduceSub, Array.replicate_succ, Array.replicate_zero, List.push_toArray, List.append_toArray, List.nil_append, List.cons_append]
  have LA := hid awake_any
  have LN := hid (new_dk 16 (by decide) (by decide))
  have hwr : IntKind.i64.wrap ((len : Int) + (len1 : Int)) = (len : Int) + (len1 : Int) := by rw [IntKind.wrap_i64]; omega
  have g1 : decide ((40 : Int) < (len : Int) + (len1 : Int)) = false := decide_eq_false (by omega)
  replace hq := hid hq
  replace hq2 := hid hq2
  replace hw2 := hid hw2
  gi_wp2_with (first
    | (refine ⟨trivial, rfl, ?_⟩; gi_at_call 7; refine (callsIn_wide.2 (LA.out _)).mono ?_; rintro e w1 ⟨rfl, hB⟩
       have r0 := hid ((RowAt.new w #[.bool false] 4).below hB (by simp only [World.size_alloc]; omega))
       have b1 := hid (below_cat hB (below_al (Below.refl w.heap.size w) _))
       have s1 : w.heap.size < w1.heap.size := by have := hB.size; simp at this; omega
       clear hB)
    | (refine ⟨trivial, rfl, ?_⟩; gi_at_call 8; refine (callsIn_wide.2 (LN.out _)).mono ?_; rintro e w2 ⟨d, F, rfl, hd2, hB2, hF2⟩
       have o0 : Side w1 w2 w.heap.size d F (DS.new 16) [] [] := ⟨⟨hd2, hB2, hF2⟩, r0.out.below hB2 r0.out.lt, s1, fun x hx => (by cases hx), fun x hx => (by cases hx)⟩
       replace o0 := hid o0
       clear hd2 hB2 hF2))
  have hq1 := hid (hq.out.below b1.out)
  have hq3 := hid (hq2.out.below b1.out)
  clear hwr g1
  refine wpIn_loop_f (σ := Nat) (fun i f => #[.slice a0 len cap, .slice a1 len1 cap1, .int .i64 a2, f 3, f 4, f 5, .pointer (some ⟨w.heap.size, 0, none⟩), .pointer (some ⟨d, 0, none⟩), f 8, f 9, f 10, f 11, f 12, f 13, f 14, f 15, f 16, f 17, f 18, f 19, f 20, f 21, f 22, f 23, f 24, f 25, f 26, f 27, f 28, f 29, f 30, f 31, f 32, f 33, f 34, f 35, f 36, .slice a0 len cap, .int .i64 (len : Nat), .int .i64 (i : Nat), f 40, f 41, f 42, f 43, f 44, f 45, f 46, f 47, f 48, f 49, f 50, f 51, f 52, f 53, f 54, f 55, f 56, f 57, f 58, f 59, f 60, f 61, f 62, f 63, f 64, f 65, f 66, f 67, f 68, f 69, f 70, f 71, f 72, f 73, f 74, f 75, f 76, f 77, f 78, f 79, f 80, f 81, f 82, f 83, f 84, f 85, f 86, f 87, f 88, f 89, f 90, f 91, f 92, f 93, f 94, f 95, f 96, f 97, f 98, f 99, f 100, f 101, f 102, f 103, f 104, f 105, f 106, f 107, f 108, f 109, f 110, f 111, f 112, f 113, f 114, f 115, f 116, f 117, f 118, f 119, f 120, f 121, f 122, f 123, f 124, f 125, f 126, f 127, f 128, f 129, f 130, f 131, f 132, f 133, f 134]) (fun i V => i ≤ len ∧ Hid (∃ F', Side w1 V w.heap.size d F' ((DS.new 16).runW (qs.take i)) [] [])) (fun i => len - i) 0 [] rfl rfl ⟨Nat.zero_le _, hid ⟨F, o0.out⟩⟩ ?_
  rintro i f V ⟨hi, ho⟩ K hKK
  dsimp only at hi ho hKK ⊢
  replace hKK := hid hKK
  clear o0 LN
  obtain ⟨F', o1⟩ := ho.out
  clear ho
  have hcalm := (DS.Calm.new 16).runW (qs.take i)
  have hql := hq1.out.len
  have htl : (qs.take i).length ≤ 40 := by rw [List.length_take]; omega
  have hok := hid (hcalm.ok (by omega))
  replace hcalm := hid hcalm
  replace hql := hid hql
  replace htl := hid htl
  by_cases hlt : i < len
  · have t1 : decide ((i : Int) < (len : Int)) = true := decide_eq_true (by omega)
    have t2 : decide (i < len) = true := decide_eq_true hlt
    have i1 : (0 : Int) ≤ (i : Int) := by omega
    have i2 : (i : Int) < (len : Int) := by omega
    have hadd : IntKind.i64.wrap ((i : Int) + 1) = ((i + 1 : Nat) : Int) := by rw [IntKind.wrap_i64]; omega
    obtain ⟨q, hqi⟩ : ∃ q, qs[i]? = some q := ⟨_, List.getElem?_eq_getElem (by rw [hql.out]; exact hlt)⟩
    obtain ⟨hqo, x, rfl, hcq⟩ := (hq1.out.below (o1.own.bel)).at hqi
    have hia : (Try.prog.info? 29).map (·.size) = some (actV q).length := by kernel_rfl
    have hrun := runW_snoc (DS.new 16) (qs.take i) q
    have htk := take_snoc hqi
    rw [htk] at hrun
    replace o1 := hid o1
    replace hcq := hid hcq
    replace hia := hid hia
    replace hrun := hid hrun
    replace htk := hid htk
    replace hqi := hid hqi
    gi_wp2_with (with_reducible refine at_opIn (some 42) (.load 29 (.tmp 41)) ?_
                 refine wpListIn_load_addr (o := ⟨some 42, _, _, _, _, _⟩) rfl 29 (.tmp 41) rfl (x.add (i * 3)) rfl (actV q) _ hcq.out Try.underlying29 rfl hia.out ?_
                 simp only [actV])
    have o2 := o1.out.add #[.int .i64 q.1, .int .i64 q.2.1, .int .u8 (q.2.2.toNat : Nat)] 29
    have rb := hid (o2.row _ (.head _)).1
    have hdk := hid o2.own.dk
    replace o2 := hid o2
    refine keeps_r9 hdk hok rb _ _ _ _ _ _ _ _ _ _ _ _ _ _ _ _ _ _ _ _ _ _ _ _ _ _ _ _ _ _ _ _ _ _ _ _ _ _ _ _ _ _ _ _ _ _ _ _ _ _ _ _ _ _ _ _ _ _ _ _ _ _ _ _ _ _ _ _ _ _ _ _ _ _ _ _ _ _ _ _ _ _ _ _ _ _ _ _ _ _ _ _ _ _ _ _ _ _ _ _ _ _ _ _ _ _ _ _ _ _ _ _ _ _ _ _ _ _ _ _ _ _ _ _ _ _ _ _ _ _ _ _ _ ?_
    rintro v43 v44 v45 v46 v47 v48 v49 V2 ⟨F2, hd2, hF2⟩ hk2
    obtain ⟨F3, o3, _, _⟩ := o2.out.to ⟨F2, hd2, hk2, hF2⟩
    rw [← hrun.out] at o3
    have o4 : Hid (∃ F', Side w1 V2 w.heap.size d F' ((DS.new 16).runW (qs.take (i + 1))) [] []) := hid ⟨F3, o3.drop (ys := []) (fun y hy => (by cases hy))⟩
    clear o3 hd2 hF2 hk2 rb hdk o2 hcq hia
    gi_wp2
    exact hKK.out (i + 1) _ _ rfl (by omega) ⟨hlt, o4⟩
  · obtain rfl : i = len := by omega
    have t1 : decide ((i : Int) < (i : Int)) = false := decide_eq_false (by omega)
    have ht : qs.take i = qs := List.take_of_length_le (by rw [hql.out]; exact Nat.le_refl _)
    rw [ht] at o1 hcalm hok
    clear hKK ht
    obtain ⟨S1, hS1⟩ : ∃ S1, S1 = (DS.new 16).runW qs := ⟨_, rfl⟩
    rw [← hS1] at o1 hcalm hok
    replace hS1 := hid hS1
    replace o1 := hid o1
    have LF := hid all_any
    obtain ⟨S2, hS2⟩ : ∃ S2, S2 = (S1.sync).2 := ⟨_, rfl⟩
    replace hS2 := hid hS2
    gi_wp2_with (first
      | (refine ⟨trivial, rfl, ?_⟩; gi_at_call 13; refine (callsIn_wide.2 (sync_any o1.out.own.dk hok.out)).mono ?_; rintro e w3 ⟨rfl, ht⟩
         rw [← hS2.out] at ht
         obtain ⟨F3, o3, _, _⟩ := o1.out.to ht
         have o4 := o3.add #[.slice none 0 0] 35
         replace o4 := hid o4
         clear ht o3)
      | (refine ⟨trivial, rfl, ?_⟩; gi_at_call 12; refine (callsIn_wide.2 (LF.out _ _)).mono ?_; rintro e w4 ⟨rfl, rfl⟩
         have o5 := hid (o4.out.add #[.pointer (some ⟨d, 0, none⟩)] 24)))
    obtain ⟨c, hc⟩ : ∃ c, c = w3.heap.size := ⟨_, rfl⟩
    have hbx : (w3.alloc (.cells #[.slice none 0 0] 35)).heap.size = c + 1 := by rw [hc]; simp
    have o6 := o5.out
    rw [hbx, ← hc] at o6
    generalize hW0 : World.alloc (World.alloc w3 _) _ = W0 at o6 ⊢
    have hW0s : W0.heap.size = c + 2 := by rw [← hW0, hc]; simp
    rw [← hc]
    clear o5 o4 hW0 hbx LF
    have rbx := (o6.row _ (.head _)).1
    have rc0 := (o6.row _ (.tail _ (.head _))).1
    have hcw := (o6.row _ (.tail _ (.head _))).2.1
    have hcF := (o6.row _ (.tail _ (.head _))).2.2
    obtain ⟨L, M, v0, hdA, hFA⟩ := id o6.own.dk
    have hall := all_on hdA rbx
    have hn16 : S2.n = 16 := by rw [hS2.out, hcalm.out.sync.n]
    rw [hn16] at hall
    have hFlt := o6.own.dk.lt
    have hcc := hid hc
    clear hc
    replace hn16 := hid hn16
    have hW0 : w1.heap.size ≤ W0.heap.size := o6.own.bel.size
    refine wp_iter_box (gf := 27) (lb := #[.pointer (some ⟨c + 1, 0, none⟩)]) rfl (enters_of Try.func27 (by kernel_rfl) rfl) hall
      (fun _ h => h.elim) (fun k h => by rcases h with h | h | h; omega; exact hFlt k ((hFA k).2 (.inl h)); exact hFlt k ((hFA k).2 (.inr (.inl h)))) (fun _ => rfl)
      (fun x g => [(13, .pointer (some ⟨g, 0, none⟩))]) (fun x g W => RowAt W g 32 (blkA (secOf S2.lasts x)) ∧ W0.heap.size + 2 ≤ g) ?hR
      (fun pre W => Side w1 W w.heap.size d F3 S2 [] [] ∧ ∃ v, RowAt W c 35 #[v] ∧ Was w1 W F3 v (pre.map fun i => secOf S2.lasts i) [w.heap.size, c, W0.heap.size, W0.heap.size + 1] ∧ ∀ g, v.ownBlock = some g → W0.heap.size + 2 ≤ g)
      (fun c pre W => False) ?hI ?hIx ⟨o6.drop (fun y hy => (by cases hy)), _, rc0, ⟨World.ownsRow_nil _ _ _ _, fun g hg => (by cases hg)⟩, fun g hg => (by cases hg)⟩ ?assign ?body ?done ?stop
    case hR =>
      rintro x g W W' ⟨h1, h2⟩ hk
      exact ⟨hk.row h1 (fun h => by rcases h with h | h | h; exact h.elim; all_goals omega), h2⟩
    case hI =>
      rintro pre W W' ⟨h1, v, h2, h3, h4⟩ hk
      refine ⟨h1.kept hk (fun k h => ?_) (fun k hF h => ?_) (fun x hx => (by cases hx)) (fun x hx => (by cases hx)), v, hk.row h2 (fun h => ?_), h3.kept hk (fun g hg h => ?_), h4⟩
      · rcases h with h | h | h; exact h.elim; all_goals omega
      · have := hFlt k hF; rcases h with h | h | h; exact h.elim; all_goals omega
      · rcases h with h | h | h; exact h.elim; all_goals omega
      · have := h4 g hg; rcases h with h | h | h; exact h.elim; all_goals omega
    case hIx => rintro c' pre W W' h _; exact h
    case stop => rintro c' pre x post W _ _ h; exact h.elim
    case assign =>
      intro l pre x W K hs hi hK
      have hz := zero_block
      have hzs := zeroBlk_size
      have hbs := blkA_size (secOf S2.lasts x)
      have hst := cells_block _ _ _ (blkA (secOf S2.lasts x)) (RowAt.new W zeroBlk 32) zeroBlk_size (blkA_size _) (blkA_one _)
      rw [World.setRow_alloc_new] at hst
      have hfin := hid (hK W.heap.size (W.alloc (.cells (blkA (secOf S2.lasts x)) 32)) (Kept.of_below (below_al (Below.refl _ _) _)) (by
        obtain ⟨h1, v, h2, h3, h4⟩ := hi
        exact ⟨h1.below (below_al (Below.refl _ _) _), v, h2.alloc _, h3.below (below_al (Below.refl _ _) _), h4⟩) ⟨RowAt.new _ _ _, hs⟩)
      clear hK hi
      simp only [encB] at hfin ⊢
      rw [fold2] at hfin ⊢
      simp only [putAll, List.foldl_cons, List.foldl_nil, List.setIfInBounds_toArray, List.set_cons_zero, List.set_cons_succ] at hfin ⊢
      gi_wp2
      exact hfin.out
    case body =>
      rintro pre x post g W hx hs _ ⟨h1, v, h2, h3, h4⟩ ⟨h5, h6⟩
      simp only [encB]
      rw [fold2]
      simp only [putAll, List.foldl_cons, List.foldl_nil, List.setIfInBounds_toArray, List.set_cons_zero, List.set_cons_succ]
      have c11 := h2.cell (j := 0) rfl
      have hlen : pre.length ≤ 16 := by
        have h7 := congrArg List.length hx
        simp at h7
        omega
      have hib : (Try.prog.info? 32).map (·.size) = some (blkA (secOf S2.lasts x)).size := infoBlkCs _
      obtain ⟨B, hB⟩ : ∃ B, B = secOf S2.lasts x := ⟨_, rfl⟩
      rw [← hB] at h5 hib
      replace h1 := hid h1
      replace h2 := hid h2
      replace h3 := hid h3
      replace h4 := hid h4
      replace h5 := hid h5
      replace hB := hid hB
      replace hib := hid hib
      gi_wp2_with (first
        | (with_reducible refine at_opIn (some 58) (.load 32 (.tmp 13)) ?_
           refine wpListIn_load_row (o := ⟨some 58, _, _, _, _, _⟩) rfl 32 (.tmp 13) rfl g rfl 32 (blkA B) (0, 0) _ h5.out Try.underlying32 rfl hib.out ?_)
        | (with_reducible refine at_opIn (some 59) (.buildSlice 35 1 #[(0, .tmp 58)]) ?_
           refine wpListIn_step_round (o := ⟨some 59, _, _, _, _, _⟩) rfl (by intro c h; cases h) (OpR.of_ok (opOk_buildSlice 35 32 1 _ rfl #[(0, .agg (blkA B))] (by simp only [List.map_toArray, List.map_cons, List.map_nil]; rfl) _ (buildSlice_blk B W) (Ψ := fun u W' => u = .slice (some ⟨W.heap.size, 0, none⟩) 1 1 ∧ W' = W.alloc (.cells (blkA B) 32)) ⟨rfl, rfl⟩)) ?_
           rintro _ _ ⟨_, rfl, rfl⟩)
        | (with_reducible refine at_opIn (some 60) (.call { callee := .builtin .append, args := #[.tmp 57, .tmp 59], argTypes := #[35, 35] }) ?_
           have hbl := below_al (Below.refl W.heap.size W) (.cells (blkA B) 32)
           refine wpListIn_step_round (o := ⟨some 60, _, _, _, _, _⟩) rfl (by intro c h; cases h) (opR_append_blk (.tmp 57) (.tmp 59) rfl rfl rfl (h3.out.below hbl).bk (RowAt.new _ _ _) (by rw [List.length_map]; omega)) ?_
           rintro v' W2 ⟨k1, k2, k3, q', cp, hv'⟩
           have rc2 := k2.row (h2.out.alloc (.cells (blkA B) 32)) (fun h => by have := h4.out _ h; omega)
           have f11 := rc2.free 0
           have c11b := rc2.cell (j := 0) rfl
           subst hv'
           replace rc2 := hid rc2
           replace k1 := hid k1
           replace k2 := hid k2
           replace k3 := hid k3
           clear c11 hbl))
      obtain ⟨v', hv'⟩ : ∃ v', v' = Value.slice q' (pre.length + 1) cp := ⟨_, rfl⟩
      have hFd := (hFA d).2 (.inl rfl)
      have hFL := (hFA L).2 (.inr (.inl rfl))
      have hdlt := hFlt d hFd
      have hLlt := hFlt L hFL
      have hcd : c ≠ d := fun e => hcF (by rw [e]; exact hFd)
      have hcL : c ≠ L := fun e => hcF (by rw [e]; exact hFL)
      have hk1 := k1.out
      have hk3 := k3.out
      simp only [List.length_map] at hk1 hk3
      have hk2 : Kept (fun k => v.ownBlock = some k) W W2 := (Kept.of_below (below_al (Below.refl _ _) _)).trans k2.out
      have hkc : Kept (fun k => k = c) W2 (W2.setCell ⟨c, 0, none⟩ (.slice q' (pre.length + 1) cp)) := (Kept.refl (· = c) _).setCell ⟨c, 0, none⟩ (.inl rfl) _
      have hkA : Kept (fun k => k = c ∨ v.ownBlock = some k) W (W2.setCell ⟨c, 0, none⟩ (.slice q' (pre.length + 1) cp)) := (hk2.mono fun k _ h => .inr h).trans (hkc.mono fun k _ h => .inl h)
      have hg1 : ∀ g', (Value.slice q' (pre.length + 1) cp).ownBlock = some g' → c + 4 ≤ g' ∧ w1.heap.size ≤ g' ∧ ¬ F3 g' := by
        intro g' hg'
        rcases hk3 g' hg' with h | h
        · exact ⟨by have := h4.out g' h; omega, (h3.out.ne g' h).1, (h3.out.ne g' h).2.1⟩
        · have : (W.alloc (.cells (blkA B) 32)).heap.size = W.heap.size + 1 := by simp
          rw [this] at h
          exact ⟨by omega, by omega, fun hF => by have := hFlt _ hF; omega⟩
      refine ⟨hkA.mono fun k _ h => ?_, h1.out.kept hkA (fun k h => ?_) (fun k hF h => ?_) (fun x hx => (by cases hx)) (fun x hx => (by cases hx)), _, (rc2.out.set 0 _).eqA (A' := #[.slice q' (pre.length + 1) cp]) (by simp), ⟨?_, fun g' hg' => ?_⟩, fun g' hg' => (hg1 g' hg').1⟩
      · rintro (h' | h' | h' | h')
        · rcases h with h | h
          · rcases h' with h' | h' <;> omega
          · have := h4.out _ h; rcases h' with h' | h' <;> omega
        · rcases h with h | h
          · omega
          · have := h4.out _ h; omega
        · rcases h with h | h
          · exact hcd (by omega)
          · have := h4.out _ h; omega
        · rcases h with h | h
          · exact hcL (by omega)
          · have := h4.out _ h; omega
      · rcases h with h | h
        · omega
        · exact (h3.out.ne _ h).1
      · rcases h with h | h
        · exact hcF (by rw [← h]; exact hF)
        · exact (h3.out.ne _ h).2.1 hF
      · rw [List.map_append, List.map_singleton, ← hB.out]
        exact IsBlks.kept hk1 hkc (fun g' hg' => by have := (hg1 g' hg').1; omega)
      · refine ⟨(hg1 g' hg').2.1, (hg1 g' hg').2.2, ?_⟩
        have := (hg1 g' hg').1
        simp only [List.mem_cons, List.not_mem_nil, or_false]
        omega
    case done =>
      rintro W hs ⟨h1, v, h2, h3, h4⟩ hmk
      have hFm : ¬ F3 W0.heap.size := fun hF => by have := hFlt _ hF; omega
      have o7 := ((h1.markAdd hmk (by omega) hFm).rowAdd h2 hcw hcF)
      have hbsl : ((List.range 16).map fun i => secOf S2.lasts i).length = 16 := by simp
      obtain ⟨bs, hbs⟩ : ∃ bs, bs = (List.range 16).map fun i => secOf S2.lasts i := ⟨_, rfl⟩
      rw [← hbs] at h3 hbsl
      have hw7 := h3
      have hcalm2 := hcalm.out.sync
      rw [← hS2.out] at hcalm2
      have hS2e : S2 = { S1.stepped with lasts := allL S1.hangs S1.lasts, hangs := [] } := by
        rw [hS2.out]; unfold DS.sync
        rw [if_neg (by have := hcalm.out.mayE 0 (by decide); simpa using this), if_neg (by rw [hcalm.out.f]; decide)]
      have hS2h : S2.hangs = [] := by rw [hS2e]
      have hz0 : (S2.runW (ts.take 0)).hangs.length = 0 := by show S2.hangs.length = 0; rw [hS2h]; rfl
      have hql1 := hql.out
      replace hcalm2 := hid hcalm2
      replace hS2e := hid hS2e
      replace hS2h := hid hS2h
      replace hbs := hid hbs
      replace hbsl := hid hbsl
      clear h1 h2 h3 h4 hmk hdA hall rbx rc0 o6 hFA
      replace o7 := hid o7
      replace hw7 := hid hw7
      have hql2 := hid hq3.out.len
      gi_wp2
      refine wpIn_loop_f (σ := Nat) (fun j f => #[.slice a0 i cap, .slice a1 len1 cap1, .int .i64 a2, f 3, f 4, f 5, .pointer (some ⟨w.heap.size, 0, none⟩), .pointer (some ⟨d, 0, none⟩), f 8, f 9, f 10, .pointer (some ⟨c, 0, none⟩), f 12, f 13, .int .i64 ((S2.runW (ts.take j)).hangs.length : Nat), f 15, f 16, f 17, f 18, f 19, f 20, f 21, f 22, f 23, f 24, f 25, f 26, f 27, f 28, f 29, f 30, f 31, f 32, f 33, f 34, f 35, f 36, f 37, f 38, f 39, f 40, f 41, f 42, f 43, f 44, f 45, f 46, f 47, f 48, f 49, f 50, f 51, f 52, f 53, f 54, f 55, f 56, f 57, f 58, f 59, f 60, .slice a1 len1 cap1, .int .i64 (len1 : Nat), .int .i64 (j : Nat), f 64, f 65, f 66, f 67, f 68, f 69, f 70, f 71, f 72, f 73, f 74, f 75, f 76, f 77, f 78, f 79, f 80, f 81, f 82, f 83, f 84, f 85, f 86, f 87, f 88, f 89, f 90, f 91, f 92, f 93, f 94, f 95, f 96, f 97, f 98, f 99, f 100, f 101, f 102, f 103, f 104, f 105, f 106, f 107, f 108, f 109, f 110, f 111, f 112, f 113, f 114, f 115, f 116, f 117, f 118, f 119, f 120, f 121, f 122, f 123, f 124, f 125, f 126, f 127, f 128, f 129, f 130, f 131, f 132, f 133, f 134]) (fun j V => j ≤ len1 ∧ Hid (∃ F', Side w1 V w.heap.size d F' (S2.runW (ts.take j)) [(c, 35, #[v])] [W0.heap.size] ∧ Was w1 V F' v bs [w.heap.size, c, W0.heap.size, W0.heap.size + 1])) (fun j => len1 - j) 0 [{ target := .collected W0.heap.size, args := #[] }] (by rw [hW0s]) (by dsimp only; rw [hz0]; rfl) ⟨Nat.zero_le _, hid ⟨F3, o7.out, hw7.out⟩⟩ ?_
      rintro j f V ⟨hj, ho⟩ K hKK
      dsimp only at hj ho hKK ⊢
      replace hKK := hid hKK
      clear o7 hw7 hz0
      obtain ⟨F4, o8, hw8⟩ := ho.out
      clear ho
      have hcalmT := hcalm2.out.runW (ts.take j)
      have htj : (ts.take j).length ≤ 40 := by rw [List.length_take]; omega
      have hokT := hid (hcalmT.ok (by omega))
      obtain ⟨n, hn⟩ : ∃ n, n = (S2.runW (ts.take j)).hangs.length := ⟨_, rfl⟩
      have hn1 : n ≤ 100 := by have := hcalmT.h; omega
      rw [← hn]
      by_cases hlj : j < len1
      · have t1 : decide ((j : Int) < (len1 : Int)) = true := decide_eq_true (by omega)
        have t2 : decide (j < len1) = true := decide_eq_true hlj
        have i1 : (0 : Int) ≤ (j : Int) := by omega
        have i2 : (j : Int) < (len1 : Int) := by omega
        have hadd : IntKind.i64.wrap ((j : Int) + 1) = ((j + 1 : Nat) : Int) := by rw [IntKind.wrap_i64]; omega
        obtain ⟨q, hqj⟩ : ∃ q, ts[j]? = some q := ⟨_, List.getElem?_eq_getElem (by rw [hql2.out]; exact hlj)⟩
        obtain ⟨hqo, x, rfl, hcq⟩ := (hq3.out.below (o8.own.bel)).at hqj
        have hia : (Try.prog.info? 29).map (·.size) = some (actV q).length := by kernel_rfl
        have hrun := runW_snoc S2 (ts.take j) q
        rw [take_snoc hqj] at hrun
        obtain ⟨n', hn'⟩ : ∃ n', (S2.runW (ts.take (j + 1))).hangs.length = n' := ⟨_, rfl⟩
        have hn2 : n' ≤ 100 := by have := (hcalm2.out.runW (ts.take (j + 1))).h; have h7 : (ts.take (j + 1)).length ≤ 40 := by { rw [List.length_take]; omega }; omega
        have hlen' := write_len hcalmT q.2.1 (fillB q.2.2)
        rw [← hrun, hn', ← hn] at hlen'
        have hmul : IntKind.i64.wrap ((n' : Int) * 128) = ((n' * 128 : Nat) : Int) := by rw [IntKind.wrap_i64]; omega
        have hok' := hid ((hcalm2.out.runW (ts.take (j + 1))).ok (by have h7 : (ts.take (j + 1)).length ≤ 40 := by { rw [List.length_take]; omega }; omega))
        replace o8 := hid o8
        replace hw8 := hid hw8
        replace hcq := hid hcq
        replace hia := hid hia
        replace hrun := hid hrun
        replace hqj := hid hqj
        replace hn := hid hn
        replace hn' := hid hn'
        replace hcalmT := hid hcalmT
        replace hS2 := hid hS2
        gi_wp2_with (with_reducible refine at_opIn (some 66) (.load 29 (.tmp 65)) ?_
                     refine wpListIn_load_addr (o := ⟨some 66, _, _, _, _, _⟩) rfl 29 (.tmp 65) rfl (x.add (j * 3)) rfl (actV q) _ hcq.out Try.underlying29 rfl hia.out ?_
                     simp only [actV])
        have o9 := o8.out.add #[.int .i64 q.1, .int .i64 q.2.1, .int .u8 (q.2.2.toNat : Nat)] 29
        have hw9 := hw8.out.below (below_al (Below.refl _ _) (.cells #[.int .i64 q.1, .int .i64 q.2.1, .int .u8 (q.2.2.toNat : Nat)] 29))
        have rb := hid (o9.row _ (.head _)).1
        have hdk := hid o9.own.dk
        replace o9 := hid o9
        replace hw9 := hid hw9
        refine keeps_r20 hdk hokT rb _ _ _ _ _ _ _ _ _ _ _ _ _ _ _ _ _ _ _ _ _ _ _ _ _ _ _ _ _ _ _ _ _ _ _ _ _ _ _ _ _ _ _ _ _ _ _ _ _ _ _ _ _ _ _ _ _ _ _ _ _ _ _ _ _ _ _ _ _ _ _ _ _ _ _ _ _ _ _ _ _ _ _ _ _ _ _ _ _ _ _ _ _ _ _ _ _ _ _ _ _ _ _ _ _ _ _ _ _ _ _ _ _ _ _ _ _ _ _ _ _ _ _ _ _ _ _ _ _ _ _ _ _ ?_
        rintro v67 v68 v69 v70 v71 v72 v73 V2 ⟨F2, hd2, hF2⟩ hk2
        obtain ⟨F5, o10, hk5, hF5⟩ := o9.out.to ⟨F2, hd2, hk2, hF2⟩
        rw [← hrun.out] at o10
        have o11 := o10.drop (ys := [(c, 35, #[v])]) (fun y hy => .tail _ hy)
        have hw11 := hw9.out.to hk5 hF5
        have hhg := hangs_any o11.own.dk hok'.out
        rw [hn'.out] at hhg
        have o12 : Hid (∃ F', Side w1 V2 w.heap.size d F' (S2.runW (ts.take (j + 1))) [(c, 35, #[v])] [W0.heap.size] ∧ Was w1 V2 F' v bs [w.heap.size, c, W0.heap.size, W0.heap.size + 1]) := hid ⟨F5, o11, hw11⟩
        replace hhg := hid hhg
        clear o11 hw11 o10 hd2 hF2 hk2 rb hdk o9 hw9 hcq hia hk5 hF5
        rcases hlen' with ⟨hz, hn3⟩ | ⟨hz, hn3⟩
        case' inl => have hinc : IntKind.i64.wrap ((n : Int) + 1) = ((n' : Nat) : Int) := by rw [IntKind.wrap_i64]; omega
        case' inr => obtain rfl : n' = n := hn3
        case' inl => replace hn3 := hid hn3
        all_goals
          gi_wp2_with (refine ⟨trivial, rfl, ?_⟩; gi_at_call 14; refine (callsIn_wide.2 hhg.out).mono ?_; rintro e w12 ⟨rfl, rfl⟩)
          rw [← hW0s]
          exact hKK.out (j + 1) _ _ (by rw [hn'.out]; rfl) (by omega) ⟨hlj, o12⟩
      · obtain rfl : j = len1 := by omega
        have t1 : decide ((j : Int) < (j : Int)) = false := decide_eq_false (by omega)
        have hts : ts.take j = ts := List.take_of_length_le (by rw [hql2.out]; exact Nat.le_refl _)
        rw [hts] at o8 hcalmT hokT hn
        clear hKK hts htj
        obtain ⟨S3, hS3⟩ : ∃ S3, S3 = S2.runW ts := ⟨_, rfl⟩
        rw [← hS3] at o8 hcalmT hokT hn
        have hmay3 : ∀ x, x < 16 → S3.read ((x : Nat) : Int) = (S3.look ((x : Nat) : Int), 0) := fun x hx => by unfold DS.read; rw [if_pos (hcalmT.mayE x hx)]
        replace hS3 := hid hS3
        replace o8 := hid o8
        replace hw8 := hid hw8
        replace hn := hid hn
        replace hcalmT := hid hcalmT
        replace hmay3 := hid hmay3
        gi_wp2
        refine wpIn_loop_f (σ := Nat × Value) (fun s f => #[.slice a0 i cap, .slice a1 j cap1, .int .i64 a2, f 3, f 4, f 5, .pointer (some ⟨w.heap.size, 0, none⟩), .pointer (some ⟨d, 0, none⟩), f 8, f 9, f 10, .pointer (some ⟨c, 0, none⟩), f 12, f 13, f 14, f 15, f 16, s.2, f 18, f 19, f 20, f 21, f 22, f 23, f 24, f 25, f 26, f 27, f 28, f 29, f 30, f 31, f 32, f 33, f 34, f 35, f 36, f 37, f 38, f 39, f 40, f 41, f 42, f 43, f 44, f 45, f 46, f 47, f 48, f 49, f 50, f 51, f 52, f 53, f 54, f 55, f 56, f 57, f 58, f 59, f 60, f 61, f 62, f 63, f 64, f 65, f 66, f 67, f 68, f 69, f 70, f 71, f 72, f 73, f 74, f 75, f 76, f 77, f 78, f 79, f 80, f 81, f 82, .int .i64 (s.1 : Nat), f 84, f 85, f 86, f 87, f 88, f 89, f 90, f 91, f 92, f 93, f 94, f 95, f 96, f 97, f 98, f 99, f 100, f 101, f 102, f 103, f 104, f 105, f 106, f 107, f 108, f 109, f 110, f 111, f 112, f 113, f 114, f 115, f 116, f 117, f 118, f 119, f 120, f 121, f 122, f 123, f 124, f 125, f 126, f 127, f 128, f 129, f 130, f 131, f 132, f 133, f 134]) (fun s V' => s.1 ≤ 16 ∧ Hid (Side w1 V' w.heap.size d F4 S3 [(c, 35, #[v])] [W0.heap.size] ∧ Was w1 V' F4 v bs [w.heap.size, c, W0.heap.size, W0.heap.size + 1] ∧ Was w1 V' F4 s.2 ((List.range s.1).map fun x => S3.look ((x : Nat) : Int)) [w.heap.size, c, W0.heap.size] ∧ ∀ g, s.2.ownBlock = some g → v.ownBlock ≠ some g)) (fun s => 16 - s.1) (0, .slice none 0 0) [{ target := .collected W0.heap.size, args := #[] }] (by rw [hW0s]) rfl ⟨Nat.zero_le _, hid ⟨o8.out, hw8.out, ⟨World.ownsRow_nil _ _ _ _, fun g hg => (by cases hg)⟩, fun g hg => (by cases hg)⟩⟩ ?_
        rintro ⟨m, vn⟩ f V' ⟨hm16, ho⟩ K hKK
        dsimp only at hm16 ho hKK ⊢
        replace hKK := hid hKK
        clear o8 hw8
        obtain ⟨o9, hw9, hwn, hvn⟩ := ho.out
        clear ho
        by_cases hlm : m < 16
        · have t1 : decide ((m : Int) < 16) = true := decide_eq_true (by omega)
          have hadd : IntKind.i64.wrap ((m : Int) + 1) = ((m + 1 : Nat) : Int) := by rw [IntKind.wrap_i64]; omega
          have hrd := read_any o9.own.dk ((m : Nat) : Int) (wf_nat (by omega))
          rw [hmay3.out m hlm] at hrd
          obtain ⟨B, hB⟩ : ∃ B, B = S3.look ((m : Nat) : Int) := ⟨_, rfl⟩
          rw [← hB] at hrd
          have hib : (Try.prog.info? 32).map (·.size) = some (blkA B).size := infoBlkCs _
          have hz := zero_block
          have hzs := zeroBlk_size
          have hbs2 := blkA_size B
          replace o9 := hid o9
          replace hw9 := hid hw9
          replace hwn := hid hwn
          replace hvn := hid hvn
          replace hrd := hid hrd
          replace hB := hid hB
          replace hib := hid hib
          gi_wp2_with (first
            | (refine ⟨trivial, rfl, ?_⟩; gi_at_call 15; refine (callsIn_wide.2 hrd.out).mono ?_; rintro e w12 ⟨rfl, hB12⟩
               have hst := cells_block _ _ _ (blkA B) (RowAt.new w12 zeroBlk 32) zeroBlk_size (blkA_size _) (blkA_one _)
               rw [World.setRow_alloc_new] at hst
               have hb13 := below_al hB12 (.cells (blkA B) 32)
               have o10 := hid (o9.out.below hb13)
               have hw10 := hid (hw9.out.below hb13)
               have hwn10 := hid (hwn.out.below hb13)
               have rB := hid (RowAt.new w12 (blkA B) 32)
               clear hB12 hb13)
            | (with_reducible refine at_opIn (some 93) (.load 32 (.tmp 19)) ?_
               refine wpListIn_load_row (o := ⟨some 93, _, _, _, _, _⟩) rfl 32 (.tmp 19) rfl w12.heap.size rfl 32 (blkA B) (0, 0) _ rB.out Try.underlying32 rfl hib.out ?_)
            | (with_reducible refine at_opIn (some 94) (.buildSlice 35 1 #[(0, .tmp 93)]) ?_
               generalize hW13 : World.alloc w12 _ = W13 at o10 hw10 hwn10 rB ⊢
               refine wpListIn_step (o := ⟨some 94, _, _, _, _, _⟩) rfl (by intro c h; cases h) (OpR.of_ok (opOk_buildSlice 35 32 1 _ rfl #[(0, .agg (blkA B))] (by simp only [List.map_toArray, List.map_cons, List.map_nil]; rfl) _ (buildSlice_blk B W13) (Ψ := fun u W' => u = .slice (some ⟨W13.heap.size, 0, none⟩) 1 1 ∧ W' = W13.alloc (.cells (blkA B) 32)) ⟨rfl, rfl⟩)) ?_
               rintro _ _ ⟨_, rfl, rfl⟩)
            | (with_reducible refine at_opIn (some 95) (.call { callee := .builtin .append, args := #[.tmp 92, .tmp 94], argTypes := #[35, 35] }) ?_
               have hbl := below_al (Below.refl W13.heap.size W13) (.cells (blkA B) 32)
               refine wpListIn_step (o := ⟨some 95, _, _, _, _, _⟩) rfl (by intro c h; cases h) (opR_append_blk (.tmp 92) (.tmp 94) rfl rfl rfl (hwn10.out.below hbl).bk (RowAt.new _ _ _) (by rw [List.length_map, List.length_range]; omega)) ?_
               rintro v' W2 ⟨k1, k2, k3, q', cp, hv'⟩
               replace k1 := hid k1
               replace k2 := hid k2
               replace k3 := hid k3
               replace hv' := hid hv'
               clear hbl))
          have hk2 : Kept (fun k => vn.ownBlock = some k) W13 W2 := (Kept.of_below (below_al (Below.refl _ _) _)).trans k2.out
          have hFlt3 := o10.out.own.dk.lt
          have hc13 := (o10.out.row _ (.head _)).1.lt
          have hm13 := (Array.getElem?_eq_some_iff.1 (o10.out.mark _ (.head _)).1).1
          have hw13 := o10.out.own.bel.size
          have hWs : (W13.alloc (.cells (blkA B) 32)).heap.size = W13.heap.size + 1 := by simp
          have hg1 : ∀ g, v'.ownBlock = some g → vn.ownBlock = some g ∨ W13.heap.size < g := fun g hg => (k3.out g hg).imp id (fun h => by rw [hWs] at h; omega)
          have hnb : (List.range (m + 1)).map (fun x => S3.look ((x : Nat) : Int)) = (List.range m).map (fun x => S3.look ((x : Nat) : Int)) ++ [B] := by rw [List.range_succ, List.map_append, hB.out]; rfl
          have o11 := o10.out.kept hk2 (fun k h => (hwn10.out.ne k h).1) (fun k hF h => (hwn10.out.ne k h).2.1 hF) (fun x hx h => by
            obtain rfl : x = (c, 35, #[v]) := by simpa using hx
            exact (hwn10.out.ne _ h).2.2 (by simp)) (fun k hk h => by
            obtain rfl : k = W0.heap.size := by simpa using hk
            exact (hwn10.out.ne _ h).2.2 (by simp))
          have hw11 := hw10.out.kept hk2 (fun g hg h => hvn.out g h hg)
          have hwn11 : Was w1 W2 F4 v' ((List.range (m + 1)).map fun x => S3.look ((x : Nat) : Int)) [w.heap.size, c, W0.heap.size] := ⟨by rw [hnb]; exact k1.out, fun g hg => by
            rcases hg1 g hg with h | h
            · exact hwn10.out.ne g h
            · exact ⟨by omega, fun hF => by have := hFlt3 g hF; omega, by simp only [List.mem_cons, List.not_mem_nil, or_false]; omega⟩⟩
          have hvn11 : ∀ g, v'.ownBlock = some g → v.ownBlock ≠ some g := fun g hg h => by
            rcases hg1 g hg with h2 | h2
            · exact hvn.out g h2 h
            · have := hw10.out.lt g h; omega
          have hfin := hid (And.intro o11 (And.intro hw11 (And.intro hwn11 hvn11)))
          clear hk2 o11 hw11 hwn11 hvn11 hg1 hnb k1 k2 k3 o10 hw10 hwn10 rB
          gi_wp2
          rw [← hW0s]
          exact hKK.out (m + 1, v') _ _ rfl (by dsimp only; omega) ⟨hlm, hfin⟩
        · obtain rfl : m = 16 := by omega
          have t1 : decide (((16 : Nat) : Int) < 16) = false := by decide
          clear hKK
          obtain ⟨bn, hbn⟩ : ∃ bn, bn = (List.range 16).map fun x => S3.look ((x : Nat) : Int) := ⟨_, rfl⟩
          have hbnl : bn.length = 16 := by rw [hbn]; simp
          rw [← hbn] at hwn
          obtain ⟨q1, cp1, hv1, hq1'⟩ := hw9.bk.shape
          obtain ⟨q2, cp2, hv2, hq2'⟩ := hwn.bk.shape
          rw [hbsl.out] at hv1 hq1'
          rw [hbnl] at hv2 hq2'
          obtain ⟨gv, rfl, hgv⟩ := hq1' (by decide)
          obtain ⟨gn, rfl, hgn⟩ := hq2' (by decide)
          subst hv1
          subst hv2
          have rc := (o9.row _ (.head _)).1
          have c11 := rc.cell (j := 0) rfl
          have hhg := hangs_any o9.own.dk hokT.out
          rw [← hn.out] at hhg
          have hgvne := hw9.lt gv hgv
          have hgnne := hwn.lt gn hgn
          have o10 := o9.add #[.slice (some ⟨gv, 0, none⟩) 16 cp1] 35
          have hwv := hw9.below (below_al (Below.refl _ _) (.cells #[.slice (some ⟨gv, 0, none⟩) 16 cp1] 35))
          have hwn2 := hwn.below (below_al (Below.refl _ _) (.cells #[.slice (some ⟨gv, 0, none⟩) 16 cp1] 35))
          clear hw9 hwn hvn
          replace rc := hid rc
          replace o9 := hid o9
          replace o10 := hid o10
          replace hwv := hid hwv
          replace hwn2 := hid hwn2
          replace hbn := hid hbn
          replace hbnl := hid hbnl
          replace hgv := hid hgv
          replace hgn := hid hgn
          obtain ⟨nm, hnm⟩ : ∃ nm, nm = n * 128 := ⟨_, rfl⟩
          rw [← hnm] at hhg
          have hhg2 := hangs_any o10.out.own.dk hokT.out
          rw [← hn.out, ← hnm] at hhg2
          clear hhg
          obtain ⟨cw, hcw2⟩ : ∃ cw, cw = V'.heap.size := ⟨_, rfl⟩
          have hc9 := rc.out.lt
          have hm9 := (Array.getElem?_eq_some_iff.1 (o9.out.mark _ (.head _)).1).1
          have hgvlt : gv < V'.heap.size := hgvne
          have hgnlt : gn < V'.heap.size := hgnne
          rw [← hcw2] at hc9 hm9 hgvlt hgnlt o10
          generalize hW1 : World.alloc V' _ = W1 at o10 hwv hwn2 hhg2
          have hW1s : W1.heap.size = cw + 1 := by rw [← hW1, hcw2]; simp
          have hcs : ((nm : Int) ≤ a2 ∧ a2 ≤ 0) ∨ ((nm : Int) ≤ a2 ∧ ¬ a2 ≤ 0) ∨ (¬ (nm : Int) ≤ a2 ∧ a2 ≤ 0) ∨ (¬ (nm : Int) ≤ a2 ∧ ¬ a2 ≤ 0) := by omega
          obtain ⟨S4, hS4⟩ : ∃ S4, S4 = S3.crash a2 := ⟨_, rfl⟩
          have hcalm4 := hcalmT.out.crash a2
          rw [← hS4] at hcalm4
          have hok4 := hid (hcalm4.ok (by have := hql2.out; omega))
          have hlastsS : S3.lasts = S2.lasts := by rw [hS3.out]; exact runW_lasts _ _
          have hpl := fun x (hw : a2 ≤ 0 ∨ ((nm : Nat) : Int) ≤ a2) => keeps_plain S3 S2.lasts hlastsS a2 x (by rw [← hn.out, ← hnm]; exact hw)
          rw [← hn.out, ← hnm, ← hS4] at hpl
          rcases hcs with ⟨hx1, hx2⟩ | ⟨hx1, hx2⟩ | ⟨hx1, hx2⟩ | ⟨hx1, hx2⟩
          case' inl =>
            have g33 : decide ((nm : Int) ≤ a2) = true := by simp [hx1]
            have g35 : decide (a2 ≤ 0) = true := by simp [hx2]
            obtain ⟨wh, hwh⟩ : ∃ b : Bool, b = true := ⟨_, rfl⟩
            replace hwh := hid hwh
            obtain ⟨bW, hbWe⟩ : ∃ b, b = bn := ⟨_, rfl⟩
            obtain ⟨gW, hgWe⟩ : ∃ g, g = gn := ⟨_, rfl⟩
            obtain ⟨cpW, hcpW⟩ : ∃ g, g = cp2 := ⟨_, rfl⟩
            have f21 := (o10.out.row _ (.head _)).1.free 0
            have c21 := (o10.out.row _ (.head _)).1.cell (j := 0) rfl
            have o11 := o10.out.put (.slice (some ⟨gn, 0, none⟩) 16 cp2) (fun x hx => by obtain rfl : x = (c, 35, #[.slice (some ⟨gv, 0, none⟩) 16 cp1]) := by { simpa using hx }; dsimp only; omega) (fun m hm => by obtain rfl : m = W0.heap.size := by { simpa using hm }; omega)
            have hbW := (hwn2.out.kept ((Kept.refl (fun k => k = cw) W1).setCell ⟨cw, 0, none⟩ (.inl rfl) (.slice (some ⟨gn, 0, none⟩) 16 cp2)) (fun g hg e => by have : g = gn := by { have := hg.symm.trans hgn.out; simpa using this }; omega)).more (not' := [w.heap.size, c, W0.heap.size, cw]) (fun g hg => by have h1 := (hwn2.out.ne g hg).2.2; have : g = gn := by { have := hg.symm.trans hgn.out; simpa using this }; simp only [List.mem_cons, List.not_mem_nil, or_false, not_or] at h1 ⊢; exact ⟨h1.1, h1.2.1, h1.2.2, by omega⟩)
            have hhg3 := hangs_any o11.own.dk hokT.out
            rw [← hn.out, ← hnm] at hhg3
            have hbWl : bW.length = 16 := by rw [hbWe]; exact hbnl.out
            have hpW : ∀ x, x < 16 → ∃ B', bW[x]? = some B' ∧ (true = true → blkA B' = blkA (secOf S4.lasts x)) := by
              intro x hx
              rw [hbWe]
              exact ⟨S3.look ((x : Nat) : Int), by rw [hbn.out]; simp [hx], fun _ => by have h3 := hpl x (.inr hx1); rwa [if_pos hx1] at h3⟩
            rw [← hbWe] at hbW
            have o12 := o11.add #[.bool true] 4
            have hbW2 := hbW.below (below_al (Below.refl _ _) (.cells #[.bool true] 4))
          case' inr.inl =>
            have g33 : decide ((nm : Int) ≤ a2) = true := by simp [hx1]
            have g35 : decide (a2 ≤ 0) = false := by simp [hx2]
            obtain ⟨wh, hwh⟩ : ∃ b : Bool, b = true := ⟨_, rfl⟩
            replace hwh := hid hwh
            obtain ⟨bW, hbWe⟩ : ∃ b, b = bn := ⟨_, rfl⟩
            obtain ⟨gW, hgWe⟩ : ∃ g, g = gn := ⟨_, rfl⟩
            obtain ⟨cpW, hcpW⟩ : ∃ g, g = cp2 := ⟨_, rfl⟩
            have f21 := (o10.out.row _ (.head _)).1.free 0
            have c21 := (o10.out.row _ (.head _)).1.cell (j := 0) rfl
            have o11 := o10.out.put (.slice (some ⟨gn, 0, none⟩) 16 cp2) (fun x hx => by obtain rfl : x = (c, 35, #[.slice (some ⟨gv, 0, none⟩) 16 cp1]) := by { simpa using hx }; dsimp only; omega) (fun m hm => by obtain rfl : m = W0.heap.size := by { simpa using hm }; omega)
            have hbW := (hwn2.out.kept ((Kept.refl (fun k => k = cw) W1).setCell ⟨cw, 0, none⟩ (.inl rfl) (.slice (some ⟨gn, 0, none⟩) 16 cp2)) (fun g hg e => by have : g = gn := by { have := hg.symm.trans hgn.out; simpa using this }; omega)).more (not' := [w.heap.size, c, W0.heap.size, cw]) (fun g hg => by have h1 := (hwn2.out.ne g hg).2.2; have : g = gn := by { have := hg.symm.trans hgn.out; simpa using this }; simp only [List.mem_cons, List.not_mem_nil, or_false, not_or] at h1 ⊢; exact ⟨h1.1, h1.2.1, h1.2.2, by omega⟩)
            have hhg3 := hangs_any o11.own.dk hokT.out
            rw [← hn.out, ← hnm] at hhg3
            have hbWl : bW.length = 16 := by rw [hbWe]; exact hbnl.out
            have hpW : ∀ x, x < 16 → ∃ B', bW[x]? = some B' ∧ (true = true → blkA B' = blkA (secOf S4.lasts x)) := by
              intro x hx
              rw [hbWe]
              exact ⟨S3.look ((x : Nat) : Int), by rw [hbn.out]; simp [hx], fun _ => by have h3 := hpl x (.inr hx1); rwa [if_pos hx1] at h3⟩
            rw [← hbWe] at hbW
            have o12 := o11.add #[.bool true] 4
            have hbW2 := hbW.below (below_al (Below.refl _ _) (.cells #[.bool true] 4))
          case' inr.inr.inl =>
            have g33 : decide ((nm : Int) ≤ a2) = false := by simp [hx1]
            have g35 : decide (a2 ≤ 0) = true := by simp [hx2]
            obtain ⟨wh, hwh⟩ : ∃ b : Bool, b = true := ⟨_, rfl⟩
            replace hwh := hid hwh
            obtain ⟨bW, hbWe⟩ : ∃ b, b = bs := ⟨_, rfl⟩
            obtain ⟨gW, hgWe⟩ : ∃ g, g = gv := ⟨_, rfl⟩
            obtain ⟨cpW, hcpW⟩ : ∃ g, g = cp1 := ⟨_, rfl⟩
            have o11 := o10.out
            have hbW := hwv.out.more (not' := [w.heap.size, c, W0.heap.size, cw]) (fun g hg => by have h1 := (hwv.out.ne g hg).2.2; have : g = gv := by { have := hg.symm.trans hgv.out; simpa using this }; simp only [List.mem_cons, List.not_mem_nil, or_false, not_or] at h1 ⊢; exact ⟨h1.1, h1.2.1, h1.2.2.1, by omega⟩)
            have hhg3 := hangs_any o11.own.dk hokT.out
            rw [← hn.out, ← hnm] at hhg3
            have hbWl : bW.length = 16 := by rw [hbWe]; exact hbsl.out
            have hpW : ∀ x, x < 16 → ∃ B', bW[x]? = some B' ∧ (true = true → blkA B' = blkA (secOf S4.lasts x)) := by
              intro x hx
              rw [hbWe]
              exact ⟨secOf S2.lasts x, by rw [hbs.out]; simp [hx], fun _ => by have h3 := hpl x (.inl hx2); rwa [if_neg hx1] at h3⟩
            rw [← hbWe] at hbW
            have o12 := o11.add #[.bool true] 4
            have hbW2 := hbW.below (below_al (Below.refl _ _) (.cells #[.bool true] 4))
          case' inr.inr.inr =>
            have g33 : decide ((nm : Int) ≤ a2) = false := by simp [hx1]
            have g35 : decide (a2 ≤ 0) = false := by simp [hx2]
            obtain ⟨wh, hwh⟩ : ∃ b : Bool, b = false := ⟨_, rfl⟩
            replace hwh := hid hwh
            obtain ⟨bW, hbWe⟩ : ∃ b, b = bs := ⟨_, rfl⟩
            obtain ⟨gW, hgWe⟩ : ∃ g, g = gv := ⟨_, rfl⟩
            obtain ⟨cpW, hcpW⟩ : ∃ g, g = cp1 := ⟨_, rfl⟩
            have o11 := o10.out
            have hbW := hwv.out.more (not' := [w.heap.size, c, W0.heap.size, cw]) (fun g hg => by have h1 := (hwv.out.ne g hg).2.2; have : g = gv := by { have := hg.symm.trans hgv.out; simpa using this }; simp only [List.mem_cons, List.not_mem_nil, or_false, not_or] at h1 ⊢; exact ⟨h1.1, h1.2.1, h1.2.2.1, by omega⟩)
            have hhg3 := hangs_any o11.own.dk hokT.out
            rw [← hn.out, ← hnm] at hhg3
            have hbWl : bW.length = 16 := by rw [hbWe]; exact hbsl.out
            have hpW : ∀ x, x < 16 → ∃ B', bW[x]? = some B' ∧ (false = true → blkA B' = blkA (secOf S4.lasts x)) := by
              intro x hx
              rw [hbWe]
              exact ⟨secOf S2.lasts x, by rw [hbs.out]; simp [hx], fun h => (by cases h)⟩
            rw [← hbWe] at hbW
            have o12 := o11.add #[.bool false] 4
            have hbW2 := hbW.below (below_al (Below.refl _ _) (.cells #[.bool false] 4))
          all_goals
            replace hbWe := hid hbWe
            replace hgWe := hid hgWe
            replace hcpW := hid hcpW
            replace hW1 := hid hW1
            replace hcw2 := hid hcw2
            replace o12 := hid o12
            replace hbW2 := hid hbW2
            replace hhg2 := hid hhg2
            replace hhg3 := hid hhg3
            replace hpW := hid hpW
            replace hbWl := hid hbWl
            replace hnm := hid hnm
            replace hS4 := hid hS4
            replace hcalm4 := hid hcalm4
            replace hlastsS := hid hlastsS
            replace hS2e := hS2e
            clear hpl o11 hbW o9 o10 hwv hwn2 rc
            have LG := hid all_any
            gi_wp2_with (first
              | (refine ⟨trivial, rfl, ?_⟩; gi_at_call 14; rw [hW1.out, ← hcw2.out]; refine (callsIn_wide.2 hhg2.out).mono ?_; rintro e w12 ⟨rfl, rfl⟩)
              | (refine ⟨trivial, rfl, ?_⟩; gi_at_call 14; refine (callsIn_wide.2 hhg3.out).mono ?_; rintro e w12 ⟨rfl, rfl⟩)
              | (refine ⟨trivial, rfl, ?_⟩; gi_at_call 11; refine (callsIn_wide.2 (crash_any o12.out.own.dk hokT.out a2 hw2.out)).mono ?_; rintro e w13 ⟨rfl, ht⟩
                 rw [← hS4.out] at ht
                 obtain ⟨F5, o13, hk13, hF13⟩ := o12.out.to ht
                 have hbW3 := hid (hbW2.out.to hk13 hF13)
                 replace o13 := hid o13
                 clear ht hk13 hF13)
              | (refine ⟨trivial, rfl, ?_⟩; gi_at_call 12; refine (callsIn_wide.2 (LG.out _ _)).mono ?_; rintro e w14 ⟨rfl, rfl⟩
                 have o14 := hid (o13.out.add #[.pointer (some ⟨d, 0, none⟩)] 24)
                 have hbW4 := hid (hbW3.out.below (below_al (Below.refl _ _) (.cells #[.pointer (some ⟨d, 0, none⟩)] 24)))
                 clear hbW3 o12 hbW2)
              | (refine ⟨trivial, ?_⟩))
          all_goals
            have o15 := o14.out
            have hw15 := hbW4.out
            obtain ⟨bx, hbx⟩ : ∃ bx, bx = w13.heap.size := ⟨_, rfl⟩
            rw [← hbx] at o15 ⊢
            generalize hW9 : World.alloc w13 _ = W9 at o15 hw15 ⊢
            have hW9s : W9.heap.size = bx + 1 := by rw [← hW9, hbx]; simp
            clear o14 hbW4 hW9 o13
            replace hbx := hid hbx
            rw [← hgWe.out, ← hcpW.out] at o15 hw15
            have hn4 : S4.n = 16 := hcalm4.out.n
            have rbx2 := (o15.row _ (.head _)).1
            obtain ⟨L2, M2, v2, hdB, hFB⟩ := id o15.own.dk
            have hall2 := all_on hdB rbx2
            rw [hn4] at hall2
            have hFlt2 := o15.own.dk.lt
            have hm9 := (Array.getElem?_eq_some_iff.1 (o15.mark _ (.head _)).1).1
            have hvlt := hw15.lt
            have hw9 : w1.heap.size ≤ W9.heap.size := o15.own.bel.size
            replace hn4 := hid hn4
            have hgo : (Value.slice (some ⟨gW, 0, none⟩) 16 cpW).ownBlock = some gW := rfl
            obtain ⟨vW, hvW⟩ : ∃ v, v = Value.slice (some ⟨gW, 0, none⟩) 16 cpW := ⟨_, rfl⟩
            rw [← hvW] at hgo o15 hw15 hvlt
            replace hgo := hid hgo
            have hvW' := hid hvW
            clear hvW
            rw [← hwh.out] at o15
            obtain ⟨ew, hew⟩ : ∃ ew, ew = W1.heap.size := ⟨_, rfl⟩
            have hsz2 : ∀ o, (World.alloc W1 o).heap.size = W1.heap.size + 1 := fun o => by simp
            have hsz3 : ∀ a u, (World.setCell W1 a u).heap.size = W1.heap.size := fun a u => by simp
            simp only [hsz3, ← hew] at o15
            have o16 : Side w1 W9 w.heap.size d F5 S4 [(ew, 4, #[.bool wh]), (cw, 35, #[vW])] [W0.heap.size] := o15.drop (fun y hy => by
              rcases List.mem_cons.1 hy with rfl | hy
              · simp
              · obtain rfl : y = (cw, 35, #[vW]) := by simpa using hy
                simp)
            have hewlt := (o16.row _ (.head _)).1.lt
            have hcwlt := (o16.row _ (.tail _ (.head _))).1.lt
            replace hew := hid hew
            clear hsz2 hsz3
            refine wp_iter_box (gf := 27) (lb := #[.pointer (some ⟨bx, 0, none⟩)]) rfl (enters_of Try.func27 (by kernel_rfl) rfl) hall2
              (fun _ h => h.elim) (fun k h => by rcases h with h | h | h; omega; exact hFlt2 k ((hFB k).2 (.inl h)); exact hFlt2 k ((hFB k).2 (.inr (.inl h)))) (fun _ => rfl)
              (fun x g => [(23, .int .i64 (x : Nat)), (24, .pointer (some ⟨g, 0, none⟩))]) (fun x g W => RowAt W g 32 (blkA (secOf S4.lasts x)) ∧ W9.heap.size + 2 ≤ g) ?_
              (fun pre W => Side w1 W w.heap.size d F5 S4 [(ew, 4, #[.bool wh]), (cw, 35, #[vW])] [W0.heap.size] ∧ Was w1 W F5 vW bW [w.heap.size, c, W0.heap.size, cw])
              (fun c pre W => False) ?_ ?_ ⟨o16, hw15⟩ ?_ ?_ ?_ ?_
            · rintro x g W W' ⟨h1, h2⟩ hk
              exact ⟨hk.row h1 (fun h => by rcases h with h | h | h; exact h.elim; all_goals omega), h2⟩
            · rintro pre W W' ⟨h1, h2⟩ hk
              refine ⟨h1.kept hk (fun k h => ?_) (fun k hF h => ?_) (fun x hx h => ?_) (fun m hm h => ?_), h2.kept hk (fun g hg h => ?_)⟩
              · rcases h with h | h | h; exact h.elim; all_goals omega
              · have := hFlt2 k hF; rcases h with h | h | h; exact h.elim; all_goals omega
              · rcases List.mem_cons.1 hx with rfl | hx
                · rcases h with h | h | h; exact h.elim; all_goals (dsimp only at h; omega)
                · obtain rfl : x = (cw, 35, #[vW]) := by simpa using hx
                  rcases h with h | h | h; exact h.elim; all_goals (dsimp only at h; omega)
              · obtain rfl : m = W0.heap.size := by simpa using hm
                rcases h with h | h | h; exact h.elim; all_goals omega
              · have := hvlt g hg; rcases h with h | h | h; exact h.elim; all_goals omega
            · rintro c' pre W W' h _; exact h
            · intro l pre x W K hs hi hK
              have hz := zero_block
              have hzs := zeroBlk_size
              have hbs2 := blkA_size (secOf S4.lasts x)
              have hst := cells_block _ _ _ (blkA (secOf S4.lasts x)) (RowAt.new W zeroBlk 32) zeroBlk_size (blkA_size _) (blkA_one _)
              rw [World.setRow_alloc_new] at hst
              have hfin := hid (hK W.heap.size (W.alloc (.cells (blkA (secOf S4.lasts x)) 32)) (Kept.of_below (below_al (Below.refl _ _) _)) ⟨hi.1.below (below_al (Below.refl _ _) _), hi.2.below (below_al (Below.refl _ _) _)⟩ ⟨RowAt.new _ _ _, hs⟩)
              clear hK hi
              simp only [encB] at hfin ⊢
              rw [fold2] at hfin ⊢
              simp only [putAll, List.foldl_cons, List.foldl_nil, List.setIfInBounds_toArray, List.set_cons_zero, List.set_cons_succ] at hfin ⊢
              gi_wp2
              exact hfin.out
            · rintro pre x post g W hx hs _ ⟨h1, h2⟩ ⟨h5, h6⟩
              have hx16 : x < 16 := by
                have : x ∈ List.range 16 := by rw [hx]; simp
                simpa using this
              obtain ⟨B', hB1, hB2⟩ := hpW.out x hx16
              simp only [encB]
              rw [fold2]
              simp only [putAll, List.foldl_cons, List.foldl_nil, List.setIfInBounds_toArray, List.set_cons_zero, List.set_cons_succ]
              have reb := (h1.row _ (.head _)).1
              rw [hwh.out] at reb
              replace reb := hid reb
              have rcb := hid (h1.row _ (.tail _ (.head _))).1
              have hbk := hid h2.bk
              replace hB1 := hid hB1
              replace hB2 := hid hB2
              replace h5 := hid h5
              replace h1 := hid h1
              replace h2 := hid h2
              have hew3 := hew.out
              rw [hW1s] at hew3
              clear hx
              subst hew3
              gi_wp2
              first
                | refine keeps_r40 rcb reb h5 hbk hgo hB1 (hid (hB2.out (by first | rfl | trivial))) hx16 hvW' _ _ _ _ _ _ _ _ _ _ _ _ _ _ _ _ _ _ _ _ _ _ _ _ _ _ _ _ _ _ _ _ _ _ _ _ _ _ _ _ _ _ _ _ _ _ _ _ _ _ _ _ _ _ _ _ _ _ _ _ _ _ _ _ _ _ _ _ _ _ _ _ _ _ _ _ _ _ _ _ _ _ _ _ _ _ _ _ _ _ _ _ _ _ _ _ _ _ _ _ _ _ _ _ _ _ _ _ _ _ _ _ _ _ _ _ _ _ _ _ _ _ _ _ _ _ _ _ _ _ _ ?_
                | refine keeps_r40n reb _ _ _ _ _ _ _ _ _ _ _ _ _ _ _ _ _ _ _ _ _ _ _ _ _ _ _ _ _ _ _ _ _ _ _ _ _ _ _ _ _ _ _ _ _ _ _ _ _ _ _ _ _ _ _ _ _ _ _ _ _ _ _ _ _ _ _ _ _ _ _ _ _ _ _ _ _ _ _ _ _ _ _ _ _ _ _ _ _ _ _ _ _ _ _ _ _ _ _ _ _ _ _ _ _ _ _ _ _ _ _ _ _ _ _ _ _ _ _ _ _ _ _ _ _ _ _ _ _ _ _ ?_
              all_goals
                intro v118 v119 v120 v121 v122 v123 v124 v125 W' hBW
                have i1 := hid (h1.out.below hBW)
                have i2 := hid (h2.out.below hBW)
                have i3 : Hid (Kept (fun k => ¬ (twoOf W9.heap.size k ∨ (k = bx ∨ k = d ∨ k = L2))) W W') := hid (Kept.of_below hBW)
                clear hBW
                gi_wp2
                exact ⟨i3.out, i1.out, i2.out⟩
            · rintro W hs ⟨h1, h2⟩ hmk
              have hh4 : S4.hangs.length = 0 := by rw [hS4.out]; rfl
              have hd4 : S4.down = false := hcalm4.out.d
              have hhg := hangs_any h1.own.dk hok4.out
              rw [hh4] at hhg
              have hdn := down_any h1.own.dk
              rw [hd4] at hdn
              have f6 := h1.rr.free 0
              have c6 := h1.rr.cell (j := 0) rfl
              have hm1 := (h1.mark _ (.head _)).1
              replace hhg := hid hhg
              replace hdn := hid hdn
              replace hh4 := hid hh4
              replace hd4 := hid hd4
              replace hmk := hid hmk
              replace hm1 := hid hm1
              replace h1 := hid h1
              replace h2 := hid h2
              gi_wp2_with (first
                | (refine ⟨trivial, rfl, ?_⟩; gi_at_call 14; refine (callsIn_wide.2 hhg.out).mono ?_; rintro e w12 ⟨rfl, rfl⟩)
                | (refine ⟨trivial, rfl, ?_⟩; gi_at_call 16; refine (callsIn_wide.2 hdn.out).mono ?_; rintro e w12 ⟨rfl, rfl⟩))
              have r4 := (h1.out.rr.set 0 (.bool true)).eqA (A' := #[.bool true]) (by simp)
              have hrl := h1.out.rlt
              have d1 := defer_cell hm1.out ⟨w.heap.size, 0, none⟩ (.bool true) (by show W0.heap.size ≠ w.heap.size; omega)
              have d2 := defer_cell hmk.out ⟨w.heap.size, 0, none⟩ (.bool true) (by show W9.heap.size ≠ w.heap.size; omega)
              have hbl := (below_cat h1.out.own.bel b1.out).setCell (p := ⟨w.heap.size, 0, none⟩) (Nat.le_refl _) (.bool true)
              generalize World.setCell W ⟨w.heap.size, 0, none⟩ (.bool true) = Z at r4 d1 d2 hbl ⊢
              rw [hW0s] at d1
              rw [hW9s] at d2
              have r5 : RowAt ((Z.putObj (bx + 1) (.deferred none)).putObj (c + 2) (.deferred none)) w.heap.size 4 #[.bool true] := (World.putObj_heap_other (by omega)).trans ((World.putObj_heap_other (by omega)).trans r4)
              refine leave_two d1 d2 (by omega) ⟨_, results_box rfl _ _ w.heap.size (.bool true) rfl (r5.cell (j := 0) rfl) Try.underlying4, rfl, ?_⟩
              exact below_kept hbl (((Kept.refl (fun k => k = bx + 1 ∨ k = c + 2) _).putObj _ _ (.inl (.inl rfl))).putObj _ _ (.inl (.inr rfl))) (Nat.le_refl _) (fun k hk => by omega)
            · rintro c' pre x post W _ _ h; exact h.elim
theorem keeps_walk (a0 : Option Addr) (len cap : Nat) (rs : List (List Value)) (a1 : Option Addr) (len1 cap1 : Nat) (rs1 : List (List Value)) (a2 : Int) (w : World) (h0 : IsRecs K3 w a0 len rs) (h1 : IsRecs K3 w a1 len1 rs1) (h2 : (Lit.int .i64 a2).wf = true) :
    Calls Try.prog 4 #[.slice a0 len cap, .slice a1 len1 cap1, .int .i64 a2] w fun e w' => e = .returned (.bool true) ∧ Below w.heap.size w w' := by
  by_cases hl : 40 < len + len1
  · exact keeps_big a0 a1 len cap len1 cap1 a2 (by have := h0.small; omega) (by have := h1.small; omega) hl w
  · obtain ⟨qs, hq⟩ := acts_of h0
    obtain ⟨ts, ht⟩ := acts_of h1
    have b2 := bounds_i64 h2
    exact keeps_core a0 a1 len cap len1 cap1 a2 (by omega) qs ts w hq ht ⟨by omega, by omega⟩
end Go.Proofs.Ytaofpeajfgcjcaa
