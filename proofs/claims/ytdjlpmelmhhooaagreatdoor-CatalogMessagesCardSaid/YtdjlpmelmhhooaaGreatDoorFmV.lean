/- Format: light; the walk of FormatFits. -/
import Derived.Test.YtdjlpmelmhhooaaGreatDoorFmT
namespace Go.Proofs.YtdjlpmelmhhooaaGreatDoor
open Go Go.RowKit
set_option linter.unusedSimpArgs false
set_option linter.unusedVariables false

def lightB (ss : List ByteArray) (s : ByteArray) : Bool := (ss.isEmpty || (decide (ss.length ≤ 20) && ss.all fun t => decide (t.size ≤ 100))) && decide (s.size ≤ 1000)
theorem lightB_len {ss : List ByteArray} {s : ByteArray} (h : lightB ss s = true) : ss.length ≤ 20 ∧ s.size ≤ 1000 ∧ ∀ t ∈ ss, t.size ≤ 100 := by
  unfold lightB at h
  simp only [Bool.and_eq_true, Bool.or_eq_true, decide_eq_true_eq, List.all_eq_true, List.isEmpty_iff] at h
  obtain ⟨h1, h2⟩ := h
  rcases h1 with rfl | ⟨h1, h3⟩
  · exact ⟨by simp, h2, fun t ht => by cases ht⟩
  · exact ⟨h1, h2, h3⟩
set_option maxRecDepth 100000 in
set_option maxHeartbeats 4000000 in
theorem light_any (k mn mx : Int) (a : Option Addr) (n c : Nat) (ss : List ByteArray) (s : ByteArray) (w : World) (hS : IsStrs w a n ss) :
    Calls Tryz.prog 20 #[.agg (ruleA k mn mx (.slice a n c)), .string s] w fun e w' => e = .returned (.bool (lightB ss s)) ∧ Below w.heap.size w w' := by
  have hlen := hS.len
  unfold ruleA
  have hS' := hid (hS.alloc (.cells #[.int .i64 k, .int .i64 mn, .int .i64 mx, .slice a n c] 37))
  clear hS
  go_enter Tryz.func20, Tryz.ntmps20
  go_wp2
  generalize hW : World.alloc w _ = W at hS' ⊢
  have r := hid (show RowAt W w.heap.size 37 #[.int .i64 k, .int .i64 mn, .int .i64 mx, .slice a n c] by rw [← hW]; exact RowAt.new w _ _)
  have b := hid (show Below w.heap.size w W by rw [← hW]; exact below_al (Below.refl _ _) _)
  have k3 := r.out.cell (j := 3) rfl
  clear hW
  go_loop [10] (fun v => ∃ i : Nat, i ≤ n ∧ v = .int .i64 i ∧ (0 < i → n ≤ 20) ∧ Hid (∀ j t, j < i → ss[j]? = some t → t.size ≤ 100)) (fun v => n - (intOf v).toNat)
  case atStart => exact ⟨0, Nat.zero_le _, rfl, fun h => by omega, fun j t hj => by omega⟩
  case round =>
    obtain ⟨i, hi, rfl, h20, HN⟩ := hrel
    by_cases hlt : i < n
    · obtain ⟨t, ht⟩ : ∃ s, ss[i]? = some s := ⟨_, List.getElem?_eq_getElem (by omega)⟩
      obtain ⟨x, rfl, hx⟩ := hS'.out.at ht
      have hd : decide ((i : Int) < (n : Int)) = true := by rw [decide_eq_true_iff]; omega
      replace ht := hid ht
      have hne : ss.isEmpty = false := by
        cases ss with
        | nil => simp at hlen; omega
        | cons _ _ => rfl
      replace hne := hid hne
      by_cases g1 : 20 < n
      · have t1 : decide ((20 : Int) < (n : Int)) = true := decide_eq_true (by omega)
        have t1' : (20 : Int) < (n : Int) := by omega
        have hf : lightB ss s = false := by unfold lightB; rw [hne.out, hlen, decide_eq_false (show ¬ n ≤ 20 by omega)]; simp
        replace hf := hid hf
        clear g1
        go_wp2
        go_ret
        exact ⟨by rw [hf.out]; rfl, b.out⟩
      · have t1 : decide ((20 : Int) < (n : Int)) = false := decide_eq_false (by omega)
        have t1' : ¬ (20 : Int) < (n : Int) := by omega
        by_cases g2 : 100 < t.size
        · have t2 : decide ((100 : Int) < (t.size : Int)) = true := decide_eq_true (by omega)
          have t2' : (100 : Int) < (t.size : Int) := by omega
          have hf : lightB ss s = false := by
            have : (ss.all fun t => decide (t.size ≤ 100)) = false := by
              rw [Bool.eq_false_iff]; intro h
              have := List.all_eq_true.1 h t (List.mem_of_getElem? ht.out)
              simp at this; omega
            unfold lightB; rw [hne.out, this]; simp
          replace hf := hid hf
          clear g1 g2
          go_wp2
          go_ret
          exact ⟨by rw [hf.out]; rfl, b.out⟩
        · have t2 : decide ((100 : Int) < (t.size : Int)) = false := decide_eq_false (by omega)
          have t2' : ¬ (100 : Int) < (t.size : Int) := by omega
          have hn20 : n ≤ 20 := by omega
          have hsz : t.size ≤ 100 := by omega
          replace hsz := hid hsz
          clear g1 g2
          go_wp2
          go_round
          case rel =>
            refine ⟨i + 1, by omega, by go_num, fun _ => hn20, fun j t' hj e => ?_⟩
            by_cases hji : j = i
            · subst hji; rw [ht.out] at e; rw [← Option.some.inj e]; exact hsz.out
            · exact HN.out j t' (by omega) e
          case measure => simp [intOf]; omega
    · obtain rfl : i = n := by omega
      have hd : decide ((i : Int) < (i : Int)) = false := by rw [decide_eq_false_iff_not]; omega
      have hf : lightB ss s = decide (s.size ≤ 1000) := by
        unfold lightB
        by_cases h0 : i = 0
        · have : ss = [] := List.eq_nil_of_length_eq_zero (by omega)
          subst this; simp
        · have hall : (ss.all fun t => decide (t.size ≤ 100)) = true := by
            rw [List.all_eq_true]
            intro t ht
            obtain ⟨j, hj, e⟩ := List.mem_iff_getElem.1 ht
            exact decide_eq_true (HN.out j t (by omega) (by rw [List.getElem?_eq_getElem hj, e]))
          rw [hall, decide_eq_true (show ss.length ≤ 20 by rw [hlen]; exact h20 (by omega))]; simp
      replace hf := hid hf
      by_cases g1 : s.size ≤ 1000
      · have t1 : decide ((s.size : Int) ≤ 1000) = true := decide_eq_true (by omega)
        have t1' : (s.size : Int) ≤ 1000 := by omega
        go_wp2
        go_ret
        exact ⟨by rw [hf.out, decide_eq_true g1]; rfl, b.out⟩
      · have t1 : decide ((s.size : Int) ≤ 1000) = false := decide_eq_false (by omega)
        have t1' : ¬ (s.size : Int) ≤ 1000 := by omega
        go_wp2
        go_ret
        exact ⟨by rw [hf.out, decide_eq_false g1]; rfl, b.out⟩

set_option maxRecDepth 100000 in
set_option maxHeartbeats 8000000 in
theorem formatFits_walk (k mn mx : Int) (a : Option Addr) (n c : Nat) (ss : List ByteArray) (s : ByteArray) (w : World) (hS : IsStrs w a n ss) (hM : MaxVar w) :
    Calls Tryz.prog 4 #[.agg (ruleA k mn mx (.slice a n c)), .string s] w fun e w' => e = .returned (.bool true) ∧ Below w.heap.size w w' := by
  have hlen := hS.len
  have LA := hid (fun w h => fmAwake_any w h)
  have LL : ∀ W, Below w.heap.size w W → Calls Tryz.prog 20 #[.agg (ruleA k mn mx (.slice a n c)), .string s] W fun e w' => e = .returned (.bool (lightB ss s)) ∧ Below W.heap.size W w' := fun W hW => light_any k mn mx a n c ss s W (hS.below hW)
  have r0 := hid (RowAt.new w (ruleA k mn mx (.slice a n c)) 37)
  have b0 := hid (below_al (Below.refl w.heap.size w) (.cells (ruleA k mn mx (.slice a n c)) 37))
  have hM0 := hid (hM.alloc (.cells (ruleA k mn mx (.slice a n c)) 37))
  obtain ⟨A, hA⟩ : ∃ A, A = ruleA k mn mx (.slice a n c) := ⟨_, rfl⟩
  have hAi : (Tryz.prog.info? 37).map (·.size) = some A.size := by rw [hA]; exact infoRule
  rw [← hA] at LL r0 b0 hM0 ⊢
  replace LL := hid LL
  replace hAi := hid hAi
  cases hl : lightB ss s with
  | false =>
    have LL' := LL.out
    rw [hl] at LL'
    replace LL' := hid LL'
    clear LL hl hS hlen hA
    go_enter Tryz.func4, Tryz.ntmps4
    go_wp2_with (first
      | (go_at_call 19; with_reducible refine (LA.out _ hM0.out).mono ?_; rintro e w1 ⟨rfl, hB⟩
         have r1 := hid (r0.out.below hB r0.out.lt)
         have b1 := hid (below_cat hB b0.out)
         clear hB r0 b0)
      | (with_reducible refine at_op (some 8) (.load 37 (.tmp 2)) ?_
         refine wpList_load_row (o := ⟨some 8, _, _, _, _, _⟩) rfl 37 (.tmp 2) rfl w.heap.size rfl 37 _ (0, 0) _ r1.out Tryz.underlying37 rfl hAi.out ?_)
      | (go_at_call 20; with_reducible refine (LL'.out _ b1.out).mono ?_; rintro e w2 ⟨rfl, hB2⟩))
    go_ret
    exact ⟨rfl, below_cat hB2 b1.out⟩
  | true =>
    obtain ⟨h20, hs, _⟩ := lightB_len hl
    have hn20 : n ≤ 20 := by omega
    have LL' := LL.out
    rw [hl] at LL'
    replace LL' := hid LL'
    have LO : ∀ W, Below w.heap.size w W → Calls Tryz.prog 21 #[.int .i64 k, .int .i64 mn, .int .i64 mx, .slice a n c] W fun e w' => ∃ a' c', e = .returned (.agg (ruleA k mn mx (.slice a' n c'))) ∧ IsStrs w' a' n ss ∧ Below W.heap.size W w' := fun W hW => ruleOf_any k mn mx a n c ss (by omega) W (hS.below hW)
    replace LO := hid LO
    have kc : ∀ W, RowAt W w.heap.size 37 A → W.cell? ⟨w.heap.size, 0, none⟩ = some (.int .i64 k) ∧ W.cell? ⟨w.heap.size, 1, none⟩ = some (.int .i64 mn) ∧ W.cell? ⟨w.heap.size, 2, none⟩ = some (.int .i64 mx) ∧ W.cell? ⟨w.heap.size, 3, none⟩ = some (.slice a n c) := fun W h => by
      rw [hA] at h; exact ⟨h.cell rfl, h.cell rfl, h.cell rfl, h.cell rfl⟩
    replace kc := hid kc
    replace hS := hid hS
    replace hA := hid hA
    clear LL hl hlen
    go_enter Tryz.func4, Tryz.ntmps4
    go_wp2_with (first
      | (go_at_call 19; with_reducible refine (LA.out _ hM0.out).mono ?_; rintro e w1 ⟨rfl, hB⟩
         have r1 := hid (r0.out.below hB r0.out.lt)
         have b1 := hid (below_cat hB b0.out)
         clear hB r0 b0)
      | (with_reducible refine at_op (some 8) (.load 37 (.tmp 2)) ?_
         refine wpList_load_row (o := ⟨some 8, _, _, _, _, _⟩) rfl 37 (.tmp 2) rfl w.heap.size rfl 37 _ (0, 0) _ r1.out Tryz.underlying37 rfl hAi.out ?_)
      | (go_at_call 20; with_reducible refine (LL'.out _ b1.out).mono ?_; rintro e w2 ⟨rfl, hB2⟩
         have r2 := hid (r1.out.below hB2 r1.out.lt)
         have b2 := hid (below_cat hB2 b1.out)
         obtain ⟨e0, e1, e2, e3⟩ := kc.out _ r2.out
         clear hB2 r1 b1)
      | (go_at_call 21; with_reducible refine (LO.out _ b2.out).mono ?_; rintro e w3 ⟨a', c', rfl, hS', hB3⟩
         have r3 := hid (r2.out.below hB3 r2.out.lt)
         have b3 := hid (below_cat hB3 b2.out)
         replace hS' := hid hS'
         clear hB3 r2 b2 e0 e1 e2 e3 kc)
      | (with_reducible refine at_op none (.store 37 (.tmp 5) (.tmp 20)) ?_
         refine wpList_store_row (o := ⟨none, .store _ (.tmp 5) (.tmp 20), _, _, _, _⟩) rfl 37 (.tmp 5) (.tmp 20) rfl w3.heap.size (ruleA k mn mx (.slice a' n c')) rfl rfl 37 _ (RowAt.new w3 _ _) infoRule rfl (ruleA_one _ _ _ _ _ _) ?_
         generalize hY : World.setRow _ _ _ = Y
         have bb : Below w3.heap.size w3 Y := by rw [← hY]; exact below_setRow (below_al (Below.refl _ _) _) (Nat.le_refl _) _
         have r5 : RowAt Y w3.heap.size 37 (ruleA k mn mx (.slice a' n c')) := by rw [← hY]; exact (RowAt.new w3 _ _).setRow _
         have r4 := r3.out.below bb r3.out.lt
         have b4 := below_cat bb b3.out
         have hM4 := hM.below b4
         have hS4 := hS.out.below b4
         have hS5 := hS'.out.below bb
         generalize w3.heap.size = g at r5 ⊢
         clear hY bb r3 b3 hS'))
    simp only [Act.put]
    have q2 := fun q : Sub Y => loadAt_row (r4.below q.h r4.lt) 37 _ Tryz.underlying37 rfl hAi.out
    have q5 := fun q : Sub Y => loadAt_row (r5.below q.h r5.lt) 37 _ Tryz.underlying37 rfl infoRule
    have F2 : ∀ q : Sub Y, Calls Tryz.prog 22 #[.agg A, .string s] q.x fun e w' => e = .returned (.bool (fitsN k mn mx ss s)) ∧ Below q.x.heap.size q.x w' := fun q => by
      rw [hA.out]; exact ruleFits_any k mn mx a n c ss (by omega) s hs _ (hS4.below q.h) (hM4.below q.h)
    have F5 := fun q : Sub Y => ruleFits_any k mn mx a' n c' ss (by omega) s hs q.x (hS5.below q.h) (hM4.below q.h)
    have R2 : ∀ q : Sub Y, Calls Tryz.prog 23 #[.agg A, .string s] q.x fun e w' => e = .returned (.bool (fitsN k mn mx ss s)) ∧ Below q.x.heap.size q.x w' := fun q => by
      rw [hA.out]; exact ruleRefFits_any k mn mx a n c ss (by omega) s hs _ (hS4.below q.h)
    have C2 : ∀ q : Sub Y, Calls Tryz.prog 24 #[.agg A] q.x fun e w' => e = .returned (.int .i64 (chkN k mn mx n)) ∧ Below q.x.heap.size q.x w' := fun q => by
      rw [hA.out]; exact ruleCheck_any k mn mx a n c _
    have C5 := fun q : Sub Y => ruleCheck_any k mn mx a' n c' q.x
    have D2 : ∀ q : Sub Y, Calls Tryz.prog 25 #[.agg A] q.x fun e w' => e = .returned (.int .i64 (chkN k mn mx n)) ∧ Below q.x.heap.size q.x w' := fun q => by
      rw [hA.out]; exact ruleRefCheck_any k mn mx a n c _
    obtain ⟨f, hf⟩ : ∃ f, fitsN k mn mx ss s = f := ⟨_, rfl⟩
    obtain ⟨er, he⟩ : ∃ f, chkN k mn mx n = f := ⟨_, rfl⟩
    obtain ⟨B, hB⟩ : ∃ B, ruleA k mn mx (.slice a' n c') = B := ⟨_, rfl⟩
    simp only [hf, hB] at F2 F5 R2 q5
    simp only [he, hB] at C2 C5 D2
    replace F2 := hid F2
    replace F5 := hid F5
    replace R2 := hid R2
    replace C2 := hid C2
    replace C5 := hid C5
    replace D2 := hid D2
    replace b4 := hid b4
    clear hf he r4 r5 hM4 hS4 hS5
    rw [hB]
    clear hB
    refine wp_region_sub (by kernel_rfl) (by kernel_rfl) ?_
    repeat (first
      | (go_big_quiet_want; refine quiet_load 37 (.tmp 2) rfl rfl q2 ?_; simp only [Act.put, List.setIfInBounds_toArray, List.set_cons_zero, List.set_cons_succ]; go_big_quiet_on)
      | (go_big_quiet_want; refine quiet_load 37 (.tmp 5) rfl rfl q5 ?_; simp only [Act.put, List.setIfInBounds_toArray, List.set_cons_zero, List.set_cons_succ]; go_big_quiet_on)
      | go_big_quiet_step (first
      | (go_at_call 22; with_reducible refine Sub.call _ (F2.out _))
      | (go_at_call 22; with_reducible refine Sub.call _ (F5.out _))
      | (go_at_call 23; with_reducible refine Sub.call _ (R2.out _))
      | (go_at_call 24; with_reducible refine Sub.call _ (C2.out _))
      | (go_at_call 24; with_reducible refine Sub.call _ (C5.out _))
      | (go_at_call 25; with_reducible refine Sub.call _ (D2.out _))))
    refine wpQuiet_nil ?_
    intro q
    go_wp2
    go_ret
    exact ⟨rfl, below_cat q.h b4.out⟩
theorem formatFits_row (k mn mx : Int) (a : Option Addr) (n c : Nat) (ss : List ByteArray) (s : ByteArray) (w : World) (_ : (Lit.int .i64 k).wf = true) (_ : (Lit.int .i64 mn).wf = true) (_ : (Lit.int .i64 mx).wf = true) (hS : IsStrs w a n ss) (_ : s.size ≤ 140737488351232) (hM : MaxVar w) :
    Calls Tryz.prog 4 #[.agg #[.int .i64 k, .int .i64 mn, .int .i64 mx, .slice a n c], .string s] w fun e w' => e = .returned (.bool true) ∧ Below w.heap.size w w' := formatFits_walk k mn mx a n c ss s w hS hM
end Go.Proofs.YtdjlpmelmhhooaaGreatDoor
