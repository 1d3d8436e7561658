/- Format: shown. -/
import Derived.Test.YtdjlpmelmhhooaaGreatDoorUtfX3
namespace Go.Proofs.YtdjlpmelmhhooaaGreatDoor
open Go Go.RowKit
set_option linter.unusedSimpArgs false
set_option linter.unusedVariables false

def okC (c : Nat) : Bool := !(decide (c < 32) || decide (c = 127))
def allC (l : List (Nat × Nat)) : Bool := l.all fun p => okC p.2
theorem allC_snoc (l : List (Nat × Nat)) (x : Nat × Nat) : allC (l ++ [x]) = (allC l && okC x.2) := by simp [allC]
theorem allC_append (l m : List (Nat × Nat)) : allC (l ++ m) = (allC l && allC m) := by simp [allC]
def shownB (s : ByteArray) : Bool := allC (runesN s.data.toList) && decide (badN s < 0)
attribute [local go_sem] Oper.semAt_some
set_option maxRecDepth 100000 in
set_option maxHeartbeats 4000000 in
theorem shown_any (s : ByteArray) (hs : s.size ≤ 140737488351232) (w : World) : Calls Tryz.prog 61 #[.string s] w fun e w' => e = .returned (.bool (shownB s)) ∧ Below w.heap.size w w' := by
  refine (callsIn_wide (n := 0)).1 ?_
  refine callsIn_of_wp_marks Tryz.func61 rfl trivial ?_
  simp only [Tryz.ntmps61, List.size_toArray, List.length_cons, List.length_nil, Nat.reduceAdd, Nat.reduceSub, Array.replicate_succ, Array.replicate_zero, List.push_toArray, List.append_toArray, List.nil_append, List.cons_append]
  gi_wp2_with (refine ⟨trivial, rfl, ?_⟩; gi_at_call 99; refine (callsIn_wide.2 (runes_make s _)).mono ?_; rintro e w' ⟨rfl, rfl⟩)
  obtain ⟨W0, hW0⟩ : ∃ W0, (w.alloc (.cells #[.bool false] 4)).alloc (.cells #[.string s] 9) = W0 := ⟨_, rfl⟩
  have hc : RowAt W0 w.heap.size 4 #[.bool false] := by rw [← hW0]; exact (RowAt.new w _ _).alloc _
  have hbx : RowAt W0 (w.heap.size + 1) 9 #[.string s] := by rw [← hW0]; have := RowAt.new (w.alloc (.cells #[.bool false] 4)) #[.string s] 9; rwa [World.size_alloc] at this
  have hB : Below w.heap.size w W0 := by rw [← hW0]; exact below_al (below_al (Below.refl _ _) _) _
  have hsz : w.heap.size + 2 ≤ W0.heap.size := by rw [← hW0]; simp
  rw [hW0]
  clear hW0
  refine wp_iter_put (gf := 127) (lb := #[.pointer (some ⟨w.heap.size + 1, 0, none⟩)]) rfl (enters_of Tryz.func127 (by kernel_rfl) rfl) (runes_on s hs (w.heap.size + 1) W0 hbx)
    (fun _ h => h.elim) (fun k hk => by subst hk; exact hbx.lt) (fun _ => rfl) (fun x => [(4, .int .i32 (x.2 : Nat))])
    (fun pre W => (RowAt W w.heap.size 4 #[.bool false] ∧ Below w.heap.size w W) ∧ allC pre = true)
    (fun c pre W => (RowAt W w.heap.size 4 #[.bool false] ∧ Below w.heap.size w W) ∧ allC pre = false ∧ c = .ret) ?hI ?hIx ⟨⟨hc, hB⟩, rfl⟩ ?assign ?body ?done ?stop
  case hI =>
    rintro pre X Y ⟨⟨h1, h2⟩, h3⟩ hk
    exact ⟨⟨hk.row h1 (fun h => by rcases h with h | h | h <;> first | exact h | omega), below_kept h2 hk (Nat.le_refl _) (fun k h => by rcases h with h | h | h; exact h.elim; all_goals omega)⟩, h3⟩
  case hIx =>
    rintro c pre X Y ⟨⟨h1, h2⟩, h3⟩ hk
    exact ⟨⟨hk.row h1 (fun h => by rcases h with h | h | h <;> first | exact h | omega), below_kept h2 hk (Nat.le_refl _) (fun k h => by rcases h with h | h | h; exact h.elim; all_goals omega)⟩, h3⟩
  case assign =>
    intro l x W K hK
    gi_wp2
    simpa [encRn, putAll] using hK
  case body =>
    rintro pre x post W hx hWs _ ⟨⟨h1, h2⟩, h3⟩
    have hcell := h1.cell (j := 0) rfl
    have hfr := h1.free 0
    have hkp : Kept (fun k => ¬ (twoOf W0.heap.size k ∨ k = w.heap.size + 1)) W (W.setCell ⟨w.heap.size, 0, none⟩ (.bool false)) := (Kept.refl _ _).setCell _ (.inl (by
      rintro (h | h)
      · rcases h with h | h <;> simp at h <;> omega
      · simp at h)) _
    have h1' := (h1.set 0 (.bool false)).eqA (A' := #[.bool false]) (by simp)
    have h2' := h2.setCell (p := ⟨w.heap.size, 0, none⟩) (Nat.le_refl _) (.bool false)
    have hok : allC (pre ++ [x]) = okC x.2 := by rw [allC_snoc, h3]; simp
    obtain ⟨c, hcx⟩ : ∃ c, c = x.2 := ⟨_, rfl⟩
    rw [← hcx] at hok
    simp only [encRn]
    rw [fold2]
    simp only [putAll, List.zip_toArray, List.foldl_toArray', List.foldl_toArray, List.zip_cons_cons, List.zip_nil_left, List.foldl_cons, List.foldl_nil, List.setIfInBounds_toArray, List.set_cons_zero, List.set_cons_succ, ← hcx]
    replace hok := hid hok
    replace h1 := hid h1
    replace h2 := hid h2
    replace h1' := hid h1'
    replace h2' := hid h2'
    replace hkp := hid hkp
    clear hx h3 hcx
    by_cases q1 : c < 32
    · have t1 : decide ((c : Int) < 32) = true := decide_eq_true (by omega)
      have q2 : (c : Int) < 32 := by omega
      have hf : okC c = false := by simp [okC, q1]
      replace hf := hid hf
      clear q1
      gi_wp2
      exact ⟨hkp.out, ⟨h1'.out, h2'.out⟩, by rw [hok.out, hf.out], rfl⟩
    · have t1 : decide ((c : Int) < 32) = false := decide_eq_false (by omega)
      have q2 : ¬ (c : Int) < 32 := by omega
      by_cases q3 : c = 127
      · have t2 : ((c : Int) == 127) = true := by rw [beq_iff_eq]; omega
        have hf : okC c = false := by simp [okC, q3]
        replace hf := hid hf
        clear q1 q3
        gi_wp2
        exact ⟨hkp.out, ⟨h1'.out, h2'.out⟩, by rw [hok.out, hf.out], rfl⟩
      · have t2 : ((c : Int) == 127) = false := by rw [beq_eq_false_iff_ne]; omega
        have hf : okC c = true := by simp [okC, q1, q3]
        replace hf := hid hf
        clear q1 q3
        gi_wp2
        exact ⟨Kept.refl _ _, ⟨h1.out, h2.out⟩, by rw [hok.out, hf.out]⟩
  case done =>
    rintro W hWs ⟨⟨h1, h2⟩, h3⟩ hd
    have LV := fun w => valid_any s hs w
    have hb : shownB s = decide (badN s < 0) := by unfold shownB; rw [h3]; simp
    clear h3
    obtain ⟨b, hbb⟩ : ∃ b, b = decide (badN s < 0) := ⟨_, rfl⟩
    rw [← hbb] at LV hb
    replace hb := hid hb
    replace LV := hid LV
    replace h1 := hid h1
    replace h2 := hid h2
    replace hd := hid hd
    clear hbb
    gi_wp2_with (refine ⟨trivial, rfl, ?_⟩; gi_at_call 100; refine (callsIn_wide.2 (LV.out _)).mono ?_; rintro e w5 ⟨rfl, hB5⟩
                 have r5 := h1.out.below hB5 h1.out.lt
                 have c5 := r5.cell (j := 0) rfl
                 have f5 := r5.free 0
                 have d5 := (hB5.block _ (Array.getElem?_eq_some_iff.1 hd.out).1).trans hd.out
                 have b5 := below_cat hB5 h2.out
                 replace r5 := hid r5
                 replace d5 := hid d5
                 replace b5 := hid b5)
    have r6 := (r5.out.set 0 (.bool b)).eqA (A' := #[.bool b]) (by simp)
    have d6 := defer_cell d5.out ⟨w.heap.size, 0, none⟩ (.bool b) (by show W0.heap.size ≠ w.heap.size; omega)
    have b6 := b5.out.setCell (p := ⟨w.heap.size, 0, none⟩) (Nat.le_refl _) (.bool b)
    generalize w5.setCell ⟨w.heap.size, 0, none⟩ (.bool b) = Z at r6 d6 b6 ⊢
    have r7 : RowAt (Z.putObj W0.heap.size (.deferred none)) w.heap.size 4 #[.bool b] := (World.putObj_heap_other (by omega)).trans r6
    refine leave_one d6 ⟨_, results_cell1 rfl _ _ _ _ rfl (r7.cell (j := 0) rfl) Tryz.underlying4, by rw [hb.out]; rfl, ?_⟩
    exact below_kept b6 ((Kept.refl (fun k => k = W0.heap.size) _).putObj _ _ (.inl rfl)) (Nat.le_refl _) (fun k hk => by omega)
  case stop =>
    rintro c pre x post W hWs hx ⟨⟨h1, h2⟩, h3, rfl⟩ hd
    have hb : shownB s = false := by
      unfold shownB; rw [hx, show pre ++ x :: post = (pre ++ [x]) ++ post by simp, allC_append, h3]; simp
    replace hb := hid hb
    have hcell := h1.cell (j := 0) rfl
    gi_wp2
    have r7 : RowAt (W.putObj W0.heap.size (.deferred none)) w.heap.size 4 #[.bool false] := (World.putObj_heap_other (by omega)).trans h1
    refine leave_one hd ⟨_, results_cell1 rfl _ _ _ _ rfl (r7.cell (j := 0) rfl) Tryz.underlying4, by rw [hb.out]; rfl, ?_⟩
    exact below_kept h2 ((Kept.refl (fun k => k = W0.heap.size) _).putObj _ _ (.inl rfl)) (Nat.le_refl _) (fun k hk => by omega)
end Go.Proofs.YtdjlpmelmhhooaaGreatDoor
