/- Format: the walk of FormatNames. -/
import Derived.Test.YtdjlpmelmhhooaaGreatDoorFmN
namespace Go.Proofs.YtdjlpmelmhhooaaGreatDoor
open Go Go.RowKit
set_option linter.unusedSimpArgs false
set_option linter.unusedVariables false

def wantA : Array Value := #[.string ⟨#[100, 105, 103, 105, 116, 115]⟩, .string ⟨#[116, 101, 120, 116]⟩, .string ⟨#[105, 100]⟩, .string ⟨#[97, 109, 111, 110, 103]⟩, .string ⟨#[99, 97, 114, 100]⟩, .string ⟨#[100, 97, 116, 101]⟩, .string ⟨#[112, 114, 111, 111, 102]⟩, .string ⟨#[97, 109, 111, 117, 110, 116]⟩]
theorem wantA_get : ∀ i, i < 8 → wantA[i]? = some (.string (nmS (i + 1)))
  | 0, _ => rfl
  | 1, _ => rfl
  | 2, _ => rfl
  | 3, _ => rfl
  | 4, _ => rfl
  | 5, _ => rfl
  | 6, _ => rfl
  | 7, _ => rfl
theorem kindsL_pre {pre post : List Nat} {x : Nat} (h : kindsL = pre ++ x :: post) : pre.length < 8 ∧ x = pre.length + 1 := by
  have h1 : pre.length < 8 := by
    have := congrArg List.length h
    simp [kindsL] at this; omega
  refine ⟨h1, ?_⟩
  have h2 : kindsL[pre.length]? = some x := by rw [h]; simp
  have h3 : ∀ i, i < 8 → kindsL[i]? = some (i + 1) := by decide
  rw [h3 _ h1] at h2
  exact (Option.some.inj h2).symm
/-- What lies beside the loop. -/
structure Nm (w W : World) (g st n : Nat) : Prop where
  bel : Below w.heap.size w W
  r3 : RowAt W w.heap.size 5 #[.int .u8 (st : Nat)]
  r4 : RowAt W (w.heap.size + 1) 4 #[.bool false]
  rg : RowAt W g 9 wantA
  r5 : RowAt W (g + 1) 35 #[.slice (some ⟨g, 0, none⟩) 8 8]
  r6 : RowAt W (g + 2) 3 #[.int .i64 (n : Nat)]
theorem Nm.kept {w W W' : World} {g st n : Nat} {S : Nat → Prop} (h : Nm w W g st n) (hk : Kept S W W') (hS : ∀ k, S k → g + 3 ≤ k) (hg : w.heap.size + 2 ≤ g) : Nm w W' g st n :=
  ⟨below_kept h.bel hk (Nat.le_refl _) (fun k hk' => by have := hS k hk'; omega), hk.row h.r3 (fun x => by have := hS _ x; omega), hk.row h.r4 (fun x => by have := hS _ x; omega), hk.row h.rg (fun x => by have := hS _ x; omega),
    hk.row h.r5 (fun x => by have := hS _ x; omega), hk.row h.r6 (fun x => by have := hS _ x; omega)⟩
theorem Nm.below {w W W' : World} {g st n : Nat} (h : Nm w W g st n) (hb : Below W.heap.size W W') : Nm w W' g st n :=
  ⟨below_cat hb h.bel, h.r3.below hb h.r3.lt, h.r4.below hb h.r4.lt, h.rg.below hb h.rg.lt, h.r5.below hb h.r5.lt, h.r6.below hb h.r6.lt⟩
theorem Nm.next {w W : World} {g st n : Nat} (h : Nm w W g st n) (hg : w.heap.size + 2 ≤ g) : Nm w (W.setCell ⟨g + 2, 0, none⟩ (.int .i64 ((n + 1 : Nat) : Int))) g st (n + 1) :=
  ⟨h.bel.setCell (by show w.heap.size ≤ g + 2; omega) _, h.r3.other _ _ (by show w.heap.size ≠ g + 2; omega), h.r4.other _ _ (by show w.heap.size + 1 ≠ g + 2; omega), h.rg.other _ _ (by show g ≠ g + 2; omega), h.r5.other _ _ (by show g + 1 ≠ g + 2; omega), by simpa using h.r6.set 0 (.int .i64 ((n + 1 : Nat) : Int))⟩

attribute [local go_sem] Oper.semAt_some
set_option maxRecDepth 100000 in
set_option maxHeartbeats 16000000 in
theorem names_core (kind : Int) (st : Nat) (hst : st < 256) (w : World) (hM : MaxVar w) :
    Calls Tryz.prog 6 #[.int .i64 kind, .int .u8 (st : Nat)] w fun e w' => e = .returned (.bool true) ∧ Below w.heap.size w w' := by
  refine (callsIn_wide (n := 0)).1 ?_
  refine callsIn_of_wp_marks Tryz.func6 rfl trivial ?_
  simp only [Tryz.ntmps6, List.size_toArray, List.length_cons, List.length_nil, Nat.reduceAdd, Nat.reduceSub, Array.replicate_succ, Array.replicate_zero, List.push_toArray, List.append_toArray, List.nil_append, List.cons_append]
  have LA := hid (fun w h => fmAwake_any w h)
  have hM0 := hid (fun o o' => (hM.alloc o).alloc o')
  clear hM
  gi_wp2_with (first
    | (refine ⟨trivial, rfl, ?_⟩; gi_at_call 19; refine (callsIn_wide.2 (LA.out _ (hM0.out _ _))).mono ?_; rintro e w1 ⟨rfl, hB⟩
       have r3 := hid (((RowAt.new w #[.int .u8 (st : Nat)] 5).alloc (.cells #[.bool false] 4)).below hB (by simp only [World.size_alloc]; omega))
       have r4 := hid ((RowAt.newS w #[.int .u8 (st : Nat)] #[.bool false] 5 4).below hB (by simp only [World.size_alloc]; omega))
       have b1 := hid (below_cat hB (below_al (below_al (Below.refl w.heap.size w) _) _))
       have s1 : w.heap.size + 2 ≤ w1.heap.size := by have := hB.size; simp at this; omega
       clear hB hM0)
    | (refine ⟨trivial, rfl, ?_⟩; gi_at_call 26; refine (callsIn_wide.2 (kinds_none _)).mono ?_; rintro e w2 ⟨rfl, rfl⟩))
  generalize hW0 : World.alloc (World.alloc (World.alloc w1 _) _) _ = W0
  have hN0 : Nm w W0 w1.heap.size st 0 := by
    refine ⟨?_, ?_, ?_, ?_, ?_, ?_⟩
    · rw [← hW0]; exact below_al (below_al (below_al b1.out _) _) _
    · rw [← hW0]; exact ((r3.out.alloc _).alloc _).alloc _
    · rw [← hW0]; exact ((r4.out.alloc _).alloc _).alloc _
    · rw [← hW0]; exact ((RowAt.new w1 _ _).alloc _).alloc _
    · rw [← hW0]; exact (RowAt.newS w1 _ _ _ _).alloc _
    · rw [← hW0]
      have := RowAt.newS (w1.alloc (.cells wantA 9)) #[.slice (some ⟨w1.heap.size, 0, none⟩) 8 8] #[.int .i64 0] 35 3
      rwa [World.size_alloc] at this
  have hsz : w1.heap.size + 3 ≤ W0.heap.size := by rw [← hW0]; simp
  generalize w1.heap.size = g at hN0 hsz s1 ⊢
  clear hW0 r3 r4 b1
  refine wp_iter_put (gf := 71) (lb := #[]) rfl (enters_of Tryz.func71 (by kernel_rfl) rfl) (kinds_on W0)
    (fun _ h => h.elim) (fun _ h => h.elim) (fun _ => rfl) (fun x => [(7, .int .i64 (x : Nat)), (8, .string (nmS x))])
    (fun pre W => Nm w W g st pre.length ∧ pre.length ≤ st)
    (fun c pre W => Nm w W g st pre.length ∧ pre.length = st + 1 ∧ c = .exit 0) ?hI ?hIx ⟨hN0, Nat.zero_le _⟩ ?assign ?body ?done ?stop
  case hI =>
    rintro pre X Y ⟨h1, h2⟩ hk
    exact ⟨h1.kept hk (fun k h => by rcases h with h | h | h; exact h.elim; all_goals omega) s1, h2⟩
  case hIx =>
    rintro c pre X Y ⟨h1, h2⟩ hk
    exact ⟨h1.kept hk (fun k h => by rcases h with h | h | h; exact h.elim; all_goals omega) s1, h2⟩
  case assign =>
    intro l x W K hK
    gi_wp2
    simpa [encK, putAll] using hK
  case body =>
    rintro pre x post W hx hWs _ ⟨h1, h2⟩
    obtain ⟨hp8, hxp⟩ := kindsL_pre hx
    have LN := hid (fun w => name_in x (by omega) (by omega) w)
    have hwant := h1.rg.cell (wantA_get pre.length hp8)
    rw [← hxp] at hwant
    obtain ⟨n, hn⟩ : ∃ n, pre.length = n := ⟨_, rfl⟩
    rw [hn] at h1 h2 hp8 hxp hwant
    have hlen : (pre ++ [x]).length = n + 1 := by simp [hn]
    have c5 := h1.r5.cell (j := 0) rfl
    have c6 := h1.r6.cell (j := 0) rfl
    have g1 : ¬ (8 : Int) ≤ (n : Int) := by omega
    have g1' : decide ((8 : Int) ≤ (n : Int)) = false := decide_eq_false g1
    have g2 : ((x : Int) != (n : Int) + 1) = false := by rw [bne_eq_false_iff_eq]; omega
    have g3 : (n : Int) < 8 := by omega
    obtain ⟨s, hs⟩ : ∃ s, s = nmS x := ⟨_, rfl⟩
    simp only [encK]
    rw [fold2]
    simp only [putAll, List.zip_toArray, List.foldl_toArray', List.foldl_toArray, List.zip_cons_cons, List.zip_nil_left, List.foldl_cons, List.foldl_nil, List.setIfInBounds_toArray, List.set_cons_zero, List.set_cons_succ, ← hs]
    rw [← hs] at hwant LN
    replace h1 := hid h1
    replace hxp := hid hxp
    replace hn := hid hn
    replace hlen := hid hlen
    clear hx hs
    have ht : (decide ((st : Int) < (n : Int) + 1) = true ∧ n = st) ∨ (decide ((st : Int) < (n : Int) + 1) = false ∧ n + 1 ≤ st) := by
      by_cases q : st < n + 1
      · left; exact ⟨decide_eq_true (by omega), by omega⟩
      · right; exact ⟨decide_eq_false (by omega), by omega⟩
    rcases ht with ⟨t, q⟩ | ⟨t, q⟩
    case' inl => replace q := hid q
    case' inr => replace q := hid q
    all_goals
      gi_wp2_with (refine ⟨trivial, rfl, ?_⟩; gi_at_call 27; refine (CallsIn.inRound _ (callsIn_wide.2 (LN.out _))).mono ?_; rintro e w2 ⟨rfl, hB⟩
                   have n2 := h1.out.below hB
                   have hkp := (Kept.of_below (S := fun k => ¬ (twoOf W0.heap.size k ∨ False)) hB).setCell ⟨g + 2, 0, none⟩ (.inl (by
                     rintro (h | h)
                     · rcases h with h | h <;> simp at h <;> omega
                     · exact h)) (.int .i64 ((n + 1 : Nat) : Int))
                   have n3 := n2.next s1
                   have c6b := n2.r6.cell (j := 0) rfl
                   have f6b := n2.r6.free 0
                   have c3b := n2.r3.cell (j := 0) rfl
                   have d6 := n3.r6.cell (j := 0) rfl
                   have d3 := n3.r3.cell (j := 0) rfl
                   replace n3 := hid n3
                   replace hkp := hid hkp
                   clear n2 hB h1 c5 c6 hwant)
    all_goals first
      | exact ⟨hkp.out, by rw [hlen.out]; exact n3.out, by rw [hlen.out, q.out], rfl⟩
      | exact ⟨hkp.out, by rw [hlen.out]; exact n3.out, by rw [hlen.out]; exact q.out⟩
  case done =>
    rintro W hWs ⟨h1, h2⟩ hd
    have hl8 : kindsL.length = 8 := rfl
    rw [hl8] at h1 h2
    obtain ⟨N, hNN⟩ : ∃ N, N = 8 := ⟨_, rfl⟩
    rw [← hNN] at h1
    have hmn := fun ts t w => run_mn2 (P := Tryz.prog) ts t .i64 8 ((st : Int) + 1) w
    have hmin : min (8 : Int) ((st : Int) + 1) = (N : Int) := by omega
    rw [hmin] at hmn
    have hN8 : (N : Int) ≤ 8 := by omega
    have hst1 : (st : Int) + 1 ≤ 256 := by omega
    have c3 := h1.r3.cell (j := 0) rfl
    have c6 := h1.r6.cell (j := 0) rfl
    have f4 := h1.r4.free 0
    have d4 := h1.r4.cell (j := 0) rfl
    have hd2 := defer_cell hd ⟨w.heap.size + 1, 0, none⟩ (.bool true) (by show W0.heap.size ≠ w.heap.size + 1; omega)
    have r9 := (h1.r4.set 0 (.bool true)).eqA (A' := #[.bool true]) (by simp)
    have b9 := h1.bel.setCell (p := ⟨w.heap.size + 1, 0, none⟩) (by show w.heap.size ≤ w.heap.size + 1; omega) (.bool true)
    have hk3 : kind < 1 ∨ 8 < kind ∨ (1 ≤ kind ∧ kind ≤ 8) := by omega
    rcases hk3 with g1 | g1 | ⟨g1, g1b⟩
    case' inr.inr =>
      have g1' : decide (1 ≤ kind) = true := decide_eq_true g1
      have g2' : decide (kind ≤ 8) = true := decide_eq_true g1b
      replace r9 := hid r9
      replace hd2 := hid hd2
      replace b9 := hid b9
      clear h1 hd hmin
      gi_wp2_with (refine ⟨trivial, ?_⟩)
      have r10 := r9.out
      have b10 := b9.out
      have d10 := hd2.out
    case' inl =>
      have g1' : decide (1 ≤ kind) = false := decide_eq_false (by omega)
      have LN := hid (fun w => name_out kind (.inl g1) w)
    case' inr.inl =>
      have g0 : 1 ≤ kind := by omega
      have g0' : decide (1 ≤ kind) = true := decide_eq_true g0
      have g1' : decide (kind ≤ 8) = false := decide_eq_false (by omega)
      have LN := hid (fun w => name_out kind (.inr g1) w)
    case' inl => skip
    all_goals first
      | (generalize W.setCell ⟨w.heap.size + 1, 0, none⟩ (.bool true) = Z at r10 d10 b10 ⊢
         have r7 : RowAt (Z.putObj W0.heap.size (.deferred none)) (w.heap.size + 1) 4 #[.bool true] := (World.putObj_heap_other (by omega)).trans r10
         refine leave_one d10 ⟨_, results_cell1 rfl _ _ _ _ rfl (r7.cell (j := 0) rfl) Tryz.underlying4, rfl, ?_⟩
         exact below_kept b10 ((Kept.refl (fun k => k = W0.heap.size) _).putObj _ _ (.inl rfl)) (Nat.le_refl _) (fun k hk => by omega))
      | (replace h1 := hid h1
         replace hd := hid hd
         clear r9 hd2 b9 hmin f4 d4
         gi_wp2_with (refine ⟨trivial, rfl, ?_⟩; gi_at_call 27; refine (callsIn_wide.2 (LN.out _)).mono ?_; rintro e w5 ⟨rfl, hB5⟩
                      have n5 := h1.out.below hB5
                      have d5 := defer_cell (defer_below hd.out hB5) ⟨w.heap.size + 1, 0, none⟩ (.bool true) (by show W0.heap.size ≠ w.heap.size + 1; omega)
                      have r10 := (n5.r4.set 0 (.bool true)).eqA (A' := #[.bool true]) (by simp)
                      have b10 := n5.bel.setCell (p := ⟨w.heap.size + 1, 0, none⟩) (by show w.heap.size ≤ w.heap.size + 1; omega) (.bool true)
                      have f4 := n5.r4.free 0
                      have d4 := n5.r4.cell (j := 0) rfl
                      have c6 := n5.r6.cell (j := 0) rfl
                      replace r10 := hid r10
                      replace b10 := hid b10
                      replace d5 := hid d5
                      clear n5 hB5)
         replace r10 := r10.out
         replace b10 := b10.out
         have d10 := d5.out
         generalize w5.setCell ⟨w.heap.size + 1, 0, none⟩ (.bool true) = Z at r10 d10 b10 ⊢
         have r7 : RowAt (Z.putObj W0.heap.size (.deferred none)) (w.heap.size + 1) 4 #[.bool true] := (World.putObj_heap_other (by omega)).trans r10
         refine leave_one d10 ⟨_, results_cell1 rfl _ _ _ _ rfl (r7.cell (j := 0) rfl) Tryz.underlying4, rfl, ?_⟩
         exact below_kept b10 ((Kept.refl (fun k => k = W0.heap.size) _).putObj _ _ (.inl rfl)) (Nat.le_refl _) (fun k hk => by omega))
  case stop =>
    rintro c pre x post W hWs hx ⟨h1, h2, rfl⟩ hd
    obtain ⟨hp8, hxp⟩ := kindsL_pre hx
    obtain ⟨N, hNN⟩ : ∃ N, N = (pre ++ [x]).length := ⟨_, rfl⟩
    have hNl : N = pre.length + 1 := by rw [hNN]; simp
    rw [← hNN] at h1 h2
    clear hx
    have hmn := fun ts t w => run_mn2 (P := Tryz.prog) ts t .i64 8 ((st : Int) + 1) w
    have hmin : min (8 : Int) ((st : Int) + 1) = (N : Int) := by omega
    rw [hmin] at hmn
    have hN8 : (N : Int) ≤ 8 := by omega
    have hst1 : (st : Int) + 1 ≤ 256 := by omega
    have c3 := h1.r3.cell (j := 0) rfl
    have c6 := h1.r6.cell (j := 0) rfl
    have f4 := h1.r4.free 0
    have d4 := h1.r4.cell (j := 0) rfl
    have hd2 := defer_cell hd ⟨w.heap.size + 1, 0, none⟩ (.bool true) (by show W0.heap.size ≠ w.heap.size + 1; omega)
    have r9 := (h1.r4.set 0 (.bool true)).eqA (A' := #[.bool true]) (by simp)
    have b9 := h1.bel.setCell (p := ⟨w.heap.size + 1, 0, none⟩) (by show w.heap.size ≤ w.heap.size + 1; omega) (.bool true)
    have hk3 : kind < 1 ∨ 8 < kind ∨ (1 ≤ kind ∧ kind ≤ 8) := by omega
    rcases hk3 with g1 | g1 | ⟨g1, g1b⟩
    case' inr.inr =>
      have g1' : decide (1 ≤ kind) = true := decide_eq_true g1
      have g2' : decide (kind ≤ 8) = true := decide_eq_true g1b
      replace r9 := hid r9
      replace hd2 := hid hd2
      replace b9 := hid b9
      clear h1 hd hmin
      gi_wp2_with (refine ⟨trivial, ?_⟩)
      have r10 := r9.out
      have b10 := b9.out
      have d10 := hd2.out
    case' inl =>
      have g1' : decide (1 ≤ kind) = false := decide_eq_false (by omega)
      have LN := hid (fun w => name_out kind (.inl g1) w)
    case' inr.inl =>
      have g0 : 1 ≤ kind := by omega
      have g0' : decide (1 ≤ kind) = true := decide_eq_true g0
      have g1' : decide (kind ≤ 8) = false := decide_eq_false (by omega)
      have LN := hid (fun w => name_out kind (.inr g1) w)
    case' inl => skip
    all_goals first
      | (generalize W.setCell ⟨w.heap.size + 1, 0, none⟩ (.bool true) = Z at r10 d10 b10 ⊢
         have r7 : RowAt (Z.putObj W0.heap.size (.deferred none)) (w.heap.size + 1) 4 #[.bool true] := (World.putObj_heap_other (by omega)).trans r10
         refine leave_one d10 ⟨_, results_cell1 rfl _ _ _ _ rfl (r7.cell (j := 0) rfl) Tryz.underlying4, rfl, ?_⟩
         exact below_kept b10 ((Kept.refl (fun k => k = W0.heap.size) _).putObj _ _ (.inl rfl)) (Nat.le_refl _) (fun k hk => by omega))
      | (replace h1 := hid h1
         replace hd := hid hd
         clear r9 hd2 b9 hmin f4 d4
         gi_wp2_with (refine ⟨trivial, rfl, ?_⟩; gi_at_call 27; refine (callsIn_wide.2 (LN.out _)).mono ?_; rintro e w5 ⟨rfl, hB5⟩
                      have n5 := h1.out.below hB5
                      have d5 := defer_cell (defer_below hd.out hB5) ⟨w.heap.size + 1, 0, none⟩ (.bool true) (by show W0.heap.size ≠ w.heap.size + 1; omega)
                      have r10 := (n5.r4.set 0 (.bool true)).eqA (A' := #[.bool true]) (by simp)
                      have b10 := n5.bel.setCell (p := ⟨w.heap.size + 1, 0, none⟩) (by show w.heap.size ≤ w.heap.size + 1; omega) (.bool true)
                      have f4 := n5.r4.free 0
                      have d4 := n5.r4.cell (j := 0) rfl
                      have c6 := n5.r6.cell (j := 0) rfl
                      replace r10 := hid r10
                      replace b10 := hid b10
                      replace d5 := hid d5
                      clear n5 hB5)
         replace r10 := r10.out
         replace b10 := b10.out
         have d10 := d5.out
         generalize w5.setCell ⟨w.heap.size + 1, 0, none⟩ (.bool true) = Z at r10 d10 b10 ⊢
         have r7 : RowAt (Z.putObj W0.heap.size (.deferred none)) (w.heap.size + 1) 4 #[.bool true] := (World.putObj_heap_other (by omega)).trans r10
         refine leave_one d10 ⟨_, results_cell1 rfl _ _ _ _ rfl (r7.cell (j := 0) rfl) Tryz.underlying4, rfl, ?_⟩
         exact below_kept b10 ((Kept.refl (fun k => k = W0.heap.size) _).putObj _ _ (.inl rfl)) (Nat.le_refl _) (fun k hk => by omega))
theorem formatNames_row (a0 a1 : Int) (w0 : (Lit.int .i64 a0).wf = true) (w1 : (Lit.int .u8 a1).wf = true) (w : World) (hM : MaxVar w) :
    Calls Tryz.prog 6 #[.int .i64 a0, .int .u8 a1] w fun e w' => e = .returned (.bool true) ∧ Below w.heap.size w w' := by
  obtain ⟨p1, q1⟩ := bounds_u8 w1
  obtain ⟨n, rfl⟩ := Int.eq_ofNat_of_zero_le p1
  exact names_core a0 n (by omega) w hM
end Go.Proofs.YtdjlpmelmhhooaaGreatDoor
