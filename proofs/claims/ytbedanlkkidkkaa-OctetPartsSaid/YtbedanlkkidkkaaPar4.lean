/- The law OctetParts. -/
import Derived.Test.YtbedanlkkidkkaaPar3
import Derived.Test.YtbedanlkkidkkaaOct3
import Derived.Maps.OwnIn
import Derived.OneCell
namespace Go.Proofs.Ytbedanlkkidkkaa
open Go Go.RowKit
set_option linter.unusedSimpArgs false
attribute [local go_sem] Oper.semAt_some

theorem leave_none {P : Program} {fn : Func} {tmps : Array Value} {R : Ending → World → Prop} {W : World} (h : ∃ v, (results fn tmps).run P W = .ok v W ∧ R (.returned v) W) :
    LeavesInM Fence.wide 0 P fn tmps R [] .returning W := h
theorem leave_two {P : Program} {fn : Func} {tmps : Array Value} {R : Ending → World → Prop} {B C : Nat} {W : World} (hd : W.heap[B]? = some (.deferred (some []))) (he : W.heap[C]? = some (.deferred (some []))) (hne : B ≠ C)
    (h : ∃ v, (results fn tmps).run P ((W.putObj B (.deferred none)).putObj C (.deferred none)) = .ok v ((W.putObj B (.deferred none)).putObj C (.deferred none)) ∧ R (.returned v) ((W.putObj B (.deferred none)).putObj C (.deferred none))) :
    LeavesInM Fence.wide 0 P fn tmps R [{ target := .collected B, args := #[] }, { target := .collected C, args := #[] }] .returning W :=
  ⟨by simp, .inl ⟨_, _, rfl, run_takeDeferred hd, ⟨by simp, .inl ⟨_, _, rfl, run_takeDeferred ((World.putObj_heap_other (Ne.symm hne)).trans he), h⟩⟩⟩⟩
theorem Strs.shape {w : World} {base : Nat} {v : Value} {ss : List ByteArray} (h : Strs w base v ss) : ∃ a c, v = .slice a ss.length c := by
  rcases h.2 with ⟨hv, h0⟩ | ⟨g, cap, cur, hv, _⟩
  · exact ⟨none, 0, by rw [hv, h0]⟩
  · exact ⟨_, cap, hv⟩
theorem Strs.lt {w : World} {base : Nat} {v : Value} {ss : List ByteArray} (h : Strs w base v ss) : ∀ g, v.ownBlock = some g → base ≤ g ∧ g < w.heap.size := fun g hg => World.ownsRow.lt h g hg

theorem own_shape {w : World} {base n : Nat} {e : TypeId} {v : Value} {xs : List Value} (h : w.ownsRow base e 1 v n xs) : ∃ a c, v = .slice a n c := by
  rcases h.2 with ⟨hv, h0⟩ | ⟨g, cap, cur, hv, _⟩
  · exact ⟨none, 0, by rw [hv, h0]⟩
  · exact ⟨_, cap, hv⟩
theorem grown_row {w w' : World} {row : Option Nat} {b : Nat} {t : TypeId} {A : Array Value} (h : RowAt w b t A) (hg : w.grownBy w' row) (hne : some b ≠ row) : RowAt w' b t A := (hg.block b h.lt hne).trans h

theorem Kept.after {S T : Nat → Prop} {A B C : World} (h : Kept S A B) (k : Kept T B C) (hT : ∀ i, i < A.heap.size → T i → S i) : Kept S A C :=
  ⟨k.os.trans h.os, k.tape.trans h.tape, k.output.trans h.output, Nat.le_trans h.size k.size, fun i hi hs => (k.block i (Nat.lt_of_lt_of_le hi h.size) (fun ht => hs (hT i hi ht))).trans (h.block i hi hs)⟩

/-- A box that holds a row of strings which grows. -/
structure Grows (c base : Nat) (ss : List ByteArray) (w W : World) : Prop where
  bel : Below w.heap.size w W
  hold : ∃ v, RowAt W c 35 #[v] ∧ Strs W base v ss
theorem Grows.kept {c base : Nat} {ss : List ByteArray} {w W W' : World} {T : Nat → Prop} (h : Grows c base ss w W) (hk : Kept T W W') (hc : ¬ T c) (hT : ∀ k, T k → w.heap.size ≤ k) (hB : ∀ k, T k → k < base) : Grows c base ss w W' := by
  obtain ⟨v, h1, h2⟩ := h.hold
  exact ⟨below_kept h.bel hk (Nat.le_refl _) hT, v, hk.row h1 hc, h2.kept hk (fun g hg x => by have := (h2.lt g hg).1; have := hB g x; omega)⟩

set_option maxRecDepth 100000 in
set_option maxHeartbeats 4000000 in
theorem parts_main (s : ByteArray) (hs : s.size ≤ 2000) (a : Option Addr) (len cap : Nat) (ss : List ByteArray) (hl : len ≤ 20) (w : World) (hin : IsStrs w a len ss) :
    CallsIn Fence.wide 0 Try.prog 5 #[.string s, .slice a len cap] w fun e w' => e = .returned (.bool true) ∧ Below w.heap.size w w' := by
  have hgt : decide ((2000 : Int) < (s.size : Int)) = false := by rw [decide_eq_false_iff_not]; omega
  have hgt2 : decide ((20 : Int) < (len : Int)) = false := by rw [decide_eq_false_iff_not]; omega
  obtain ⟨i, hi, hz0, hz1, hz2⟩ := info_parts info_str
  replace hi := hid hi
  replace hz0 := hid hz0
  replace hz1 := hid hz1
  replace hz2 := hid hz2
  replace hin := hid hin
  refine callsIn_of_wp_marks Try.func5 rfl trivial ?_
  simp only [Try.ntmps5, List.size_toArray, List.length_cons, List.length_nil, Nat.reduceAdd, Nat.reduceSub, Array.replicate_succ, Array.replicate_zero, List.push_toArray, List.append_toArray, List.nil_append, List.cons_append]
  gi_wp2_with (first
    | (refine ⟨trivial, rfl, ?_⟩; gi_at_call 7; refine (callsIn_wide.2 (awake_any _)).mono ?_; rintro e w1 ⟨rfl, hB1⟩)
    | (refine ⟨trivial, rfl, ?_⟩; gi_at_call 13; refine (callsIn_wide.2 (parts_make s _)).mono ?_; rintro e w' ⟨rfl, rfl⟩))
  generalize hW0 : World.alloc _ (Obj.cells #[Value.string s] 9) = W0
  have hsz0 : w1.heap.size + 2 ≤ W0.heap.size ∧ W0.heap.size ≤ w1.heap.size + 2 := by rw [← hW0]; simp
  have hw1 := hB1.size
  have m5 : RowAt W0 w1.heap.size 35 #[.slice none 0 0] := by rw [← hW0]; exact (RowAt.new w1 _ _).alloc _
  have m9 : RowAt W0 (w1.heap.size + 1) 9 #[.string s] := by rw [← hW0]; have := RowAt.new (w1.alloc (.cells #[.slice none 0 0] 35)) #[.string s] 9; rwa [World.size_alloc] at this
  have hb0 : Below w.heap.size w W0 := by rw [← hW0]; exact below_al (below_al hB1 _) _
  have hG0 : Grows w1.heap.size (W0.heap.size + 2) [] w W0 := ⟨hb0, _, m5, World.ownsRow_nil _ _ _ _⟩
  clear hW0 hb0 m5
  refine wp_iter_put (gf := 24) (lb := #[.pointer (some ⟨w1.heap.size + 1, 0, none⟩)]) rfl (enters_of Try.func24 (by kernel_rfl) rfl) (parts_on s (by omega) (w1.heap.size + 1) W0 m9)
    (fun k hk => by subst hk; exact m9.lt) (fun k hk => by subst hk; exact m9.lt) (fun _ => rfl) (fun x => [(6, .string x)])
    (fun pre W => Grows w1.heap.size (W0.heap.size + 2) pre w W) (fun _ _ _ => False) ?hI ?hIx hG0 ?assign ?body ?done ?stop
  case hI =>
    rintro pre X Y h hk
    refine h.kept hk ?_ ?_ ?_
    · rintro (h | h | h) <;> omega
    · rintro k (h | h | h) <;> omega
    · rintro k (h | h | h) <;> omega
  case hIx => intro _ _ _ _ h; exact h.elim
  case assign =>
    intro l x W K hK
    gi_wp2
    simpa [encP, putAll] using hK
  case body =>
    rintro pre x post W hx hWs _ ⟨hbel, v, h1, h2⟩
    replace hx := hid hx
    have hpl : pre.length + 1 ≤ 1000000 := by
      have h1 := partsF_len s.size s
      rw [show partsF s.size s = pre ++ x :: post from hx.out] at h1
      simp at h1; omega
    have c5 : W.cell? ⟨w1.heap.size, 0, none⟩ = some v := h1.cell (j := 0) rfl
    have f5 := h1.free 0
    have l2 := hid h2.lt
    simp only [putAll, encP, List.zip_toArray, List.foldl_toArray', List.foldl_toArray, List.zip_cons_cons, List.zip_nil_left, List.foldl_cons, List.foldl_nil, List.setIfInBounds_toArray, List.set_cons_zero, List.set_cons_succ]
    gi_wp2_with (gi_at_builtin; refine wpListIn_append_own_at _ rfl _ _ 35 rfl (W0.heap.size + 2) 9 i _ 1 16 Try.underlying35 hi.out hz0.out hz1.out hz2.out rfl (by decide) _ _ _ rfl (h2.alloc _) ⟨W.heap.size, 0, none⟩ 1 1 [.string x] rfl rfl (cell_one_new _ _ _) (fun x hx => by simp at hx; subst hx; rfl) (by unfold maxLen; omega) (by omega) (by simp; omega) ?_; intro v1 w2 hown1 hgrow1 hnil1 hat1; obtain ⟨q1, k1, rfl⟩ := own_shape hown1
                 have r5 : RowAt w2 w1.heap.size 35 #[v] := grown_row (h1.alloc _) hgrow1 (fun e => by have := l2.out _ e.symm; omega)
                 have d5 : w2.cell? ⟨w1.heap.size, 0, none⟩ = some v := r5.cell (j := 0) rfl
                 have e5 := r5.free 0)
    have r6 : RowAt (w2.setCell ⟨w1.heap.size, 0, none⟩ (.slice q1 (pre.length + 1) k1)) w1.heap.size 35 #[.slice q1 (pre.length + 1) k1] := (r5.set 0 _).eqA (by simp)
    have hk2 : Kept (fun k => v.ownBlock = some k) W w2 := (Kept.refl _ _).alloc _ |>.trans ⟨hgrow1.os, hgrow1.tape, hgrow1.output, hgrow1.size, fun k hk hs => hgrow1.block k hk (fun e => hs e.symm)⟩
    have hk3 : Kept (fun k => v.ownBlock = some k ∨ k = w1.heap.size) W (w2.setCell ⟨w1.heap.size, 0, none⟩ (.slice q1 (pre.length + 1) k1)) := (hk2.mono fun k _ h => .inl h).setCell _ (.inl (.inr rfl)) _
    refine ⟨hk3.mono ?_, ⟨below_kept hbel hk3 (Nat.le_refl _) ?_, _, r6, ?_⟩⟩
    · rintro k _ (h | h) (h' | h')
      · have := (l2.out k h).1; rcases h' with h' | h' <;> omega
      · have := (l2.out k h).1; omega
      · rcases h' with h' | h' <;> omega
      · omega
    · rintro k (h | h)
      · have := (l2.out k h).1; omega
      · omega
    · have := ownsRow_setCell_other hown1 (a := ⟨w1.heap.size, 0, none⟩) (fun e => ?_) (.slice q1 (pre.length + 1) k1)
      · unfold Strs; rw [List.map_append]; simpa using this
      · rcases hat1 with h | h
        · rw [h] at e; have := (l2.out _ e).1; simp at this; omega
        · rw [h] at e; simp at e; omega
  case done =>
    rintro W hWs hG hd
    gi_wp2
    gi_loopw [7, 35] (fun t v wr => ∃ k : Nat, k ≤ len ∧ v = .int .i64 k ∧ t = .string (joinS (ss.take k)) ∧ Hid (∀ p ∈ ss.take k, p.size ≤ 300) ∧ Hid (Grows w1.heap.size (W0.heap.size + 2) (partsN s) w wr) ∧
        Hid (wr.heap[W0.heap.size]? = some (.deferred (some []))) ∧ W0.heap.size + 2 ≤ wr.heap.size) (fun _ v _ => len - (intOf v).toNat)
    case atStart => exact ⟨0, Nat.zero_le _, rfl, rfl, hid (by simp), hid hG, hid hd, hWs⟩
    case round =>
      obtain ⟨k, hk, rfl, rfl, hall, hG2, hd2, hws⟩ := hrel
      by_cases hlt : k < len
      · have hlen := hin.out.len
        obtain ⟨p, hp⟩ : ∃ p, ss[k]? = some p := ⟨_, List.getElem?_eq_getElem (by omega)⟩
        obtain ⟨x, rfl, hx⟩ := (hin.out.below hG2.out.bel).at hp
        have hd0 : decide ((k : Int) < (len : Int)) = true := by rw [decide_eq_true_iff]; omega
        have htk : ss.take (k + 1) = ss.take k ++ [p] := by rw [List.take_add_one, hp]; rfl
        have hjs := hid (joinS_snoc (ss.take k) p)
        have hjz := joinS_size (ss.take k) hall.out
        have hjl : (ss.take k).length ≤ k := by simp; omega
        obtain ⟨A, hA⟩ : ∃ A, A = joinS (ss.take k) := ⟨_, rfl⟩
        rw [← hA] at hjs hjz ⊢
        replace htk := hid htk
        clear hA hp
        by_cases hbig : p.size ≤ 300
        · have hg := hid hbig
          have hd1 : decide ((300 : Int) < (p.size : Int)) = false := by rw [decide_eq_false_iff_not]; omega
          have hadd : A.size + (beS p.size 4 ++ p).size ≤ 100000 := by rw [ByteArray.size_append, beS_size]; omega
          obtain ⟨C, hC⟩ : ∃ C, C = beS p.size 4 ++ p := ⟨_, rfl⟩
          have L := fun w => counted_any p w (by omega)
          rw [← hC] at L hjs hadd
          replace L := hid L
          clear hC
          gi_wp2_with (refine ⟨trivial, rfl, ?_⟩; gi_at_call 12; refine (callsIn_wide.2 (L.out _)).mono ?_; rintro e w3 ⟨rfl, hB3⟩)
          go_roundw
          case rel => 
            refine ⟨k + 1, by omega, by go_num, by rw [htk.out, hjs.out], hid ?_, hid ?_, hid ((hB3.block _ (by omega)).trans hd2.out), Nat.le_trans hws hB3.size⟩
            · intro q hq; rw [htk.out] at hq; rcases List.mem_append.1 hq with h | h
              · exact hall.out q h
              · simp at h; rw [h]; exact hg.out
            · exact hG2.out.kept (T := fun _ => False) (Kept.of_below hB3) (fun h => h) (fun _ h => h.elim) (fun _ h => h.elim)
          case measure => simp [intOf]; omega
        · have hd1 : decide ((300 : Int) < (p.size : Int)) = true := by rw [decide_eq_true_iff]; omega
          gi_wp2
          refine leave_one hd2.out ⟨_, results_tmp rfl _ _ _, rfl, ?_⟩
          exact below_kept hG2.out.bel ((Kept.refl (fun k => k = W0.heap.size) _).putObj _ _ (.inl rfl)) (Nat.le_refl _) (fun k hk => by omega)
      · obtain rfl : k = len := by omega
        have hlen := hin.out.len
        have hall2 : ∀ p ∈ ss, p.size ≤ 300 := by have := hall.out; rwa [List.take_of_length_le (by omega)] at this
        rw [List.take_of_length_le (by omega)]
        have hjz := joinS_size ss hall2
        obtain ⟨A, hA⟩ : ∃ A, A = joinS ss := ⟨_, rfl⟩
        have hAp : partsN A = ss := by rw [hA]; exact partsN_join ss hall2
        rw [← hA] at hjz ⊢
        replace hAp := hid hAp
        clear hA
        gi_wp2_with (refine ⟨trivial, rfl, ?_⟩; gi_at_call 13; refine (callsIn_wide.2 (parts_make A _)).mono ?_; rintro e w' ⟨rfl, rfl⟩)
        obtain ⟨Y, rfl⟩ : ∃ Y : World, Y = wr := ⟨_, rfl⟩
        generalize hY0 : World.alloc _ (Obj.cells #[Value.string A] 9) = Y0
        have hszY : Y.heap.size + 2 ≤ Y0.heap.size ∧ Y0.heap.size ≤ Y.heap.size + 2 := by rw [← hY0]; simp
        have n10 : RowAt Y0 Y.heap.size 35 #[.slice none 0 0] := by rw [← hY0]; exact (RowAt.new Y _ _).alloc _
        have n9 : RowAt Y0 (Y.heap.size + 1) 9 #[.string A] := by rw [← hY0]; have := RowAt.new (Y.alloc (.cells #[.slice none 0 0] 35)) #[.string A] 9; rwa [World.size_alloc] at this
        have hkY : Kept (fun _ => False) Y Y0 := by rw [← hY0]; exact ((Kept.refl _ _).alloc _).alloc _
        have hbY : Below w.heap.size w Y0 := by rw [← hY0]; exact below_al (below_al hG2.out.bel _) _
        have hwY := hG2.out.bel.size
        have hG3 : Grows Y.heap.size (Y0.heap.size + 2) [] w Y0 := ⟨hbY, _, n10, World.ownsRow_nil _ _ _ _⟩
        obtain ⟨v5, g5, s5⟩ := hG2.out.hold
        have l5 := hid s5.lt
        have g5' := hkY.row g5 (fun h => h)
        have s5' := s5.kept hkY (fun _ _ h => h)
        have hd3 : Y0.heap[W0.heap.size]? = some (.deferred (some [])) := (hkY.block _ (by omega) (fun h => h)).trans hd2.out
        clear hkY hY0 n10 hG2 hG s5 g5
        refine wp_iter_put (gf := 24) (lb := #[.pointer (some ⟨Y.heap.size + 1, 0, none⟩)]) rfl (enters_of Try.func24 (by kernel_rfl) rfl) (parts_on A (by omega) (Y.heap.size + 1) Y0 n9)
          (fun k hk => by subst hk; exact n9.lt) (fun k hk => by subst hk; exact n9.lt) (fun _ => rfl) (fun x => [(11, .string x)])
          (fun pre X => Grows Y.heap.size (Y0.heap.size + 2) pre w X ∧ Kept (fun k => k = Y.heap.size ∨ k = Y.heap.size + 1) Y0 X) (fun _ _ _ => False) ?hI2 ?hIx2 ⟨hG3, Kept.refl _ _⟩ ?assign2 ?body2 ?done2 ?stop2
        case hI2 =>
          rintro pre X Z ⟨h, h'⟩ hk
          refine ⟨h.kept hk ?_ ?_ ?_, h'.after hk ?_⟩
          · rintro (h | h | h) <;> omega
          · rintro k (h | h | h) <;> omega
          · rintro k (h | h | h) <;> omega
          · rintro k hk (h | h | h) <;> omega
        case hIx2 => intro _ _ _ _ h; exact h.elim
        case assign2 =>
          intro l x W K hK
          gi_wp2
          simpa [encP, putAll] using hK
        case body2 =>
          rintro pre x post X hx hXs _ ⟨⟨hbel, v, h1, h2⟩, hk0⟩
          replace hx := hid hx
          have hpl : pre.length + 1 ≤ 1000000 := by
            have h1 := partsF_len A.size A
            rw [show partsF A.size A = pre ++ x :: post from hx.out] at h1
            simp at h1; omega
          have c5 : X.cell? ⟨Y.heap.size, 0, none⟩ = some v := h1.cell (j := 0) rfl
          have f5 := h1.free 0
          have l2 := hid h2.lt
          simp only [putAll, encP, List.zip_toArray, List.foldl_toArray', List.foldl_toArray, List.zip_cons_cons, List.zip_nil_left, List.foldl_cons, List.foldl_nil, List.setIfInBounds_toArray, List.set_cons_zero, List.set_cons_succ]
          gi_wp2_with (gi_at_builtin; refine wpListIn_append_own_at _ rfl _ _ 35 rfl (Y0.heap.size + 2) 9 i _ 1 16 Try.underlying35 hi.out hz0.out hz1.out hz2.out rfl (by decide) _ _ _ rfl (h2.alloc _) ⟨X.heap.size, 0, none⟩ 1 1 [.string x] rfl rfl (cell_one_new _ _ _) (fun x hx => by simp at hx; subst hx; rfl) (by unfold maxLen; omega) (by omega) (by simp; omega) ?_; intro v1 w2 hown1 hgrow1 hnil1 hat1; obtain ⟨q1, k1, rfl⟩ := own_shape hown1
                       have r5 : RowAt w2 Y.heap.size 35 #[v] := grown_row (h1.alloc _) hgrow1 (fun e => by have := l2.out _ e.symm; omega)
                       have d5 : w2.cell? ⟨Y.heap.size, 0, none⟩ = some v := r5.cell (j := 0) rfl
                       have e5 := r5.free 0)
          have r6 : RowAt (w2.setCell ⟨Y.heap.size, 0, none⟩ (.slice q1 (pre.length + 1) k1)) Y.heap.size 35 #[.slice q1 (pre.length + 1) k1] := (r5.set 0 _).eqA (by simp)
          have hk2 : Kept (fun k => v.ownBlock = some k) X w2 := (Kept.refl _ _).alloc _ |>.trans ⟨hgrow1.os, hgrow1.tape, hgrow1.output, hgrow1.size, fun k hk hs => hgrow1.block k hk (fun e => hs e.symm)⟩
          have hk3 : Kept (fun k => v.ownBlock = some k ∨ k = Y.heap.size) X (w2.setCell ⟨Y.heap.size, 0, none⟩ (.slice q1 (pre.length + 1) k1)) := (hk2.mono fun k _ h => .inl h).setCell _ (.inl (.inr rfl)) _
          refine ⟨hk3.mono ?_, ⟨below_kept hbel hk3 (Nat.le_refl _) ?_, _, r6, ?_⟩, hk0.after hk3 ?_⟩
          · rintro k _ (h | h) (h' | h')
            · have := (l2.out k h).1; rcases h' with h' | h' <;> omega
            · have := (l2.out k h).1; omega
            · rcases h' with h' | h' <;> omega
            · omega
          · rintro k (h | h)
            · have := (l2.out k h).1; omega
            · omega
          · have := ownsRow_setCell_other hown1 (a := ⟨Y.heap.size, 0, none⟩) (fun e => ?_) (.slice q1 (pre.length + 1) k1)
            · unfold Strs; rw [List.map_append]; simpa using this
            · rcases hat1 with h | h
              · rw [h] at e; have := (l2.out _ e).1; simp at this; omega
              · rw [h] at e; simp at e; omega
          · rintro k hk (h | h)
            · have := (l2.out k h).1; omega
            · exact .inl h
        case done2 =>
          rintro X hXs ⟨⟨hbel, v10, g10, s10⟩, hk0⟩ hd4
          rw [hAp.out] at s10
          have g5 := hk0.row g5' (fun h => by omega)
          have s5 := s5'.kept hk0 (fun g hg h => by have := (l5.out g hg).2; omega)
          have hd5 : X.heap[W0.heap.size]? = some (.deferred (some [])) := (hk0.block _ (by omega) (fun h => by omega)).trans hd3
          have hlen := hin.out.len
          have hiX := hid (hin.out.below hbel)
          have hmem : ∀ p ∈ partsN s, p.size ≤ maxLen := fun p hp => by have := partsF_mem s.size s p hp; unfold maxLen; omega
          have hplen : (partsN s).length ≤ 1000 := by have : (partsN s).length * 4 ≤ s.size := partsF_len s.size s; omega
          have hmem2 : ∀ p ∈ ss, p.size ≤ maxLen := fun p hp => by have := hall2 p hp; unfold maxLen; omega
          obtain ⟨a5, k5, rfl, i5⟩ := s5.read rfl hmem
          obtain ⟨a10, k10, rfl, i10⟩ := s10.read hlen hmem2
          have LP := fun w => refParts_any s (by omega) w
          have LE1 : ∀ (b : Option Addr) (c : Nat) (Z : World), Below X.heap.size X Z → IsStrs Z b (partsN s).length (partsN s) → Calls Try.prog 16 #[.slice a5 (partsN s).length k5, .slice b (partsN s).length c] Z fun e w' => e = .returned (.bool true) ∧ Below Z.heap.size Z w' :=
            fun b c Z hZ hb => equal_same _ _ _ _ _ _ Z (i5.below hZ) hb (by omega)
          have LE2 : ∀ (Z : World), Below X.heap.size X Z → Calls Try.prog 16 #[.slice a10 k k10, .slice a k cap] Z fun e w' => e = .returned (.bool true) ∧ Below Z.heap.size Z w' :=
            fun Z hZ => equal_same _ _ _ _ _ _ Z (i10.below hZ) (hiX.out.below hZ) (by omega)
          replace LP := hid LP
          replace LE1 := hid LE1
          replace LE2 := hid LE2
          replace hmem := hid hmem
          replace hmem2 := hid hmem2
          replace g5 := hid g5
          replace g10 := hid g10
          clear s5 s10 g5' s5' hd3 hk0 i5 i10 n9 hG3
          cases hcut : cutS s with
          | none =>
            have hpn := partsN_none hcut
            have LC := fun w => cut_none s (by omega) hcut w
            replace LC := hid LC
            rw [hpn] at LP LE1 g5 hplen
            simp only [List.length_nil] at LE1 g5
            clear hcut
            gi_wp2_with (first
              | (refine ⟨trivial, rfl, ?_⟩; gi_at_call 14; refine (callsIn_wide.2 (LP.out _)).mono ?_; rintro e w3 ⟨v3, rfl, h3, hB3⟩; obtain ⟨a3, k3, rfl, i3⟩ := h3.read rfl (by rw [← hpn]; exact hmem.out); replace i3 := hid i3; replace hB3 := hid hB3; clear h3)
              | (refine ⟨trivial, rfl, ?_⟩; gi_at_call 15; refine (callsIn_wide.2 (LC.out _)).mono ?_; rintro e w4 ⟨rfl, hB4⟩))
            have hX4 : Below X.heap.size X w4 := below_cat hB4 hB3.out
            have e5 : ∀ q : Sub w4, q.x.cell? ⟨w1.heap.size, 0, none⟩ = some (.slice a5 0 k5) := fun q => q.cell (g5.out.below hX4 g5.out.lt) rfl
            have e10 : ∀ q : Sub w4, q.x.cell? ⟨Y.heap.size, 0, none⟩ = some (.slice a10 k k10) := fun q => q.cell (g10.out.below hX4 g10.out.lt) rfl
            have LQ1 := hid (fun q : Sub w4 => LE1.out a3 k3 q.x (below_cat q.h hX4) ((i3.out.below hB4).below q.h))
            have LQ2 := hid (fun q : Sub w4 => LE2.out q.x (below_cat q.h hX4))
            have hd6 : w4.heap[W0.heap.size]? = some (.deferred (some [])) := (hX4.block _ (by omega)).trans hd5
            have hd7 : w4.heap[Y0.heap.size]? = some (.deferred (some [])) := (hX4.block _ (by omega)).trans hd4
            have hbw4 := hid (below_cat hX4 hbel)
            have hfin : ∀ (Z : World), Below w4.heap.size w4 Z → Z.heap[W0.heap.size]? = some (.deferred (some [])) ∧ Z.heap[Y0.heap.size]? = some (.deferred (some [])) ∧ Below w.heap.size w ((Z.putObj Y0.heap.size (.deferred none)).putObj W0.heap.size (.deferred none)) := fun Z hZ =>
              ⟨(hZ.block _ (Array.getElem?_eq_some_iff.1 hd6).1).trans hd6, (hZ.block _ (Array.getElem?_eq_some_iff.1 hd7).1).trans hd7,
                below_kept (below_cat hZ hbw4.out) (((Kept.refl (fun k => k = W0.heap.size ∨ k = Y0.heap.size) _).putObj _ _ (.inl (.inr rfl))).putObj _ _ (.inl (.inl rfl))) (Nat.le_refl _) (fun k hk => by omega)⟩
            replace hfin := hid hfin
            by_cases hk0 : k = 0
            · subst hk0
              clear hd6 hd7 hd4 hd5
              refine wpIn_region_sub (by kernel_rfl) (by kernel_rfl) ?_
              repeat (go_big_quiet_step (first
                | (go_at_call 16; with_reducible refine Sub.call _ (LQ1.out _))
                | (go_at_call 16; with_reducible refine Sub.call _ (LQ2.out _))))
              refine wpQuiet_nil ?_
              intro q
              gi_wp2
              obtain ⟨r1, r2, r3⟩ := hfin.out q.x q.h
              exact leave_two r2 r1 (by omega) ⟨_, results_tmp rfl _ _ _, rfl, r3⟩
            · obtain ⟨p0, hp0⟩ : ∃ p0, ss[0]? = some p0 := ⟨_, List.getElem?_eq_getElem (by omega)⟩
              obtain ⟨x0, rfl, hx0⟩ := (hiX.out.below hX4).at hp0
              have hpz : p0.size ≤ 300 := hall2 _ (List.mem_of_getElem? hp0)
              rw [show x0.add 0 = x0 from rfl] at hx0
              have ex : ∀ q : Sub w4, q.x.cell? x0 = some (.string p0) := fun q => (q.h.cell (World.block_lt_of_cell? w4 _ hx0)).trans hx0
              have L1 := hid (fun w => counted_any p0 w (by omega))
              have L2 := hid (fun w => rcounted_any p0 w (by omega))
              have hkd : ((k : Int) == 0) = false := by rw [beq_eq_false_iff_ne]; omega
              have hkp : (0 : Int) < (k : Int) := by omega
              have hkp2 : 0 < k := by omega
              clear hd6 hd7 hd4 hd5 hx0 hp0
              refine wpIn_region_sub (by kernel_rfl) (by kernel_rfl) ?_
              repeat (go_big_quiet_step (first
                | (go_at_call 16; with_reducible refine Sub.call _ (LQ1.out _))
                | (go_at_call 16; with_reducible refine Sub.call _ (LQ2.out _))
                | (go_at_call 12; with_reducible refine Sub.call _ (L1.out _))
                | (go_at_call 17; with_reducible refine Sub.call _ (L2.out _))))
              refine wpQuiet_nil ?_
              intro q
              gi_wp2
              obtain ⟨r1, r2, r3⟩ := hfin.out q.x q.h
              exact leave_two r2 r1 (by omega) ⟨_, results_tmp rfl _ _ _, rfl, r3⟩
          | some pr =>
            obtain ⟨p, r⟩ := pr
            obtain ⟨rest, hpn⟩ := partsN_some hcut
            have hp0' : (partsN s)[0]? = some p := by rw [hpn]; rfl
            have hnz : 0 < (partsN s).length := by rw [hpn]; simp
            have hps : p.size ≤ 2000 := by have := cutS_size hcut; omega
            have hback := hid (cutS_back hcut)
            have LC := fun w => cut_some s p r (by omega) hcut w
            have LK := fun w => counted_any p w (by omega)
            have hszC : (beS p.size 4 ++ p).size + r.size ≤ 2000 := by
              have := congrArg ByteArray.size (cutS_back hcut)
              rw [ByteArray.size_append] at this; omega
            obtain ⟨C, hC⟩ : ∃ C, C = beS p.size 4 ++ p := ⟨_, rfl⟩
            rw [← hC] at LK hback hszC
            replace LC := hid LC
            replace LK := hid LK
            obtain ⟨n, hn⟩ : ∃ n, n = (partsN s).length := ⟨_, rfl⟩
            obtain ⟨P, hP⟩ : ∃ P, P = partsN s := ⟨_, rfl⟩
            rw [← hP] at LP LE1 g5 hplen hn hp0' hmem
            rw [← hn] at LE1 g5 hplen
            rw [← hP, ← hn] at hnz
            have hnd : ((n : Int) == 0) = false := by rw [beq_eq_false_iff_ne]; omega
            have hnp : (0 : Int) < (n : Int) := by omega
            replace hback := hback.out
            replace hn := hid hn
            replace hp0' := hid hp0'
            clear hcut hC hP hpn
            gi_wp2_with (first
              | (refine ⟨trivial, rfl, ?_⟩; gi_at_call 14; refine (callsIn_wide.2 (LP.out _)).mono ?_; rintro e w3 ⟨v3, rfl, h3, hB3⟩; obtain ⟨a3, k3, rfl, i3⟩ := h3.read hn.out.symm hmem.out; obtain ⟨x3, rfl, hx3⟩ := i3.at hp0'.out; replace i3 := hid i3; replace hB3 := hid hB3; clear h3)
              | (refine ⟨trivial, rfl, ?_⟩; gi_at_call 15; refine (callsIn_wide.2 (LC.out _)).mono ?_; rintro e w4' ⟨rfl, hB4'⟩
                 have hx4 : w4'.cell? x3 = some (.string p) := (hB4'.cell (World.block_lt_of_cell? _ _ hx3)).trans hx3)
              | (refine ⟨trivial, rfl, ?_⟩; gi_at_call 12; refine (callsIn_wide.2 (LK.out _)).mono ?_; rintro e w4 ⟨rfl, hB4''⟩))
            have hB4 : Below w3.heap.size w3 w4 := below_cat hB4'' hB4'
            have hX4 : Below X.heap.size X w4 := below_cat hB4 hB3.out
            have e5 : ∀ q : Sub w4, q.x.cell? ⟨w1.heap.size, 0, none⟩ = some (.slice a5 n k5) := fun q => q.cell (g5.out.below hX4 g5.out.lt) rfl
            have e10 : ∀ q : Sub w4, q.x.cell? ⟨Y.heap.size, 0, none⟩ = some (.slice a10 k k10) := fun q => q.cell (g10.out.below hX4 g10.out.lt) rfl
            have LQ1 := hid (fun q : Sub w4 => LE1.out (some x3) k3 q.x (below_cat q.h hX4) ((i3.out.below hB4).below q.h))
            have LQ2 := hid (fun q : Sub w4 => LE2.out q.x (below_cat q.h hX4))
            have hd6 : w4.heap[W0.heap.size]? = some (.deferred (some [])) := (hX4.block _ (by omega)).trans hd5
            have hd7 : w4.heap[Y0.heap.size]? = some (.deferred (some [])) := (hX4.block _ (by omega)).trans hd4
            have hbw4 := hid (below_cat hX4 hbel)
            have hfin : ∀ (Z : World), Below w4.heap.size w4 Z → Z.heap[W0.heap.size]? = some (.deferred (some [])) ∧ Z.heap[Y0.heap.size]? = some (.deferred (some [])) ∧ Below w.heap.size w ((Z.putObj Y0.heap.size (.deferred none)).putObj W0.heap.size (.deferred none)) := fun Z hZ =>
              ⟨(hZ.block _ (Array.getElem?_eq_some_iff.1 hd6).1).trans hd6, (hZ.block _ (Array.getElem?_eq_some_iff.1 hd7).1).trans hd7,
                below_kept (below_cat hZ hbw4.out) (((Kept.refl (fun k => k = W0.heap.size ∨ k = Y0.heap.size) _).putObj _ _ (.inl (.inr rfl))).putObj _ _ (.inl (.inl rfl))) (Nat.le_refl _) (fun k hk => by omega)⟩
            replace hfin := hid hfin
            by_cases hk0 : k = 0
            · subst hk0
              clear hd6 hd7 hd4 hd5
              refine wpIn_region_sub (by kernel_rfl) (by kernel_rfl) ?_
              repeat (go_big_quiet_step (first
                | (go_at_call 16; with_reducible refine Sub.call _ (LQ1.out _))
                | (go_at_call 16; with_reducible refine Sub.call _ (LQ2.out _))))
              refine wpQuiet_nil ?_
              intro q
              gi_wp2
              obtain ⟨r1, r2, r3⟩ := hfin.out q.x q.h
              exact leave_two r2 r1 (by omega) ⟨_, results_tmp rfl _ _ _, rfl, r3⟩
            · obtain ⟨p0, hp0⟩ : ∃ p0, ss[0]? = some p0 := ⟨_, List.getElem?_eq_getElem (by omega)⟩
              obtain ⟨x0, rfl, hx0⟩ := (hiX.out.below hX4).at hp0
              have hpz : p0.size ≤ 300 := hall2 _ (List.mem_of_getElem? hp0)
              rw [show x0.add 0 = x0 from rfl] at hx0
              have ex : ∀ q : Sub w4, q.x.cell? x0 = some (.string p0) := fun q => (q.h.cell (World.block_lt_of_cell? w4 _ hx0)).trans hx0
              have L1 := hid (fun w => counted_any p0 w (by omega))
              have L2 := hid (fun w => rcounted_any p0 w (by omega))
              have hkd : ((k : Int) == 0) = false := by rw [beq_eq_false_iff_ne]; omega
              have hkp : (0 : Int) < (k : Int) := by omega
              have hkp2 : 0 < k := by omega
              clear hd6 hd7 hd4 hd5 hx0 hp0
              refine wpIn_region_sub (by kernel_rfl) (by kernel_rfl) ?_
              repeat (go_big_quiet_step (first
                | (go_at_call 16; with_reducible refine Sub.call _ (LQ1.out _))
                | (go_at_call 16; with_reducible refine Sub.call _ (LQ2.out _))
                | (go_at_call 12; with_reducible refine Sub.call _ (L1.out _))
                | (go_at_call 17; with_reducible refine Sub.call _ (L2.out _))))
              refine wpQuiet_nil ?_
              intro q
              gi_wp2
              obtain ⟨r1, r2, r3⟩ := hfin.out q.x q.h
              exact leave_two r2 r1 (by omega) ⟨_, results_tmp rfl _ _ _, rfl, r3⟩
        case stop2 => intro _ _ _ _ _ _ _ h; exact h.elim
  case stop => intro _ _ _ _ _ _ _ h; exact h.elim

set_option maxRecDepth 100000 in
set_option maxHeartbeats 4000000 in
theorem parts_big1 (s : ByteArray) (hbig : decide ((2000 : Int) < (s.size : Int)) = true) (a : Option Addr) (len cap : Nat) (w : World) :
    CallsIn Fence.wide 0 Try.prog 5 #[.string s, .slice a len cap] w fun e w' => e = .returned (.bool true) ∧ Below w.heap.size w w' := by
  refine callsIn_of_wp_marks Try.func5 rfl trivial ?_
  simp only [Try.ntmps5, List.size_toArray, List.length_cons, List.length_nil, Nat.reduceAdd, Nat.reduceSub, Array.replicate_succ, Array.replicate_zero, List.push_toArray, List.append_toArray, List.nil_append, List.cons_append]
  gi_wp2_with (refine ⟨trivial, rfl, ?_⟩; gi_at_call 7; refine (callsIn_wide.2 (awake_any _)).mono ?_; rintro e w1 ⟨rfl, hB1⟩)
  exact leave_none ⟨_, results_tmp rfl _ _ _, rfl, hB1⟩

set_option maxRecDepth 100000 in
set_option maxHeartbeats 4000000 in
theorem parts_big2 (s : ByteArray) (hs : decide ((2000 : Int) < (s.size : Int)) = false) (a : Option Addr) (len cap : Nat) (hl : decide ((20 : Int) < (len : Int)) = true) (w : World) :
    CallsIn Fence.wide 0 Try.prog 5 #[.string s, .slice a len cap] w fun e w' => e = .returned (.bool true) ∧ Below w.heap.size w w' := by
  refine callsIn_of_wp_marks Try.func5 rfl trivial ?_
  simp only [Try.ntmps5, List.size_toArray, List.length_cons, List.length_nil, Nat.reduceAdd, Nat.reduceSub, Array.replicate_succ, Array.replicate_zero, List.push_toArray, List.append_toArray, List.nil_append, List.cons_append]
  gi_wp2_with (refine ⟨trivial, rfl, ?_⟩; gi_at_call 7; refine (callsIn_wide.2 (awake_any _)).mono ?_; rintro e w1 ⟨rfl, hB1⟩)
  exact leave_none ⟨_, results_tmp rfl _ _ _, rfl, hB1⟩


theorem octetParts_walk (s : ByteArray) (a : Option Addr) (len cap : Nat) (ss : List ByteArray) (w : World) (_hs : s.size ≤ 140737488351232) (hin : IsStrs w a len ss) :
    Calls Try.prog 5 #[.string s, .slice a len cap] w fun e w' => e = .returned (.bool true) ∧ Below w.heap.size w w' := by
  refine (callsIn_wide (n := 0)).1 ?_
  by_cases h : s.size ≤ 2000
  · by_cases h2 : len ≤ 20
    · exact parts_main s h a len cap ss h2 w hin
    · exact parts_big2 s (by rw [decide_eq_false_iff_not]; omega) a len cap (by rw [decide_eq_true_iff]; omega) w
  · exact parts_big1 s (by rw [decide_eq_true_iff]; omega) a len cap w

end Go.Proofs.Ytbedanlkkidkkaa
