/- Catalog: words, row, same, Message, Find; the chapter's example. -/
import Derived.Test.YtdjlpmelmhhooaaGreatDoorCtX1
import Derived.Maps.AppendAt
import Derived.Test.YtdjlpmelmhhooaaGreatDoorCtX2
namespace Go.Proofs.YtdjlpmelmhhooaaGreatDoor
section
open Go Go.RowKit
set_option linter.unusedSimpArgs false
set_option linter.unusedVariables false

/-- The parts between blanks. -/
def blankF (s : ByteArray) : Nat → Nat → Nat → List ByteArray
  | 0, _, _ => []
  | k + 1, b, i => if i = s.size ∨ s.data[i]? = some 32 then s.extract b i :: blankF s k (i + 1) (i + 1) else blankF s k b (i + 1)
def blankP (s : ByteArray) : List ByteArray := blankF s (s.size + 1) 0 0
theorem blankF_cut {s : ByteArray} {k b i : Nat} (h : i = s.size ∨ s.data[i]? = some 32) : blankF s (k + 1) b i = s.extract b i :: blankF s k (i + 1) (i + 1) := by rw [blankF, if_pos h]
theorem blankF_on {s : ByteArray} {k b i : Nat} (h : ¬ (i = s.size ∨ s.data[i]? = some 32)) : blankF s (k + 1) b i = blankF s k b (i + 1) := by rw [blankF, if_neg h]
theorem blankF_small (s : ByteArray) : ∀ (k b i : Nat), ∀ t ∈ blankF s k b i, t.size ≤ s.size
  | 0, _, _, t, h => by simp [blankF] at h
  | k + 1, b, i, t, h => by
    unfold blankF at h
    split at h
    · rcases List.mem_cons.1 h with rfl | h
      · rw [ByteArray.size_extract]; omega
      · exact blankF_small s k _ _ t h
    · exact blankF_small s k _ _ t h
theorem below_grownC {B : Nat} {a w w' : World} {row : Option Nat} (h : Below B a w) (hg : w.grownBy w' row) (hr : ∀ k, row = some k → B ≤ k) (hB : B ≤ a.heap.size) : Below B a w' :=
  h.trans ⟨hg.os, hg.tape, hg.output, hg.size, fun k hk => hg.block k (by have := h.size; omega) (fun e => by have := hr k e.symm; omega)⟩
theorem index_byte (s : ByteArray) (i : Nat) (c : UInt8) (h : s.data[i]? = some c) (w : World) : (Instr.index 9 (.string s) (.int .i64 (i : Int))).run Tryz.prog w = .ok (.int .u8 (c.toNat : Nat)) w := by
  have h3 : i < s.size := (Array.getElem?_eq_some_iff.1 h).1
  have h2 : ((i : Int)).toNat = i := by omega
  rw [run_index_string (h := Tryz.underlying9), dif_pos ⟨by omega, by omega⟩]
  have h4 : s[i]'h3 = c := by
    have := Array.getElem?_eq_getElem (xs := s.data) (i := i) h3
    rw [this] at h
    exact Option.some.inj h
  simp only [h2, h4]

set_option maxRecDepth 100000 in
set_option maxHeartbeats 8000000 in
theorem words_any (s : ByteArray) (hs : s.size ≤ 1000) (w : World) : Calls Tryz.prog 79 #[.string s] w fun e w' =>
    ∃ v, e = .returned v ∧ Strs w' w.heap.size v (blankP s) ∧ Below w.heap.size w w' := by
  obtain ⟨inf, hi, hz0, hz1, hz2⟩ := info_parts info_str
  replace hi := hid hi
  replace hz0 := hid hz0
  replace hz1 := hid hz1
  replace hz2 := hid hz2
  go_enter Tryz.func79, Tryz.ntmps79
  go_wp2
  go_loopw [3, 4, 5] (fun v t u wr => ∃ (i b : Nat) (pre : List ByteArray), t = .int .i64 (b : Nat) ∧ u = .int .i64 (i : Nat) ∧ b ≤ i ∧ i ≤ s.size + 1 ∧ Hid (blankP s = pre ++ blankF s (s.size + 1 - i) b i) ∧ pre.length ≤ i ∧
      Hid (Strs wr w.heap.size v pre) ∧ Hid (Below w.heap.size w wr))
    (fun _ _ u _ => 1002 - (intOf u).toNat)
  case atStart => exact ⟨0, 0, [], rfl, rfl, Nat.le_refl _, by omega, hid rfl, Nat.le_refl _, hid (World.ownsRow_nil _ _ _ _), hid (Below.refl _ _)⟩
  case round =>
    obtain ⟨i, b, pre, rfl, rfl, hb, hi1, hx, hpl, hn1, hB⟩ := hrel
    by_cases hlt : i ≤ s.size
    · have g1 : (i : Int) ≤ (s.size : Int) := by omega
      have g1' : decide ((i : Int) ≤ (s.size : Int)) = true := decide_eq_true g1
      have hws := hB.out.size
      have hk : s.size + 1 - i = (s.size + 1 - (i + 1)) + 1 := by omega
      rw [hk] at hx
      have hcase : (i = s.size) ∨ (i < s.size ∧ s.data[i]? = some 32) ∨ (i < s.size ∧ ∃ c, s.data[i]? = some c ∧ c ≠ 32) := by
        by_cases q : i = s.size
        · exact .inl q
        · have hi' : i < s.size := by omega
          obtain ⟨c, hc⟩ : ∃ c, s.data[i]? = some c := ⟨_, Array.getElem?_eq_getElem hi'⟩
          by_cases q2 : c = 32
          · exact .inr (.inl ⟨hi', q2 ▸ hc⟩)
          · exact .inr (.inr ⟨hi', c, hc, q2⟩)
      have hsl : (b : Int) ≤ (i : Int) := by omega
      rcases hcase with hc | ⟨hc, hd⟩ | ⟨hc, c, hd, hne⟩
      case' inl =>
        have hxx : blankP s = pre ++ s.extract b i :: blankF s (s.size + 1 - (i + 1)) (i + 1) (i + 1) := by
          rw [hx.out, blankF_cut (.inl hc)]
        have g2 : ((i : Int) == (s.size : Int)) = true := by rw [hc]; exact beq_self_eq_true _
      case' inr.inl =>
        have hxx : blankP s = pre ++ s.extract b i :: blankF s (s.size + 1 - (i + 1)) (i + 1) (i + 1) := by
          rw [hx.out, blankF_cut (.inr hd)]
        have g2 : ((i : Int) == (s.size : Int)) = false := by rw [beq_eq_false_iff_ne]; omega
        have hix := fun w => index_byte s i _ hd w
        clear hd
      case' inr.inr =>
        have hxx : blankP s = pre ++ blankF s (s.size + 1 - (i + 1)) b (i + 1) := by
          rw [hx.out, blankF_on (by rintro (h | h); omega; rw [hd] at h; exact hne (Option.some.inj h))]
        have g2 : ((i : Int) == (s.size : Int)) = false := by rw [beq_eq_false_iff_ne]; omega
        have g3 : ((c.toNat : Int) == 32) = false := by
          rw [beq_eq_false_iff_ne]
          intro h
          exact hne (UInt8.toNat_inj.1 (by have h2 : c.toNat = 32 := by omega
                                           exact h2))
        have hix := fun w => index_byte s i _ hd w
        clear hd hne
      all_goals
        replace hxx := hid hxx
        clear hx
        replace hc := hid hc
        replace hk := hid hk
        go_wp2_with (at_builtin; refine wpList_append_own_at _ rfl _ _ 35 rfl w.heap.size 9 inf _ 1 16 Tryz.underlying35 hi.out hz0.out hz1.out hz2.out rfl (by decide) _ _ _ rfl (hn1.out.alloc _) ⟨wr.heap.size, 0, none⟩ 1 1 [.string (s.extract b i)] rfl rfl (cell_one_new _ _ _) (fun x hx => by simp at hx; subst hx; rfl) (by unfold maxLen; omega) (by omega) (by simp; omega) ?_; intro v1 w2 hown1 hgrow1 hnil1 hat1)
        go_roundw
        case rel =>
          first
            | (refine ⟨i + 1, i + 1, pre ++ [s.extract b i], by go_num, by go_num, Nat.le_refl _, by omega, hid (by rw [hxx.out]; simp), by simp; omega, hid ?_, hid ?_⟩
               · unfold Strs; rw [List.map_append]; simpa using hown1
               · exact below_grownC (below_al hB.out _) hgrow1 (fun k hk => (World.ownsRow.lt hn1.out k hk).1) (Nat.le_refl _))
            | exact ⟨i + 1, b, pre, by go_num, by go_num, by omega, by omega, hxx, by omega, hn1, hB⟩
        case measure => simp [intOf]; omega
    · obtain rfl : i = s.size + 1 := by omega
      have g1 : decide (((s.size + 1 : Nat) : Int) ≤ (s.size : Int)) = false := decide_eq_false (by omega)
      have hxx := hx.out
      rw [Nat.sub_self] at hxx
      simp only [blankF, List.append_nil] at hxx
      replace hxx := hid hxx
      clear hx
      go_wp2
      go_ret
      exact ⟨_, rfl, by rw [hxx.out]; exact hn1.out, hB.out⟩
theorem infoRow : (Tryz.prog.info? 61).map (·.size) = some 6 := by kernel_rfl
theorem FrStrs.setRowF {B : Nat} {w : World} {a : Option Addr} {n : Nat} {ss : List ByteArray} (h : FrStrs B w a n ss) {b : Nat} (hb : b < B) (A : Array Value) : FrStrs B (w.setRow b A) a n ss := by
  refine ⟨?_, h.2⟩
  rcases h.1 with h1 | ⟨x, hx, hl, hc, hs⟩
  · exact .inl h1
  · refine .inr ⟨x, hx, hl, fun i s hi => ?_, hs⟩
    have h1 := hc i s hi
    have hbk : (x.add i).block = x.block := by unfold Addr.add; split <;> rfl
    have hne : ss ≠ [] := fun e => by rw [e] at hi; simp at hi
    have h2 := setRow_other w b (x.add i).block A (by rw [hbk]; have := h.2 x hx hne; omega)
    unfold World.cell? at h1 ⊢
    rw [h2]; exact h1
theorem FrStrs.setCellF {B : Nat} {w : World} {a : Option Addr} {n : Nat} {ss : List ByteArray} (h : FrStrs B w a n ss) (p : Addr) (hb : p.block < B) (v : Value) : FrStrs B (w.setCell p v) a n ss := by
  refine ⟨?_, h.2⟩
  rcases h.1 with h1 | ⟨x, hx, hl, hc, hs⟩
  · exact .inl h1
  · refine .inr ⟨x, hx, hl, fun i s hi => ?_, hs⟩
    have h1 := hc i s hi
    have hbk : (x.add i).block = x.block := by unfold Addr.add; split <;> rfl
    have hne : ss ≠ [] := fun e => by rw [e] at hi; simp at hi
    have h2 := Below.heap_setCell w p v (x.add i).block (by rw [hbk]; have := h.2 x hx hne; omega)
    unfold World.cell? at h1 ⊢
    rw [h2]; exact h1
set_option maxRecDepth 100000 in
set_option maxHeartbeats 4000000 in
theorem refRow_none (name inn : ByteArray) (k mn mx : Int) (w : World) :
    Calls Tryz.prog 75 #[.string name, .int .i64 k, .int .i64 mn, .int .i64 mx, .string ⟨#[]⟩, .string inn] w fun e w' => ∃ a' c', e = .returned (.agg (fieldA name k mn mx (.slice a' 0 c') inn)) ∧ FrStrs w.heap.size w' a' 0 [] ∧ Below w.heap.size w w' := by
  go_enter Tryz.func75, Tryz.ntmps75
  go_wp2
  refine bodyPost_ret (results_cell_row rfl _ _ w.heap.size 61 (fieldA name k mn mx (.slice none 0 0) inn) (0, 0) _ rfl ((RowAt.new w _ _).alloc _) Tryz.underlying61 rfl infoRow) rfl ⟨none, 0, rfl, ⟨.inl ⟨rfl, rfl, rfl⟩, fun _ h => by cases h⟩, below_al (below_al (Below.refl _ _) _) _⟩
set_option maxRecDepth 100000 in
set_option maxHeartbeats 4000000 in
theorem refRow_some (name inn texts : ByteArray) (k mn mx : Int) (ht : texts.toList.isEmpty = false) (hts : texts.size ≤ 1000) (ss : List ByteArray) (hss : blankP texts = ss) (w : World) :
    Calls Tryz.prog 75 #[.string name, .int .i64 k, .int .i64 mn, .int .i64 mx, .string texts, .string inn] w fun e w' => ∃ a' c', e = .returned (.agg (fieldA name k mn mx (.slice a' ss.length c') inn)) ∧ FrStrs w.heap.size w' a' ss.length ss ∧ Below w.heap.size w w' := by
  have LW := hid (fun w => words_any texts hts w)
  have hsm : ∀ s ∈ blankP texts, s.size ≤ maxLen := fun s h => Nat.le_trans (blankF_small texts _ _ _ s h) (by unfold maxLen; omega)
  replace hss := hid hss
  replace hsm := hid hsm
  clear hts
  go_enter Tryz.func75, Tryz.ntmps75
  go_wp2_with (first
    | (go_at_call 79; with_reducible refine (LW.out _).mono ?_; rintro e w2 ⟨v, rfl, ho, hB⟩
       obtain ⟨a', c', rfl, hS⟩ := frStrs_read ho hsm.out
       have s13 := (RowAt.newS w #[.string ⟨#[]⟩, .int .i64 0, .int .i64 0, .int .i64 0, .slice none 0 0, .string ⟨#[]⟩] #[.string name, .int .i64 k, .int .i64 mn, .int .i64 mx, .slice none 0 0, .string inn] 61 61).below hB (by simp only [World.size_alloc]; omega)
       have s12 := ((RowAt.new w #[.string ⟨#[]⟩, .int .i64 0, .int .i64 0, .int .i64 0, .slice none 0 0, .string ⟨#[]⟩] 61).alloc (.cells #[.string name, .int .i64 k, .int .i64 mn, .int .i64 mx, .slice none 0 0, .string inn] 61)).below hB (by simp only [World.size_alloc]; omega)
       have b0 := below_cat hB (below_al (below_al (Below.refl w.heap.size w) _) _)
       have c4 := s13.cell (j := 4) rfl
       have f4 := s13.free 4
       rw [hss.out] at hS ⊢
       have r13 := hid (s13.set 4 (.slice a' ss.length c'))
       replace hS := hid ((hS.setCellF ⟨w.heap.size + 1, 4, none⟩ (by simp only [World.size_alloc]; show w.heap.size + 1 < _; omega) (.slice a' ss.length c')).mono (show w.heap.size + 1 ≤ _ by simp only [World.size_alloc]; omega))
       replace b0 := hid (b0.setCell (p := ⟨w.heap.size + 1, 4, none⟩) (by show w.heap.size ≤ w.heap.size + 1; omega) (.slice a' ss.length c'))
       have r12 := hid (s12.other ⟨w.heap.size + 1, 4, none⟩ (.slice a' ss.length c') (by show w.heap.size ≠ w.heap.size + 1; omega))
       clear ho hB s13 s12 hss hsm)
    | (with_reducible refine at_op (some 27) (.load 61 (.tmp 13)) ?_
       refine wpList_load_mid (op := ⟨some 27, _, _, _, _, _⟩) rfl 61 (.tmp 13) rfl (w.heap.size + 1) 0 rfl (fieldA name k mn mx (.slice a' ss.length c') inn).toList _ (fun j v hj => by rw [Nat.zero_add]; exact r13.out.cell (by rw [Array.getElem?_toList] at hj; exact hj)) Tryz.underlying61 rfl infoRow ?_)
    | (with_reducible refine at_op none (.store 61 (.tmp 12) (.tmp 27)) ?_
       refine wpList_store_row (o := ⟨none, .store _ (.tmp 12) (.tmp 27), _, _, _, _⟩) rfl 61 (.tmp 12) (.tmp 27) rfl w.heap.size (fieldA name k mn mx (.slice a' ss.length c') inn) rfl (by rfl) 61 _ r12.out infoRow rfl (fieldA_one _ _ _ _ _ _ _ _) ?_))
  refine bodyPost_ret (results_cell_row rfl _ _ w.heap.size 61 (fieldA name k mn mx (.slice a' ss.length c') inn) (0, 0) _ rfl (r12.out.setRow _) Tryz.underlying61 rfl infoRow) rfl ⟨a', c', rfl, ?_, below_setRow b0.out (Nat.le_refl _) _⟩
  exact (hS.out.setRowF (b := w.heap.size) (by omega) _).mono (by omega)
theorem emptyTest : (⟨#[32]⟩ : ByteArray).toList.isEmpty = false := by kernel_rfl
end
section
open Go Go.RowKit
set_option linter.unusedSimpArgs false
set_option linter.unusedVariables false

theorem equal_strs (a1 a2 : Option Addr) (n c1 c2 : Nat) (ss : List ByteArray) (hn : n ≤ 1000) (w : World) (h1 : IsStrs w a1 n ss) (h2 : IsStrs w a2 n ss) :
    Calls Tryz.prog 36 #[.slice a1 n c1, .slice a2 n c2] w fun e w' => e = .returned (.bool true) ∧ Below w.heap.size w w' := by
  have hl := h1.len
  by_cases h0 : n = 0
  · subst h0
    refine (slsS_slices_Equal_string_empty a1 a2 c1 0 c2 w (by omega)).mono ?_
    rintro e w' ⟨rfl, rfl⟩
    exact ⟨rfl, Below.refl _ _⟩
  · obtain ⟨b1, o1, rfl, hc1⟩ := h1.addr (by omega)
    obtain ⟨b2, o2, rfl, hc2⟩ := h2.addr (by omega)
    refine (slsS_slices_Equal_string b1 o1 n c1 b2 o2 n c2 ss ss w (by omega) (by omega) (by omega) (by omega) hc1 hc2).mono ?_
    rintro e w' ⟨rfl, q, rfl⟩
    exact ⟨by simp, ⟨rfl, rfl, rfl, Nat.le_refl _, fun _ _ => rfl⟩⟩
theorem results_row_cell {P : Program} {fn : Func} {p q : Tmp} {ty tq : TypeId} (h : fn.results = #[.cell p ty, .cell q tq]) (tmps : Array Value) (w : World) (g b : Nat) (t : TypeId) (cs : Array Value) (fr : Nat × Nat) (d dq : TypeDesc) (v : Value)
    (hp : tmps.getD p undef = .pointer (some ⟨g, 0, none⟩)) (hg : w.heap[g]? = some (.cells cs t fr)) (hu : P.underlying ty = some d) (hd : (match d with | .struct _ | .array _ _ => true | _ => false) = true) (hi : (P.info? ty).map (·.size) = some cs.size)
    (hq : tmps.getD q undef = .pointer (some ⟨b, 0, none⟩)) (hv : w.cell? ⟨b, 0, none⟩ = some v) (huq : P.underlying tq = some .bool) :
    (results fn tmps).run P w = .ok (.tuple #[.agg cs, v]) w := by
  have hp' : tmps[p]?.getD undef = .pointer (some ⟨g, 0, none⟩) := by simpa using hp
  have hq' : tmps[q]?.getD undef = .pointer (some ⟨b, 0, none⟩) := by simpa using hq
  have h1 := run_loadVar_row w g t ty cs fr d hg hu hd hi
  have h2 : (loadVar tq ⟨b, 0, none⟩).run P w = .ok v w := by simp [loadVar, isAgg, run_underlying huq, go_sem, hv]
  simp [results, h, hp', hq', asAddr, h1, h2]
/-- Two fields of one number are the same. -/
theorem ctSame_any (i : Nat) (hi : i < 32) (p q : CtP) (w : World) (h1 : IsStrs w p.1 (ctR i).texts.length (ctR i).texts) (h2 : IsStrs w q.1 (ctR i).texts.length (ctR i).texts) :
    Calls Tryz.prog 32 #[.agg ((ctR i).cells p), .agg ((ctR i).cells q)] w fun e w' => e = .returned (.bool true) ∧ Below w.heap.size w w' := by
  have hn : (ctR i).texts.length ≤ 1000 := by
    have : ∀ i, i < 32 → (ctR i).texts.length ≤ 1000 := by decide
    exact this i hi
  obtain ⟨ss, hss⟩ : ∃ ss, ss = (ctR i).texts := ⟨_, rfl⟩
  simp only [CtRow.cells, fieldA]
  rw [← hss] at h1 h2 hn ⊢
  generalize (ctR i).name = nm
  generalize (ctR i).k = k
  generalize (ctR i).mn = mn
  generalize (ctR i).mx = mx
  generalize (ctR i).inn = inn
  obtain ⟨a1, c1⟩ := p
  obtain ⟨a2, c2⟩ := q
  clear hss hi
  dsimp only at h1 h2 ⊢
  have LE : ∀ W, Below w.heap.size w W → Calls Tryz.prog 36 #[.slice a1 ss.length c1, .slice a2 ss.length c2] W fun e w' => e = .returned (.bool true) ∧ Below W.heap.size W w' := fun W hW => equal_strs a1 a2 _ c1 c2 ss hn W (h1.below hW) (h2.below hW)
  have hb := fun o o' => below_al (below_al (Below.refl w.heap.size w) o) o'
  replace LE := hid LE
  replace hb := hid hb
  clear h1 h2
  go_enter Tryz.func32, Tryz.ntmps32
  go_wp2_with (go_at_call 36; with_reducible refine (LE.out _ (hb.out _ _)).mono ?_; rintro e w1 ⟨rfl, hB⟩)
  go_ret
  exact ⟨rfl, below_cat hB (hb.out _ _)⟩
/-- The name of message j; 0: none. -/
def msgS (j : Nat) : ByteArray := ((⟨#[]⟩ : ByteArray) :: msgL).getD j ⟨#[]⟩
def msgN (s : ByteArray) : Nat := ((List.range 10).find? (fun j => decide (1 ≤ j) && decide (msgS j = s))).getD 0
theorem msgN_at {s : ByteArray} {i : Nat} (h1 : 1 ≤ i) (h9 : i < 10) (hs : msgS i = s) (hn : ∀ j, j < i → 1 ≤ j → msgS j ≠ s) : msgN s = i := by
  have : (List.range 10).find? (fun j => decide (1 ≤ j) && decide (msgS j = s)) = some i := by
    rw [List.find?_range_eq_some]
    refine ⟨by simp [h1, hs], by simpa using h9, fun j hj => ?_⟩
    by_cases q : 1 ≤ j
    · simp [hn j hj q]
    · simp [q]
  rw [msgN, this]; rfl
theorem msgN_none {s : ByteArray} (hn : ∀ j, j < 10 → 1 ≤ j → msgS j ≠ s) : msgN s = 0 := by
  have : (List.range 10).find? (fun j => decide (1 ≤ j) && decide (msgS j = s)) = none := by
    rw [List.find?_eq_none]
    intro j hj
    have := List.mem_range.1 hj
    by_cases q : 1 ≤ j
    · simp [hn j this q]
    · simp [q]
  rw [msgN, this]; rfl
theorem msgA_at : ∀ i, i < 10 → msgA[i]? = some (.string (msgS i))
  | 0, _ => rfl
  | 1, _ => rfl
  | 2, _ => rfl
  | 3, _ => rfl
  | 4, _ => rfl
  | 5, _ => rfl
  | 6, _ => rfl
  | 7, _ => rfl
  | 8, _ => rfl
  | 9, _ => rfl
set_option maxRecDepth 100000 in
set_option maxHeartbeats 4000000 in
theorem message_any (s : ByteArray) (w : World) : Calls Tryz.prog 38 #[.string s] w fun e w' => e = .returned (.int .i64 (msgN s : Nat)) ∧ Below w.heap.size w w' := by
  have LM := hid (fun w => messages_any w)
  have hM := msgA_at
  obtain ⟨M, hMe⟩ : ∃ M, M = msgA := ⟨_, rfl⟩
  rw [← hMe] at LM hM
  replace hM := hid hM
  clear hMe
  go_enter Tryz.func38, Tryz.ntmps38
  go_wp2_with (go_at_call 35; with_reducible refine (LM.out _).mono ?_; rintro e w1 ⟨rfl, hB⟩; replace hB := hid hB)
  go_loopw [6] (fun p wr => ∃ i : Nat, p = .int .i64 (i : Nat) ∧ i ≤ 10 ∧ Hid (∀ j, j < i → 1 ≤ j → msgS j ≠ s) ∧ Hid (Below w.heap.size w wr)) (fun p _ => 11 - (intOf p).toNat)
  case atStart => exact ⟨0, rfl, by omega, hid (fun j hj => by omega), hB⟩
  case round =>
    clear hB LM
    obtain ⟨i, rfl, hi, hn, hB⟩ := hrel
    by_cases hlt : i < 10
    · have hx := fun w => run_index_str (P := Tryz.prog) 65 9 10 Tryz.underlying65 Tryz.underlying9 (by kernel_rfl) .i64 M i _ hlt (hM.out i hlt) w
      obtain ⟨t, ht⟩ : ∃ t, t = msgS i := ⟨_, rfl⟩
      simp only [← ht] at hx
      have g1 : decide ((i : Int) < 10) = true := decide_eq_true (by omega)
      have g1' : (i : Int) < 10 := by omega
      have hcase : (i = 0) ∨ (0 < i ∧ (t.toList == s.toList) = true) ∨ (0 < i ∧ (t.toList == s.toList) = false) := by
        by_cases q : i = 0
        · exact .inl q
        · by_cases q2 : t = s
          · exact .inr (.inl ⟨by omega, by rw [toList_beqB]; exact decide_eq_true q2⟩)
          · exact .inr (.inr ⟨by omega, by rw [toList_beqB]; exact decide_eq_false q2⟩)
      rcases hcase with hc | ⟨hc, hd⟩ | ⟨hc, hd⟩
      · have g2 : decide (0 < i) = false := decide_eq_false (by omega)
        replace hc := hid hc
        replace ht := hid ht
        go_wp2
        go_roundw
        case rel => exact ⟨i + 1, by go_num, by omega, hid (fun j hj h1 => by have := hc.out; omega), hB⟩
        case measure => simp [intOf]; omega
      · have g2 : decide (0 < i) = true := decide_eq_true (by omega)
        have hfin := hid (msgN_at (s := s) (i := i) (by omega) hlt (by rw [← ht]; rw [toList_beqB] at hd; exact of_decide_eq_true hd) hn.out)
        replace ht := hid ht
        go_wp2
        go_ret
        exact ⟨by rw [hfin.out]; rfl, hB.out⟩
      · have g2 : decide (0 < i) = true := decide_eq_true (by omega)
        have hfin := hid (show ∀ j, j < i + 1 → 1 ≤ j → msgS j ≠ s from fun j hj h1 => by
          by_cases q : j = i
          · rw [q, ← ht]; rw [toList_beqB] at hd; exact of_decide_eq_false hd
          · exact hn.out j (by omega) h1)
        replace ht := hid ht
        go_wp2
        go_roundw
        case rel => exact ⟨i + 1, by go_num, by omega, hfin, hB⟩
        case measure => simp [intOf]; omega
    · obtain rfl : i = 10 := by omega
      have g1 : decide (((10 : Nat) : Int) < 10) = false := by decide
      have hfin := hid (msgN_none hn.out)
      go_wp2
      go_ret
      exact ⟨by rw [hfin.out]; rfl, hB.out⟩
end
section
open Go Go.RowKit
set_option linter.unusedSimpArgs false
set_option linter.unusedVariables false

def zeroF : Array Value := fieldA ⟨#[]⟩ 0 0 0 (.slice none 0 0) ⟨#[]⟩
/-- What lies beside Find's loop: the name, the two results. -/
structure FnI (s : ByteArray) (b : Nat) (w W : World) : Prop where
  rs : RowAt W b 9 #[.string s]
  r2 : RowAt W (b + 1) 58 zeroF
  r3 : RowAt W (b + 1 + 1) 4 #[.bool false]
  bel : Below b w W
theorem FnI.kept {s : ByteArray} {b : Nat} {w W W' : World} {S : Nat → Prop} (h : FnI s b w W) (hk : Kept S W W') (hS : ∀ k, S k → b + 3 ≤ k) (hb : b ≤ w.heap.size) : FnI s b w W' :=
  ⟨hk.row h.rs (fun x => by have := hS _ x; omega), hk.row h.r2 (fun x => by have := hS _ x; omega), hk.row h.r3 (fun x => by have := hS _ x; omega), below_kept h.bel hk hb (fun k x => by have := hS k x; omega)⟩

attribute [local go_sem] Oper.semAt_some
set_option maxRecDepth 100000 in
set_option maxHeartbeats 16000000 in
theorem find_any (s : ByteArray) (w : World) : Calls Tryz.prog 34 #[.string s] w fun e w' =>
    ((∃ i p, i < 32 ∧ (ctR i).name = s ∧ e = .returned (.tuple #[.agg ((ctR i).cells p), .bool true]) ∧ IsStrs w' p.1 (ctR i).texts.length (ctR i).texts) ∨ ((∀ i, i < 32 → (ctR i).name ≠ s) ∧ e = .returned (.tuple #[.agg zeroF, .bool false]))) ∧ Below w.heap.size w w' := by
  refine (callsIn_wide (n := 0)).1 ?_
  refine callsIn_of_wp_marks Tryz.func34 rfl trivial ?_
  simp only [Tryz.ntmps34, List.size_toArray, List.length_cons, List.length_nil, Nat.reduceAdd, Nat.reduceSub, Array.replicate_succ, Array.replicate_zero, List.push_toArray, List.append_toArray, List.nil_append, List.cons_append]
  gi_wp2_with (refine ⟨trivial, rfl, ?_⟩; gi_at_call 31; refine (callsIn_wide.2 (fields_make _)).mono ?_; rintro e w2 ⟨rfl, rfl⟩)
  generalize hW0 : World.alloc (World.alloc (World.alloc w _) _) _ = W0
  obtain ⟨b, hb⟩ : ∃ b, b = w.heap.size := ⟨_, rfl⟩
  have hN0 : FnI s b w W0 := by
    refine ⟨?_, ?_, ?_, ?_⟩
    · rw [← hW0, hb]; exact ((RowAt.new w _ _).alloc _).alloc _
    · rw [← hW0, hb]; exact (RowAt.newS w _ _ _ _).alloc _
    · rw [← hW0, hb]
      have := RowAt.newS (w.alloc (.cells #[.string s] 9)) #[.string ⟨#[]⟩, .int .i64 0, .int .i64 0, .int .i64 0, .slice none 0 0, .string ⟨#[]⟩] #[.bool false] 58 4
      rwa [World.size_alloc] at this
    · rw [← hW0, hb]; exact below_al (below_al (below_al (Below.refl _ _) _) _) _
  have hsz : b + 3 ≤ W0.heap.size := by rw [← hW0, hb]; simp
  have hbw : b ≤ w.heap.size := Nat.le_of_eq hb
  rw [← hb]
  clear hW0
  replace hb := hid hb
  refine wp_dyn_box (gf := 76) (lb := #[]) rfl (enters_of Tryz.func76 (by kernel_rfl) rfl) (fields_on W0)
    (fun _ h => h.elim) (fun _ h => h.elim) (fun _ => rfl) (fun γ X Y hv hk => hv.kept hk (fun k h1 h2 => h1 (.inr h2)))
    (fun x g => [(5, .pointer (some ⟨g, 0, none⟩))]) (fun x g X => RowAt X g 58 ((ctR x.1).cells x.2) ∧ W0.heap.size + 2 ≤ g)
    (fun x g X Y h hk => ⟨hk.row h.1 (fun h2 => by have := h.2; rcases h2 with h2 | h2 <;> omega), h.2⟩)
    (fun γ pre X => FnI s b w X ∧ ∀ i, i < pre.length → (ctR i).name ≠ s)
    (fun c γ pre X => c = .ret ∧ ∃ i p, i < 32 ∧ (ctR i).name = s ∧ RowAt X (b + 1) 58 ((ctR i).cells p) ∧ RowAt X (b + 1 + 1) 4 #[.bool true] ∧ Below b w X ∧ p = ctAtP γ i ∧ CtV (W0.heap.size + 2) γ X) ?hI ?hIx ?h0 ?assign ?body ?done ?stop
  case hI =>
    rintro γ pre X Y ⟨h1, h2⟩ hv hk
    exact ⟨h1.kept hk (fun k h => by rcases h with h | (h | h) | h; exact h.elim; all_goals omega) hbw, h2⟩
  case hIx =>
    rintro c γ pre X Y ⟨hc, i, p, hi, hn, h1, h2, h3, h4, h5⟩ hv hk
    have hS : ∀ k, (False ∨ twoOf W0.heap.size k ∨ (W0.heap.size + 2 ≤ k ∧ k < ctM γ)) → b + 3 ≤ k := fun k h => by rcases h with h | (h | h) | h; exact h.elim; all_goals omega
    exact ⟨hc, i, p, hi, hn, hk.row h1 (fun h => by have := hS _ h; omega), hk.row h2 (fun h => by have := hS _ h; omega), below_kept h3 hk hbw (fun k h => by have := hS k h; omega), h4, hv⟩
  case h0 =>
    intro γ X hk hs hm hv
    exact ⟨hN0.kept hk (fun _ h => h.elim) hbw, fun i hi => by simp at hi⟩
  case assign =>
    intro l' γ pre x X K hm1 hm2 hi hK
    obtain ⟨C, hC⟩ : ∃ C, C = (ctR x.1).cells x.2 := ⟨_, rfl⟩
    have hC1 : C.size = 6 := by rw [hC]; rfl
    have hC2 : C.all (·.oneCell') = true := by rw [hC]; exact ctCells_one _ _
    simp only [encF]
    rw [fold2]
    rw [← hC] at hK
    replace hi := hid hi
    replace hK := hid hK
    simp only [← hC]
    replace hC1 := hid hC1
    replace hC2 := hid hC2
    have hC3 := hid hC
    clear hC
    simp only [List.zip_toArray, List.foldl_toArray', List.foldl_toArray, List.zip_cons_cons, List.zip_nil_left, List.foldl_cons, List.foldl_nil, List.setIfInBounds_toArray, List.set_cons_zero, List.set_cons_succ]
    gi_wp2_with (with_reducible refine at_opIn none (.store 58 (.tmp 5) (.tmp 8)) ?_
                 refine wpListIn_store_row (o := ⟨none, .store _ (.tmp 5) (.tmp 8), _, _, _, _⟩) rfl 58 (.tmp 5) (.tmp 8) rfl X.heap.size C rfl (by rfl) 58 _ (RowAt.new X _ _) (by rw [hC1.out]; exact infoField) (by rw [hC1.out]; rfl) hC2.out ?_
                 generalize hYd : World.setRow _ _ _ = Y
                 have hkY : Kept (fun _ => False) X Y := by rw [← hYd]; exact Kept.of_below (below_setRow (below_al (Below.refl _ _) _) (Nat.le_refl _) _)
                 have rY : RowAt Y X.heap.size 58 C := by rw [← hYd]; exact (RowAt.new X _ _).setRow _
                 have hfin := hid (hK.out X.heap.size Y hkY (⟨hi.out.1.kept hkY (fun _ h => h.elim) hbw, hi.out.2⟩) ⟨rY, by omega⟩ (Nat.le_refl _))
                 clear hYd rY hkY)
    have hh := hfin.out
    simp only [encF, ← hC3.out] at hh
    simpa [putAll] using hh
  case body =>
    rintro γ pre x post g X hx hm1 hm2 hv hr ⟨hi1, hi2⟩ ⟨rg, hg⟩
    obtain ⟨hp32, hxe, hpre⟩ := ctXs_pre hx
    obtain ⟨n, p⟩ := x
    obtain ⟨rfl, rfl⟩ : n = pre.length ∧ p = ctAtP γ pre.length := by simpa using hxe
    obtain ⟨T, hT⟩ : ∃ T, T = (ctR pre.length).name := ⟨_, rfl⟩
    obtain ⟨C, hC⟩ : ∃ C, C = (ctR pre.length).cells (ctAtP γ pre.length) := ⟨_, rfl⟩
    have hC1 : C.size = 6 := by rw [hC]; rfl
    have hC2 : C.all (·.oneCell') = true := by rw [hC]; exact ctCells_one _ _
    have hC0 : C[0]? = some (.string T) := by rw [hC, hT]; rfl
    simp only [encF] at rg ⊢
    rw [fold2]
    rw [← hC] at rg ⊢
    simp only [putAll, List.zip_toArray, List.foldl_toArray', List.foldl_toArray, List.zip_cons_cons, List.zip_nil_left, List.foldl_cons, List.foldl_nil, List.setIfInBounds_toArray, List.set_cons_zero, List.set_cons_succ]
    have c0 : X.cell? ⟨g, 0, none⟩ = some (.string T) := rg.cell hC0
    have cs : X.cell? ⟨b, 0, none⟩ = some (.string s) := hi1.rs.cell rfl
    have hrow : X.rangeAt g 0 C.toList := fun j v hj => by rw [Nat.zero_add]; exact rg.cell (by rw [Array.getElem?_toList] at hj; exact hj)
    have hC3 := hid hC
    replace hrow := hid hrow
    replace hC1 := hid hC1
    replace hC2 := hid hC2
    replace hi1 := hid hi1
    replace hi2 := hid hi2
    replace hv := hid hv
    have hT3 := hid hT
    have hlen : (pre ++ [(pre.length, ctAtP γ pre.length)]).length = pre.length + 1 := by simp
    replace hlen := hid hlen
    clear hxe hC hT hr rg hC0 hx hpre
    have hnk : ∀ k, k < b + 3 → ¬ (twoOf W0.heap.size k ∨ heldD (fun _ => False) (W0.heap.size + 2) (ctM γ) k) := fun k hk h => by rcases h with (h | h) | h | h; all_goals (first | exact h | omega)
    by_cases hd : (T.toList == s.toList) = true
    · have hTs : T = s := by rw [toList_beqB] at hd; exact of_decide_eq_true hd
      have f3 : X.frozen? ⟨b + 1 + 1, 0, none⟩ = false := hi1.out.r3.free 0
      have hfin := hid (show FnI s b w X from hi1.out)
      replace hTs := hid hTs
      gi_wp2_with (first
        | (with_reducible refine at_opIn (some 13) (.load 58 (.tmp 5)) ?_
           refine wpListIn_load_mid (o := ⟨some 13, .load _ (.tmp 5), _, _, _, _⟩) rfl 58 (.tmp 5) rfl g 0 rfl C.toList _ hrow.out Tryz.underlying58 rfl (by rw [Array.length_toList, hC1.out]; exact infoField) ?_)
        | (with_reducible refine at_opIn none (.store 58 (.tmp 2) (.tmp 13)) ?_
           refine wpListIn_store_row (o := ⟨none, .store _ (.tmp 2) (.tmp 13), _, _, _, _⟩) rfl 58 (.tmp 2) (.tmp 13) rfl (b + 1) C rfl (by rfl) 58 zeroF hi1.out.r2 (by rw [hC1.out]; exact infoField) (by rw [hC1.out]; rfl) hC2.out ?_
           generalize hYd : World.setRow _ _ _ = Y
           have r2 : RowAt Y (b + 1) 58 C := by rw [← hYd]; exact hi1.out.r2.setRow _
           have r3 : RowAt Y (b + 1 + 1) 4 #[.bool false] := by rw [← hYd]; exact hi1.out.r3.setRowOther _ _ (by omega)
           have bel : Below b w Y := by rw [← hYd]; exact below_setRow hi1.out.bel (by omega) _
           have hkY : Kept (fun k => k = b + 1) X Y := by rw [← hYd]; exact (Kept.refl (fun k => k = b + 1) X).setRow (b + 1) rfl C
           have c3 := r3.cell (j := 0) rfl
           have f4 := r3.free 0
           replace r2 := hid (r2.other ⟨b + 1 + 1, 0, none⟩ (.bool true) (by show b + 1 ≠ b + 1 + 1; omega))
           replace r3 := hid ((r3.set 0 (.bool true)).eqA (A' := #[.bool true]) (by simp))
           replace bel := hid (bel.setCell (p := ⟨b + 1 + 1, 0, none⟩) (by show b ≤ b + 1 + 1; omega) (.bool true))
           replace hkY := hid ((hkY.mono (T := fun k => k = b + 1 ∨ k = b + 1 + 1) fun k _ h => .inl h).setCell ⟨b + 1 + 1, 0, none⟩ (.inl (.inr rfl)) (.bool true))
           clear hYd))
      refine ⟨hkY.out.mono fun k _ h => hnk k (by rcases h with h | h <;> omega), rfl, pre.length, _, hp32, by rw [← hTs.out]; exact hT3.out.symm, by rw [← hC3.out]; exact r2.out, r3.out, bel.out, rfl, hv.out.kept hkY.out (fun k h => by rcases h with h | h <;> omega)⟩
    · have hd' : (T.toList == s.toList) = false := by simpa using hd
      have hfin := hid (show ∀ i, i < pre.length + 1 → (ctR i).name ≠ s from fun i hi => by
        by_cases q : i = pre.length
        · rw [q, ← hT3.out]; rw [toList_beqB] at hd'; exact of_decide_eq_false hd'
        · exact hi2.out i (by omega))
      clear hd
      gi_wp2
      exact ⟨Kept.refl _ _, hi1.out, by rw [hlen.out]; exact hfin.out⟩
  case done =>
    rintro γ X hs ⟨h1, h2⟩ hd
    rw [show (ctXs γ).length = 32 by simp [ctXs]] at h2
    replace h1 := hid h1
    replace h2 := hid h2
    replace hd := hid hd
    gi_wp2_with (with_reducible refine at_opIn none (.store 58 (.tmp 2) (.tmp 14)) ?_
                 refine wpListIn_store_row (o := ⟨none, .store _ (.tmp 2) (.tmp 14), _, _, _, _⟩) rfl 58 (.tmp 2) (.tmp 14) rfl (b + 1) zeroF rfl (by rfl) 58 zeroF h1.out.r2 infoField rfl (fieldA_one _ _ _ _ _ _ _ _) ?_
                 generalize hYd : World.setRow _ _ _ = Y
                 have r2 : RowAt Y (b + 1) 58 zeroF := by rw [← hYd]; exact h1.out.r2.setRow _
                 have r3 : RowAt Y (b + 1 + 1) 4 #[.bool false] := by rw [← hYd]; exact h1.out.r3.setRowOther _ _ (by omega)
                 have bel : Below b w Y := by rw [← hYd]; exact below_setRow h1.out.bel (by omega) _
                 have hdY : Y.heap[W0.heap.size]? = some (.deferred (some [])) := by rw [← hYd]; exact (setRow_other _ _ _ _ (by omega)).trans hd.out
                 have c3 := r3.cell (j := 0) rfl
                 have f4 := r3.free 0
                 replace r2 := hid (r2.other ⟨b + 1 + 1, 0, none⟩ (.bool false) (by show b + 1 ≠ b + 1 + 1; omega))
                 replace r3 := hid ((r3.set 0 (.bool false)).eqA (A' := #[.bool false]) (by simp))
                 replace bel := hid (bel.setCell (p := ⟨b + 1 + 1, 0, none⟩) (by show b ≤ b + 1 + 1; omega) (.bool false))
                 replace hdY := hid (defer_cell hdY ⟨b + 1 + 1, 0, none⟩ (.bool false) (by show W0.heap.size ≠ b + 1 + 1; omega))
                 clear hYd)
    generalize Y.setCell ⟨b + 1 + 1, 0, none⟩ (.bool false) = Z at r2 r3 bel hdY ⊢
    have r21 : RowAt (Z.putObj W0.heap.size (.deferred none)) (b + 1) 58 zeroF := (World.putObj_heap_other (by omega)).trans r2.out
    have r31 : RowAt (Z.putObj W0.heap.size (.deferred none)) (b + 1 + 1) 4 #[.bool false] := (World.putObj_heap_other (by omega)).trans r3.out
    refine leave_one hdY.out ⟨_, results_row_cell rfl _ _ (b + 1) (b + 1 + 1) 58 _ (0, 0) _ .bool _ rfl r21 Tryz.underlying58 rfl infoField rfl (r31.cell (j := 0) rfl) Tryz.underlying4, .inr ⟨h2.out, rfl⟩, ?_⟩
    rw [← hb.out]
    exact below_kept bel.out ((Kept.refl (fun k => k = W0.heap.size) Z).putObj _ _ (.inl rfl)) hbw (fun k hk => by omega)
  case stop =>
    rintro c γ pre x post X hs hx ⟨rfl, i, p, hi, hn, h1, h2, h3, h4, h5⟩ hd
    have hdb : W0.heap.size ≠ b + 1 := by omega
    have hdb2 : W0.heap.size ≠ b + 1 + 1 := by omega
    gi_wp2
    have r1 : RowAt (X.putObj W0.heap.size (.deferred none)) (b + 1) 58 ((ctR i).cells p) := (World.putObj_heap_other (by omega)).trans h1
    have r2 : RowAt (X.putObj W0.heap.size (.deferred none)) (b + 1 + 1) 4 #[.bool true] := (World.putObj_heap_other (by omega)).trans h2
    refine leave_one hd ⟨_, results_row_cell rfl _ _ (b + 1) (b + 1 + 1) 58 _ (0, 0) _ .bool _ rfl r1 Tryz.underlying58 rfl infoField rfl (r2.cell (j := 0) rfl) Tryz.underlying4, ?_, ?_⟩
    · refine .inl ⟨i, p, hi, hn, rfl, ?_⟩
      have hV := h5.kept ((Kept.refl (fun k => k = W0.heap.size) X).putObj W0.heap.size (.deferred none) (.inl rfl)) (fun k hk hh => by omega)
      rw [h4]
      exact (hV i hi).1
    · rw [← hb.out]
      exact below_kept h3 ((Kept.refl (fun k => k = W0.heap.size) X).putObj _ _ (.inl rfl)) hbw (fun k hk => by omega)
set_option maxRecDepth 100000 in
set_option maxHeartbeats 8000000 in
theorem ctAwake_any (w : World) (hM : MaxVar w) : Calls Tryz.prog 29 #[] w fun e w' => e = .returned (.bool true) ∧ Below w.heap.size w w' := by
  have LF : ∀ w, Calls Tryz.prog 34 #[.string ⟨#[109, 99, 99]⟩] w fun e w' => (∃ a c, e = .returned (.tuple #[.agg (fieldA ⟨#[109, 99, 99]⟩ 1 4 4 (.slice a 0 c) ⟨#[82, 45, 45, 45, 45, 45, 45, 45, 45]⟩), .bool true])) ∧ Below w.heap.size w w' := fun w => by
    refine (find_any _ w).mono ?_
    rintro e w' ⟨h | h, hB⟩
    · obtain ⟨i, p, hi, hn, he, _⟩ := h
      have : ∀ i, i < 32 → (ctR i).name = ⟨#[109, 99, 99]⟩ → i = 10 := by decide
      obtain rfl := this i hi hn
      exact ⟨⟨p.1, p.2, he⟩, hB⟩
    · exact absurd rfl (h.1 10 (by omega))
  have LA : ∀ W, MaxVar W → Calls Tryz.prog 74 #[] W fun e w' => e = .returned (.bool true) ∧ Below W.heap.size W w' := fun W hW => by
    have L := hid (fmAwake_any W hW)
    clear LF hM
    go_enter Tryz.func74, Tryz.ntmps74
    go_wp2_with (go_at_call 19; refine (L.out).mono ?_; rintro e w1 ⟨rfl, hB⟩)
    go_ret
    exact ⟨rfl, hB⟩
  replace LF := hid LF
  replace LA := hid LA
  replace hM := hid hM
  go_enter Tryz.func29, Tryz.ntmps29
  go_wp2_with (first
    | (go_at_call 34; with_reducible refine (LF.out _).mono ?_; rintro e w1 ⟨⟨a, c, rfl⟩, hB⟩; unfold fieldA; replace hB := hid hB)
    | (go_at_call 74; with_reducible refine (LA.out _ ((hM.out.below hB.out).alloc _)).mono ?_; rintro e w2 ⟨rfl, hB2⟩
       have r := (RowAt.new w1 (fieldA ⟨#[109, 99, 99]⟩ 1 4 4 (.slice a 0 c) ⟨#[82, 45, 45, 45, 45, 45, 45, 45, 45]⟩) 58).below hB2 (by simp)
       have k1 : w2.cell? ⟨w1.heap.size, 1, none⟩ = some (.int .i64 1) := r.cell rfl
       have k2 : w2.cell? ⟨w1.heap.size, 2, none⟩ = some (.int .i64 4) := r.cell rfl
       have k3 : w2.cell? ⟨w1.heap.size, 3, none⟩ = some (.int .i64 4) := r.cell rfl
       have b2 := hid (below_cat hB2 (below_al hB.out _))
       clear hB2 r))
  go_ret
  exact ⟨rfl, b2.out⟩
end
end Go.Proofs.YtdjlpmelmhhooaaGreatDoor
