/- Catalog: makers of rules, kinds, the table. -/
import Derived.Test.YtdjlpmelmhhooaaGreatDoorFmN
namespace Go.Proofs.YtdjlpmelmhhooaaGreatDoor
section
open Go Go.RowKit
set_option linter.unusedSimpArgs false
set_option linter.unusedVariables false

/-- A field, as it is handed over. -/
def fieldA (name : ByteArray) (k mn mx : Int) (v : Value) (inn : ByteArray) : Array Value := #[.string name, .int .i64 k, .int .i64 mn, .int .i64 mx, v, .string inn]
theorem infoField : (Tryz.prog.info? 58).map (·.size) = some 6 := by kernel_rfl
theorem fieldA_one (s : ByteArray) (k mn mx : Int) (a : Option Addr) (n c : Nat) (t : ByteArray) : (fieldA s k mn mx (.slice a n c) t).all (·.oneCell') = true := by simp [fieldA, Value.oneCell']
/-- Strings that lie in a block of their own, no elder than B. -/
def FrStrs (B : Nat) (W : World) (a : Option Addr) (n : Nat) (ss : List ByteArray) : Prop := IsStrs W a n ss ∧ ∀ x, a = some x → ss ≠ [] → B ≤ x.block
theorem FrStrs.mono {B B' : Nat} {W : World} {a : Option Addr} {n : Nat} {ss : List ByteArray} (h : FrStrs B W a n ss) (hB : B' ≤ B) : FrStrs B' W a n ss := ⟨h.1, fun x hx hs => Nat.le_trans hB (h.2 x hx hs)⟩
theorem FrStrs.below {B : Nat} {W W' : World} {a : Option Addr} {n : Nat} {ss : List ByteArray} (h : FrStrs B W a n ss) (hB : Below W.heap.size W W') : FrStrs B W' a n ss := ⟨h.1.below hB, h.2⟩
theorem FrStrs.setRowR {B : Nat} {w : World} {a : Option Addr} {n : Nat} {ss : List ByteArray} (h : FrStrs B w a n ss) {b : Nat} {t : TypeId} {x y z : Int} {v : Option Addr} {i j : Nat} (r : RowAt w b t #[.int .i64 x, .int .i64 y, .int .i64 z, .slice v i j]) (A : Array Value) : FrStrs B (w.setRow b A) a n ss := ⟨h.1.setRowR r A, h.2⟩
theorem frStrs_read {w : World} {base : Nat} {v : Value} {ss : List ByteArray} (h : Strs w base v ss) (hz : ∀ s ∈ ss, s.size ≤ maxLen) : ∃ a c, v = .slice a ss.length c ∧ FrStrs base w a ss.length ss := by
  obtain ⟨a, c, hv, hi⟩ := Strs.read h rfl hz
  refine ⟨a, c, hv, hi, fun x hx hs => ?_⟩
  subst hx
  exact (h.lt x.block (by rw [hv]; rfl)).1
theorem clone_strsF (a : Option Addr) (n c : Nat) (ss : List ByteArray) (hn : n ≤ 1000) (w : World) (h : IsStrs w a n ss) :
    Calls Tryz.prog 58 #[.slice a n c] w fun e w' => ∃ a' c', e = .returned (.slice a' n c') ∧ FrStrs w.heap.size w' a' n ss ∧ Below w.heap.size w w' := by
  have hl := h.len
  have hsm := h.small
  by_cases h0 : n = 0
  · subst h0
    obtain rfl : ss = [] := List.eq_nil_of_length_eq_zero hl
    exact (clone_strs a 0 c [] hn w h).mono fun e w' ⟨a', c', he, hS, hB⟩ => ⟨a', c', he, ⟨hS, fun x _ hs => absurd rfl hs⟩, hB⟩
  · obtain ⟨b, o, rfl, hc⟩ := h.addr (by omega)
    refine (slsS_slices_Clone_string b o n c ss w (by omega) (by omega) hc).mono ?_
    rintro e w' ⟨v, rfl, ho, _, hB⟩
    rw [List.take_of_length_le (by omega), ← hl] at ho
    obtain ⟨a2, c2, rfl, hS⟩ := frStrs_read (w := w') (base := w.heap.size) (ss := ss) ho hsm
    refine ⟨a2, c2, ?_, ?_, hB⟩
    · rw [hl]
    · rw [← hl]; exact hS

set_option maxRecDepth 100000 in
set_option maxHeartbeats 4000000 in
theorem ruleOf_anyF (k mn mx : Int) (a : Option Addr) (n c : Nat) (ss : List ByteArray) (hn : n ≤ 1000) (w : World) (h : IsStrs w a n ss) :
    Calls Tryz.prog 21 #[.int .i64 k, .int .i64 mn, .int .i64 mx, .slice a n c] w fun e w' => ∃ a' c', e = .returned (.agg (ruleA k mn mx (.slice a' n c'))) ∧ FrStrs w.heap.size w' a' n ss ∧ Below w.heap.size w w' := by
  have LC : ∀ W, Below w.heap.size w W → Calls Tryz.prog 58 #[.slice a n c] W fun e w' => ∃ a' c', e = .returned (.slice a' n c') ∧ FrStrs w.heap.size w' a' n ss ∧ Below W.heap.size W w' := fun W hW => (clone_strsF a n c ss hn W (h.below hW)).mono fun e w' ⟨a', c', he, hS, hB⟩ => ⟨a', c', he, hS.mono hW.size, hB⟩
  have hb := fun o => below_al (Below.refl w.heap.size w) o
  replace LC := hid LC
  replace hb := hid hb
  clear h
  go_enter Tryz.func21, Tryz.ntmps21
  go_wp2_with (first
    | (go_at_call 58; with_reducible refine (LC.out _ (hb.out _)).mono ?_; rintro e w1 ⟨a', c', rfl, hS, hB⟩
       have r1 := (RowAt.new w #[.int .i64 0, .int .i64 0, .int .i64 0, .slice none 0 0] 37).below hB (by simp)
       have b1 := below_cat hB (hb.out _)
       replace hS := hid hS
       replace r1 := hid r1
       replace b1 := hid b1
       clear hB)
    | (with_reducible refine at_op none (.store 37 (.tmp 8) (.tmp 14)) ?_
       refine wpList_store_row (o := ⟨none, .store _ (.tmp 8) (.tmp 14), _, _, _, _⟩) rfl 37 (.tmp 8) (.tmp 14) rfl w.heap.size (ruleA k mn mx (.slice a' n c')) rfl rfl 37 _ r1.out infoRule rfl (ruleA_one _ _ _ _ _ _) ?_))
  refine bodyPost_ret (results_cell_row rfl _ _ w.heap.size 37 (ruleA k mn mx (.slice a' n c')) (0, 0) _ rfl (r1.out.setRow _) Tryz.underlying37 rfl infoRule) rfl ⟨a', c', rfl, ?_, below_setRow b1.out (Nat.le_refl _) _⟩
  exact hS.out.setRowR r1.out _

set_option maxRecDepth 100000 in
set_option maxHeartbeats 4000000 in
theorem ctDigits_any (n : Int) (w : World) :
    Calls Tryz.prog 112 #[.int .i64 n] w fun e w' => ∃ a' c', e = .returned (.agg (ruleA (1) (n) (n) (.slice a' 0 c'))) ∧ FrStrs w.heap.size w' a' 0 [] ∧ Below w.heap.size w w' := by
  have LC : ∀ W, Below w.heap.size w W → Calls Tryz.prog 21 #[.int .i64 (1), .int .i64 (n), .int .i64 (n), .slice none 0 0] W fun e w' => ∃ a' c', e = .returned (.agg (ruleA (1) (n) (n) (.slice a' 0 c'))) ∧ FrStrs w.heap.size w' a' 0 [] ∧ Below W.heap.size W w' := fun W hW => (ruleOf_anyF (1) (n) (n) none 0 0 [] (by omega) W (.inl ⟨rfl, rfl, rfl⟩)).mono fun e w' ⟨a', c', he, hS, hB⟩ => ⟨a', c', he, hS.mono hW.size, hB⟩
  have hb := fun o => below_al (Below.refl w.heap.size w) o
  replace LC := hid LC
  replace hb := hid hb
  go_enter Tryz.func112, Tryz.ntmps112
  go_wp2_with (first
    | (go_at_call 21; with_reducible refine (LC.out _ (hb.out _)).mono ?_; rintro e w1 ⟨a', c', rfl, hS, hB⟩
       have r1 := (RowAt.new w #[.int .i64 0, .int .i64 0, .int .i64 0, .slice none 0 0] 37).below hB (by simp)
       have b1 := below_cat hB (hb.out _)
       replace hS := hid hS
       replace r1 := hid r1
       replace b1 := hid b1
       clear hB)
    | (with_reducible refine at_op none (.store 37 (.tmp 2) (.tmp 5)) ?_
       refine wpList_store_row (o := ⟨none, .store _ (.tmp 2) (.tmp 5), _, _, _, _⟩) rfl 37 (.tmp 2) (.tmp 5) rfl w.heap.size (ruleA (1) (n) (n) (.slice a' 0 c')) rfl rfl 37 _ r1.out infoRule rfl (ruleA_one _ _ _ _ _ _) ?_))
  refine bodyPost_ret (results_cell_row rfl _ _ w.heap.size 37 (ruleA (1) (n) (n) (.slice a' 0 c')) (0, 0) _ rfl (r1.out.setRow _) Tryz.underlying37 rfl infoRule) rfl ⟨a', c', rfl, ?_, below_setRow b1.out (Nat.le_refl _) _⟩
  exact hS.out.setRowR r1.out _

set_option maxRecDepth 100000 in
set_option maxHeartbeats 4000000 in
theorem ctText_any (l m : Int) (w : World) :
    Calls Tryz.prog 113 #[.int .i64 l, .int .i64 m] w fun e w' => ∃ a' c', e = .returned (.agg (ruleA (2) (l) (m) (.slice a' 0 c'))) ∧ FrStrs w.heap.size w' a' 0 [] ∧ Below w.heap.size w w' := by
  have LC : ∀ W, Below w.heap.size w W → Calls Tryz.prog 21 #[.int .i64 (2), .int .i64 (l), .int .i64 (m), .slice none 0 0] W fun e w' => ∃ a' c', e = .returned (.agg (ruleA (2) (l) (m) (.slice a' 0 c'))) ∧ FrStrs w.heap.size w' a' 0 [] ∧ Below W.heap.size W w' := fun W hW => (ruleOf_anyF (2) (l) (m) none 0 0 [] (by omega) W (.inl ⟨rfl, rfl, rfl⟩)).mono fun e w' ⟨a', c', he, hS, hB⟩ => ⟨a', c', he, hS.mono hW.size, hB⟩
  have hb := fun o => below_al (Below.refl w.heap.size w) o
  replace LC := hid LC
  replace hb := hid hb
  go_enter Tryz.func113, Tryz.ntmps113
  go_wp2_with (first
    | (go_at_call 21; with_reducible refine (LC.out _ (hb.out _)).mono ?_; rintro e w1 ⟨a', c', rfl, hS, hB⟩
       have r1 := (RowAt.new w #[.int .i64 0, .int .i64 0, .int .i64 0, .slice none 0 0] 37).below hB (by simp)
       have b1 := below_cat hB (hb.out _)
       replace hS := hid hS
       replace r1 := hid r1
       replace b1 := hid b1
       clear hB)
    | (with_reducible refine at_op none (.store 37 (.tmp 4) (.tmp 7)) ?_
       refine wpList_store_row (o := ⟨none, .store _ (.tmp 4) (.tmp 7), _, _, _, _⟩) rfl 37 (.tmp 4) (.tmp 7) rfl w.heap.size (ruleA (2) (l) (m) (.slice a' 0 c')) rfl rfl 37 _ r1.out infoRule rfl (ruleA_one _ _ _ _ _ _) ?_))
  refine bodyPost_ret (results_cell_row rfl _ _ w.heap.size 37 (ruleA (2) (l) (m) (.slice a' 0 c')) (0, 0) _ rfl (r1.out.setRow _) Tryz.underlying37 rfl infoRule) rfl ⟨a', c', rfl, ?_, below_setRow b1.out (Nat.le_refl _) _⟩
  exact hS.out.setRowR r1.out _

set_option maxRecDepth 100000 in
set_option maxHeartbeats 4000000 in
theorem ctBare_any (k : Int) (w : World) :
    Calls Tryz.prog 110 #[.int .i64 k] w fun e w' => ∃ a' c', e = .returned (.agg (ruleA (k) (0) (0) (.slice a' 0 c'))) ∧ FrStrs w.heap.size w' a' 0 [] ∧ Below w.heap.size w w' := by
  have LC : ∀ W, Below w.heap.size w W → Calls Tryz.prog 21 #[.int .i64 (k), .int .i64 (0), .int .i64 (0), .slice none 0 0] W fun e w' => ∃ a' c', e = .returned (.agg (ruleA (k) (0) (0) (.slice a' 0 c'))) ∧ FrStrs w.heap.size w' a' 0 [] ∧ Below W.heap.size W w' := fun W hW => (ruleOf_anyF (k) (0) (0) none 0 0 [] (by omega) W (.inl ⟨rfl, rfl, rfl⟩)).mono fun e w' ⟨a', c', he, hS, hB⟩ => ⟨a', c', he, hS.mono hW.size, hB⟩
  have hb := fun o => below_al (Below.refl w.heap.size w) o
  replace LC := hid LC
  replace hb := hid hb
  go_enter Tryz.func110, Tryz.ntmps110
  go_wp2_with (first
    | (go_at_call 21; with_reducible refine (LC.out _ (hb.out _)).mono ?_; rintro e w1 ⟨a', c', rfl, hS, hB⟩
       have r1 := (RowAt.new w #[.int .i64 0, .int .i64 0, .int .i64 0, .slice none 0 0] 37).below hB (by simp)
       have b1 := below_cat hB (hb.out _)
       replace hS := hid hS
       replace r1 := hid r1
       replace b1 := hid b1
       clear hB)
    | (with_reducible refine at_op none (.store 37 (.tmp 2) (.tmp 4)) ?_
       refine wpList_store_row (o := ⟨none, .store _ (.tmp 2) (.tmp 4), _, _, _, _⟩) rfl 37 (.tmp 2) (.tmp 4) rfl w.heap.size (ruleA (k) (0) (0) (.slice a' 0 c')) rfl rfl 37 _ r1.out infoRule rfl (ruleA_one _ _ _ _ _ _) ?_))
  refine bodyPost_ret (results_cell_row rfl _ _ w.heap.size 37 (ruleA (k) (0) (0) (.slice a' 0 c')) (0, 0) _ rfl (r1.out.setRow _) Tryz.underlying37 rfl infoRule) rfl ⟨a', c', rfl, ?_, below_setRow b1.out (Nat.le_refl _) _⟩
  exact hS.out.setRowR r1.out _

set_option maxRecDepth 100000 in
set_option maxHeartbeats 4000000 in
theorem ctAmount_any (m : Int) (w : World) :
    Calls Tryz.prog 111 #[.int .i64 m] w fun e w' => ∃ a' c', e = .returned (.agg (ruleA (8) (1) (m) (.slice a' 0 c'))) ∧ FrStrs w.heap.size w' a' 0 [] ∧ Below w.heap.size w w' := by
  have LC : ∀ W, Below w.heap.size w W → Calls Tryz.prog 21 #[.int .i64 (8), .int .i64 (1), .int .i64 (m), .slice none 0 0] W fun e w' => ∃ a' c', e = .returned (.agg (ruleA (8) (1) (m) (.slice a' 0 c'))) ∧ FrStrs w.heap.size w' a' 0 [] ∧ Below W.heap.size W w' := fun W hW => (ruleOf_anyF (8) (1) (m) none 0 0 [] (by omega) W (.inl ⟨rfl, rfl, rfl⟩)).mono fun e w' ⟨a', c', he, hS, hB⟩ => ⟨a', c', he, hS.mono hW.size, hB⟩
  have hb := fun o => below_al (Below.refl w.heap.size w) o
  replace LC := hid LC
  replace hb := hid hb
  go_enter Tryz.func111, Tryz.ntmps111
  go_wp2_with (first
    | (go_at_call 21; with_reducible refine (LC.out _ (hb.out _)).mono ?_; rintro e w1 ⟨a', c', rfl, hS, hB⟩
       have r1 := (RowAt.new w #[.int .i64 0, .int .i64 0, .int .i64 0, .slice none 0 0] 37).below hB (by simp)
       have b1 := below_cat hB (hb.out _)
       replace hS := hid hS
       replace r1 := hid r1
       replace b1 := hid b1
       clear hB)
    | (with_reducible refine at_op none (.store 37 (.tmp 2) (.tmp 4)) ?_
       refine wpList_store_row (o := ⟨none, .store _ (.tmp 2) (.tmp 4), _, _, _, _⟩) rfl 37 (.tmp 2) (.tmp 4) rfl w.heap.size (ruleA (8) (1) (m) (.slice a' 0 c')) rfl rfl 37 _ r1.out infoRule rfl (ruleA_one _ _ _ _ _ _) ?_))
  refine bodyPost_ret (results_cell_row rfl _ _ w.heap.size 37 (ruleA (8) (1) (m) (.slice a' 0 c')) (0, 0) _ rfl (r1.out.setRow _) Tryz.underlying37 rfl infoRule) rfl ⟨a', c', rfl, ?_, below_setRow b1.out (Nat.le_refl _) _⟩
  exact hS.out.setRowR r1.out _

set_option maxRecDepth 100000 in
set_option maxHeartbeats 4000000 in
theorem ctAmong_any (a : Option Addr) (n c : Nat) (ss : List ByteArray) (hn : n ≤ 1000) (w : World) (h : IsStrs w a n ss) :
    Calls Tryz.prog 109 #[.slice a n c] w fun e w' => ∃ a' c', e = .returned (.agg (ruleA (4) (0) (0) (.slice a' n c'))) ∧ FrStrs w.heap.size w' a' n ss ∧ Below w.heap.size w w' := by
  have LC : ∀ W, Below w.heap.size w W → Calls Tryz.prog 21 #[.int .i64 (4), .int .i64 (0), .int .i64 (0), .slice a n c] W fun e w' => ∃ a' c', e = .returned (.agg (ruleA (4) (0) (0) (.slice a' n c'))) ∧ FrStrs w.heap.size w' a' n ss ∧ Below W.heap.size W w' := fun W hW => (ruleOf_anyF (4) (0) (0) a n c ss (by omega) W (h.below hW)).mono fun e w' ⟨a', c', he, hS, hB⟩ => ⟨a', c', he, hS.mono hW.size, hB⟩
  have hb := fun o => below_al (Below.refl w.heap.size w) o
  replace LC := hid LC
  replace hb := hid hb
  clear h
  go_enter Tryz.func109, Tryz.ntmps109
  go_wp2_with (first
    | (go_at_call 21; with_reducible refine (LC.out _ (hb.out _)).mono ?_; rintro e w1 ⟨a', c', rfl, hS, hB⟩
       have r1 := (RowAt.new w #[.int .i64 0, .int .i64 0, .int .i64 0, .slice none 0 0] 37).below hB (by simp)
       have b1 := below_cat hB (hb.out _)
       replace hS := hid hS
       replace r1 := hid r1
       replace b1 := hid b1
       clear hB)
    | (with_reducible refine at_op none (.store 37 (.tmp 2) (.tmp 4)) ?_
       refine wpList_store_row (o := ⟨none, .store _ (.tmp 2) (.tmp 4), _, _, _, _⟩) rfl 37 (.tmp 2) (.tmp 4) rfl w.heap.size (ruleA (4) (0) (0) (.slice a' n c')) rfl rfl 37 _ r1.out infoRule rfl (ruleA_one _ _ _ _ _ _) ?_))
  refine bodyPost_ret (results_cell_row rfl _ _ w.heap.size 37 (ruleA (4) (0) (0) (.slice a' n c')) (0, 0) _ rfl (r1.out.setRow _) Tryz.underlying37 rfl infoRule) rfl ⟨a', c', rfl, ?_, below_setRow b1.out (Nat.le_refl _) _⟩
  exact hS.out.setRowR r1.out _

def msgL : List ByteArray := [⟨#[65, 82, 101, 113]⟩, ⟨#[65, 82, 101, 115]⟩, ⟨#[67, 82, 101, 113]⟩, ⟨#[67, 82, 101, 115]⟩, ⟨#[82, 82, 101, 113]⟩, ⟨#[82, 82, 101, 115]⟩, ⟨#[69, 114, 114, 111]⟩, ⟨#[80, 82, 101, 113]⟩, ⟨#[80, 82, 101, 115]⟩]
def msgA : Array Value := (((⟨#[]⟩ : ByteArray) :: msgL).map Value.string).toArray
theorem infoMsg : (Tryz.prog.info? 65).map (·.size) = some 10 := by kernel_rfl
theorem messages_any (w : World) : Calls Tryz.prog 35 #[] w fun e w' => e = .returned (.agg msgA) ∧ Below w.heap.size w w' := by
  go_enter Tryz.func35, Tryz.ntmps35
  go_wp2
  exact bodyPost_ret (results_cell_row rfl _ _ w.heap.size 65 msgA (0, 0) _ rfl (RowAt.new w msgA _) Tryz.underlying65 rfl infoMsg) rfl ⟨rfl, below_al (Below.refl _ _) _⟩
end
section
open Go Go.RowKit
set_option linter.unusedSimpArgs false
set_option linter.unusedVariables false

theorem msgA_get : ∀ i, i < 9 → msgA[1 + i]? = some (.string (msgL.getD i ByteArray.empty))
  | 0, _ => rfl
  | 1, _ => rfl
  | 2, _ => rfl
  | 3, _ => rfl
  | 4, _ => rfl
  | 5, _ => rfl
  | 6, _ => rfl
  | 7, _ => rfl
  | 8, _ => rfl
theorem msgL_small : ∀ s ∈ msgL, s.size ≤ 300 := by
  intro s h
  simp only [msgL, List.mem_cons, List.not_mem_nil, or_false] at h
  rcases h with rfl | rfl | rfl | rfl | rfl | rfl | rfl | rfl | rfl <;> decide
theorem msg_strs {W : World} {g : Nat} {t : TypeId} (h : RowAt W g t msgA) : IsStrs W (some ⟨g, 1, none⟩) 9 msgL := by
  refine .inr ⟨_, rfl, rfl, fun i s hi => ?_, fun s hs => Nat.le_trans (msgL_small s hs) (by unfold maxLen; omega)⟩
  have hi9 : i < 9 := (List.getElem?_eq_some_iff.1 hi).1
  have := h.cell (msgA_get i hi9)
  rw [List.getD_eq_getElem?_getD, hi] at this
  rw [show (⟨g, 1, none⟩ : Addr).add i = ⟨g, 1 + i, none⟩ from by cases i <;> simp [Addr.add]]
  simpa using this

set_option maxRecDepth 100000 in
set_option maxHeartbeats 4000000 in
theorem ctKinds_any (w : World) :
    Calls Tryz.prog 108 #[] w fun e w' => ∃ a' c', e = .returned (.agg (ruleA 4 0 0 (.slice a' 9 c'))) ∧ FrStrs w.heap.size w' a' 9 msgL ∧ Below w.heap.size w w' := by
  have LM := hid (fun w => messages_any w)
  have LA := hid (fun g c W h => ctAmong_any (some ⟨g, 1, none⟩) 9 c msgL (by omega) W h)
  obtain ⟨M, hM⟩ : ∃ M, M = msgA := ⟨_, rfl⟩
  have hM1 : M.size = 10 := by rw [hM]; rfl
  have hM2 : M.all (·.oneCell') = true := by rw [hM]; simp [msgA, msgL, Value.oneCell']
  have hM3 := hid hM
  rw [← hM] at LM
  clear hM
  go_enter Tryz.func108, Tryz.ntmps108
  go_wp2_with (first
    | (go_at_call 35; with_reducible refine (LM.out _).mono ?_; rintro e w1 ⟨rfl, hB⟩
       have r0 := hid ((RowAt.new w #[.int .i64 0, .int .i64 0, .int .i64 0, .slice none 0 0] 37).below hB (by simp))
       have b1 := hid (below_cat hB (below_al (Below.refl w.heap.size w) _))
       clear hB)
    | (with_reducible refine at_op none (.store 65 (.tmp 1) (.tmp 2)) ?_
       refine wpList_store_row (o := ⟨none, .store _ (.tmp 1) (.tmp 2), _, _, _, _⟩) rfl 65 (.tmp 1) (.tmp 2) rfl w1.heap.size M rfl rfl 65 _ (RowAt.new w1 _ _) (by rw [hM1]; exact infoMsg) hM1.symm hM2 ?_
       generalize hY : World.setRow _ _ _ = Y
       have b0 : Below w1.heap.size w1 Y := by rw [← hY]; exact below_setRow (below_al (Below.refl _ _) _) (Nat.le_refl _) _
       have r := show RowAt Y w1.heap.size 65 M by rw [← hY]; exact (RowAt.new w1 _ _).setRow _
       have rr := hid (r0.out.below b0 r0.out.lt)
       have b := hid (below_cat b0 b1.out)
       rw [hM3.out] at r
       have hI := hid (msg_strs r)
       generalize w1.heap.size = g at hI ⊢
       clear hY b0 r0 b1 r LM)
    | (go_at_call 109; with_reducible refine (LA.out _ _ _ hI.out).mono ?_; rintro e w2 ⟨a', c', rfl, hS, hB⟩
       have r1 := hid (rr.out.below hB rr.out.lt)
       have b1 := hid (below_cat hB b.out)
       replace hS := hid (hS.mono b.out.size)
       clear hB rr b hI)
    | (with_reducible refine at_op none (.store 37 (.tmp 0) (.tmp 4)) ?_
       refine wpList_store_row (o := ⟨none, .store _ (.tmp 0) (.tmp 4), _, _, _, _⟩) rfl 37 (.tmp 0) (.tmp 4) rfl w.heap.size (ruleA 4 0 0 (.slice a' 9 c')) rfl rfl 37 _ r1.out infoRule rfl (ruleA_one _ _ _ _ _ _) ?_))
  refine bodyPost_ret (results_cell_row rfl _ _ w.heap.size 37 (ruleA 4 0 0 (.slice a' 9 c')) (0, 0) _ rfl (r1.out.setRow _) Tryz.underlying37 rfl infoRule) rfl ⟨a', c', rfl, ?_, below_setRow b1.out (Nat.le_refl _) _⟩
  exact hS.out.setRowR r1.out _
end
section
open Go Go.RowKit
set_option linter.unusedSimpArgs false
set_option linter.unusedVariables false

theorem foldl_set_row (off : Nat) (xs : List Value) : ∀ (k : Nat) (pre old post : List Value), pre.length = off + k → old.length = xs.length →
    (xs.zipIdx k).foldl (fun (cs : Array Value) (p : Value × Nat) => cs.setIfInBounds (off + p.2) p.1) (pre ++ old ++ post).toArray = (pre ++ xs ++ post).toArray := by
  induction xs with
  | nil => intro k pre old post _ h; have := List.length_eq_zero_iff.1 h; subst this; rfl
  | cons x xs ih =>
    intro k pre old post h0 h
    cases old with
    | nil => simp at h
    | cons y old =>
      simp only [List.zipIdx_cons, List.foldl_cons]
      have e : (pre ++ y :: old ++ post).toArray.setIfInBounds (off + k) x = (pre ++ [x] ++ old ++ post).toArray := by
        rw [List.setIfInBounds_toArray, ← h0]
        congr 1
        simp [List.set_append]
      rw [e]
      have := ih (k + 1) (pre ++ [x]) old post (by simp [h0]; omega) (by simpa using h)
      rw [this]
      simp
theorem fill_rows (size : Nat) (place : Nat → Option (Nat × Nat)) (hp : ∀ i, place i = some (i * size, size)) : ∀ (xs : List (List Value)) (k : Nat) (pre rest : List Value), pre.length = k * size → rest.length = xs.length * size → (∀ x ∈ xs, x.length = size) →
    Instr.fill place (pre ++ rest).toArray ((xs.zipIdx k).map fun p => (p.2, .agg p.1.toArray)) = some (pre ++ xs.flatten).toArray
  | [], k, pre, rest, h1, h2, h3 => by
    have : rest = [] := List.length_eq_zero_iff.1 (by simpa using h2)
    subst this
    simp [Instr.fill]
  | x :: xs, k, pre, rest, h1, h2, h3 => by
    have hx := h3 x (by simp)
    have h2' : rest.length = (xs.length + 1) * size := by simpa using h2
    have hle : size ≤ rest.length := by rw [h2', Nat.add_mul]; omega
    have hs : rest = rest.take size ++ rest.drop size := (List.take_append_drop size rest).symm
    have hl : (rest.take size).length = x.length := by rw [hx]; simp; omega
    simp only [List.zipIdx_cons, List.map_cons, Instr.fill, hp]
    have hv : (Value.agg x.toArray).cells = x.toArray := rfl
    simp only [hv, List.size_toArray]
    rw [if_neg (by simp [hx, h1]; rw [h2', Nat.add_mul]; omega)]
    have hf : x.toArray.zipIdx.foldl (fun cs (p : Value × Nat) => cs.setIfInBounds (k * size + p.2) p.1) (pre ++ rest).toArray = (pre ++ x ++ rest.drop size).toArray := by
      have := foldl_set_row (k * size) x 0 pre (rest.take size) (rest.drop size) (by simp [h1]) hl
      rw [List.append_assoc, List.take_append_drop] at this
      rw [← this]
      simp
    have hg := fill_rows size place hp xs (k + 1) (pre ++ x) (rest.drop size) (by simp [h1, hx, Nat.add_mul]) (by simp [h2', Nat.add_mul]) (fun y hy => h3 y (by simp [hy]))
    rw [List.flatten_cons, ← List.append_assoc, ← hg]
    congr 1
theorem run_buildSlice_rows {P : Program} (t e : TypeId) (size : Nat) (ht : P.underlying t = some (.slice e)) (hs : (P.info? e).map (·.size) = some size) (z : Value) (hz : ∀ w, (zeroValue e).run P w = .ok z w) (h0 : 0 < size)
    (xs : List (List Value)) (hx : ∀ x ∈ xs, x.length = size) (hl : ¬ xs.length * size > 2 ^ 24) (hn : ¬ xs.length * size = 0) (w : World) :
    (Instr.buildSlice t xs.length ((xs.zipIdx).map fun p => (p.2, Value.agg p.1.toArray)).toArray).run P w = .ok (.slice (some ⟨w.heap.size, 0, none⟩) xs.length xs.length) (w.alloc (.cells xs.flatten.toArray e)) := by
  cases hq : P.info? e with
  | none => rw [hq] at hs; cases hs
  | some inf =>
    rw [hq] at hs
    have h1 : inf.size = size := by simpa using hs
    have hf : ∀ A : Array Value, A.size = xs.length * size → Instr.fill (fun i => some (i * size, size)) A ((xs.zipIdx).map fun p => (p.2, Value.agg p.1.toArray)) = some xs.flatten.toArray := fun A hA => by
      have := fill_rows size (fun i => some (i * size, size)) (fun i => rfl) xs 0 [] A.toList (by simp) (by simpa using hA) hx
      simpa using this
    have hf2 := hf ((Array.range (xs.length * size)).map (z.cells[· % z.cells.size]!)) (by simp)
    have hi : ∀ w, (sizeOf e).run P w = .ok size w := fun w => by simp [sizeOf, typeInfo, hq, h1, Sem.run_bind, Result.andThen]
    unfold Instr.buildSlice
    rw [Sem.run_bind, run_underlying ht]
    simp only [Result.andThen_ok, Sem.run_bind, hi, if_neg hl, if_neg hn, hz, Sem.run_pure, hf2, newRow]
    simp [go_sem]
theorem run_zero_of {P : Program} {t : TypeId} {z : Value} (h : (P.info? t).bind (·.zero) = some z) (w : World) : (zeroValue t).run P w = .ok z w := by
  cases hq : P.info? t with
  | none => rw [hq] at h; cases h
  | some inf =>
    rw [hq] at h
    have h1 : inf.zero = some z := by simpa using h
    simp [zeroValue, typeInfo, hq, h1, Sem.run_bind, Result.andThen]
theorem zeroField (w : World) : (zeroValue 58).run Tryz.prog w = .ok (.agg #[.string ⟨#[]⟩, .int .i64 0, .int .i64 0, .int .i64 0, .slice none 0 0, .string ⟨#[]⟩]) w :=
  run_zero_of (by kernel_rfl) w
end
section
open Go Go.RowKit
set_option linter.unusedSimpArgs false
set_option linter.unusedVariables false

/-- A row of the table. -/
structure CtRow where
  name : ByteArray
  k : Int
  mn : Int
  mx : Int
  texts : List ByteArray
  inn : ByteArray
def ctTab : List CtRow := [
  ⟨⟨#[109, 101, 115, 115, 97, 103, 101, 84, 121, 112, 101]⟩, 4, 0, 0, msgL, ⟨#[82, 82, 82, 82, 82, 82, 82, 82, 82]⟩⟩,
  ⟨⟨#[109, 101, 115, 115, 97, 103, 101, 86, 101, 114, 115, 105, 111, 110]⟩, 4, 0, 0, [⟨#[50, 46, 49, 46, 48]⟩, ⟨#[50, 46, 50, 46, 48]⟩], ⟨#[82, 82, 82, 82, 82, 82, 82, 82, 82]⟩⟩,
  ⟨⟨#[116, 104, 114, 101, 101, 68, 83, 83, 101, 114, 118, 101, 114, 84, 114, 97, 110, 115, 73, 68]⟩, 3, 0, 0, [], ⟨#[82, 82, 82, 82, 82, 82, 111, 82, 82]⟩⟩,
  ⟨⟨#[100, 115, 84, 114, 97, 110, 115, 73, 68]⟩, 3, 0, 0, [], ⟨#[45, 82, 45, 45, 82, 82, 111, 45, 82]⟩⟩,
  ⟨⟨#[97, 99, 115, 84, 114, 97, 110, 115, 73, 68]⟩, 3, 0, 0, [], ⟨#[45, 82, 82, 82, 82, 82, 111, 45, 45]⟩⟩,
  ⟨⟨#[97, 99, 99, 116, 78, 117, 109, 98, 101, 114]⟩, 5, 0, 0, [], ⟨#[82, 45, 45, 45, 45, 45, 45, 45, 45]⟩⟩,
  ⟨⟨#[112, 117, 114, 99, 104, 97, 115, 101, 65, 109, 111, 117, 110, 116]⟩, 8, 1, 12, [], ⟨#[82, 45, 45, 45, 45, 45, 45, 45, 45]⟩⟩,
  ⟨⟨#[112, 117, 114, 99, 104, 97, 115, 101, 67, 117, 114, 114, 101, 110, 99, 121]⟩, 1, 3, 3, [], ⟨#[82, 45, 45, 45, 45, 45, 45, 45, 45]⟩⟩,
  ⟨⟨#[112, 117, 114, 99, 104, 97, 115, 101, 68, 97, 116, 101]⟩, 6, 0, 0, [], ⟨#[82, 45, 45, 45, 45, 45, 45, 45, 45]⟩⟩,
  ⟨⟨#[109, 101, 114, 99, 104, 97, 110, 116, 78, 97, 109, 101]⟩, 2, 1, 40, [], ⟨#[82, 45, 45, 45, 45, 45, 45, 45, 45]⟩⟩,
  ⟨⟨#[109, 99, 99]⟩, 1, 4, 4, [], ⟨#[82, 45, 45, 45, 45, 45, 45, 45, 45]⟩⟩,
  ⟨⟨#[100, 101, 118, 105, 99, 101, 67, 104, 97, 110, 110, 101, 108]⟩, 4, 0, 0, [⟨#[48, 49]⟩, ⟨#[48, 50]⟩, ⟨#[48, 51]⟩], ⟨#[82, 45, 45, 45, 45, 45, 45, 45, 45]⟩⟩,
  ⟨⟨#[109, 101, 115, 115, 97, 103, 101, 67, 97, 116, 101, 103, 111, 114, 121]⟩, 4, 0, 0, [⟨#[48, 49]⟩, ⟨#[48, 50]⟩], ⟨#[82, 45, 45, 45, 82, 45, 45, 45, 45]⟩⟩,
  ⟨⟨#[99, 104, 97, 108, 108, 101, 110, 103, 101, 73, 110, 100]⟩, 4, 0, 0, [⟨#[48, 49]⟩, ⟨#[48, 50]⟩, ⟨#[48, 51]⟩, ⟨#[48, 52]⟩], ⟨#[111, 45, 45, 45, 45, 45, 45, 45, 45]⟩⟩,
  ⟨⟨#[97, 99, 99, 116, 84, 121, 112, 101]⟩, 4, 0, 0, [⟨#[48, 49]⟩, ⟨#[48, 50]⟩, ⟨#[48, 51]⟩], ⟨#[111, 45, 45, 45, 45, 45, 45, 45, 45]⟩⟩,
  ⟨⟨#[116, 114, 97, 110, 115, 83, 116, 97, 116, 117, 115]⟩, 4, 0, 0, [⟨#[89]⟩, ⟨#[78]⟩, ⟨#[85]⟩, ⟨#[65]⟩, ⟨#[67]⟩, ⟨#[82]⟩], ⟨#[45, 82, 45, 111, 82, 45, 45, 45, 45]⟩⟩,
  ⟨⟨#[116, 114, 97, 110, 115, 83, 116, 97, 116, 117, 115, 82, 101, 97, 115, 111, 110]⟩, 1, 2, 2, [], ⟨#[45, 111, 45, 45, 111, 45, 45, 45, 45]⟩⟩,
  ⟨⟨#[97, 117, 116, 104, 101, 110, 116, 105, 99, 97, 116, 105, 111, 110, 86, 97, 108, 117, 101]⟩, 7, 20, 0, [], ⟨#[45, 111, 45, 45, 111, 45, 45, 45, 45]⟩⟩,
  ⟨⟨#[101, 99, 105]⟩, 1, 2, 2, [], ⟨#[45, 111, 45, 45, 111, 45, 45, 45, 45]⟩⟩,
  ⟨⟨#[99, 104, 97, 108, 108, 101, 110, 103, 101, 87, 105, 110, 100, 111, 119, 83, 105, 122, 101]⟩, 4, 0, 0, [⟨#[48, 49]⟩, ⟨#[48, 50]⟩, ⟨#[48, 51]⟩, ⟨#[48, 52]⟩, ⟨#[48, 53]⟩], ⟨#[45, 45, 82, 45, 45, 45, 45, 45, 45]⟩⟩,
  ⟨⟨#[99, 104, 97, 108, 108, 101, 110, 103, 101, 68, 97, 116, 97, 69, 110, 116, 114, 121]⟩, 2, 1, 45, [], ⟨#[45, 45, 111, 45, 45, 45, 45, 45, 45]⟩⟩,
  ⟨⟨#[99, 104, 97, 108, 108, 101, 110, 103, 101, 67, 97, 110, 99, 101, 108]⟩, 4, 0, 0, [⟨#[48, 49]⟩, ⟨#[48, 50]⟩, ⟨#[48, 51]⟩, ⟨#[48, 52]⟩, ⟨#[48, 53]⟩, ⟨#[48, 54]⟩, ⟨#[48, 55]⟩, ⟨#[48, 56]⟩], ⟨#[45, 45, 111, 45, 45, 45, 45, 45, 45]⟩⟩,
  ⟨⟨#[99, 104, 97, 108, 108, 101, 110, 103, 101, 67, 111, 109, 112, 108, 101, 116, 105, 111, 110, 73, 110, 100]⟩, 4, 0, 0, [⟨#[89]⟩, ⟨#[78]⟩], ⟨#[45, 45, 45, 82, 45, 45, 45, 45, 45]⟩⟩,
  ⟨⟨#[99, 104, 97, 108, 108, 101, 110, 103, 101, 73, 110, 102, 111, 84, 101, 120, 116]⟩, 2, 1, 350, [], ⟨#[45, 45, 45, 111, 45, 45, 45, 45, 45]⟩⟩,
  ⟨⟨#[105, 110, 116, 101, 114, 97, 99, 116, 105, 111, 110, 67, 111, 117, 110, 116, 101, 114]⟩, 1, 2, 2, [], ⟨#[45, 45, 45, 45, 82, 45, 45, 45, 45]⟩⟩,
  ⟨⟨#[114, 101, 115, 117, 108, 116, 115, 83, 116, 97, 116, 117, 115]⟩, 4, 0, 0, [⟨#[48, 49]⟩, ⟨#[48, 50]⟩, ⟨#[48, 51]⟩, ⟨#[48, 52]⟩], ⟨#[45, 45, 45, 45, 45, 82, 45, 45, 45]⟩⟩,
  ⟨⟨#[101, 114, 114, 111, 114, 67, 111, 100, 101]⟩, 1, 3, 3, [], ⟨#[45, 45, 45, 45, 45, 45, 82, 45, 45]⟩⟩,
  ⟨⟨#[101, 114, 114, 111, 114, 67, 111, 109, 112, 111, 110, 101, 110, 116]⟩, 4, 0, 0, [⟨#[65]⟩, ⟨#[67]⟩, ⟨#[68]⟩, ⟨#[83]⟩], ⟨#[45, 45, 45, 45, 45, 45, 82, 45, 45]⟩⟩,
  ⟨⟨#[101, 114, 114, 111, 114, 68, 101, 115, 99, 114, 105, 112, 116, 105, 111, 110]⟩, 2, 1, 200, [], ⟨#[45, 45, 45, 45, 45, 45, 82, 45, 45]⟩⟩,
  ⟨⟨#[101, 114, 114, 111, 114, 68, 101, 116, 97, 105, 108]⟩, 2, 0, 300, [], ⟨#[45, 45, 45, 45, 45, 45, 82, 45, 45]⟩⟩,
  ⟨⟨#[101, 114, 114, 111, 114, 77, 101, 115, 115, 97, 103, 101, 84, 121, 112, 101]⟩, 4, 0, 0, msgL, ⟨#[45, 45, 45, 45, 45, 45, 111, 45, 45]⟩⟩,
  ⟨⟨#[115, 101, 114, 105, 97, 108, 78, 117, 109]⟩, 8, 1, 20, [], ⟨#[45, 45, 45, 45, 45, 45, 45, 111, 82]⟩⟩]
/-- A row's cells, whose texts lie at a. -/
def CtRow.cells (r : CtRow) (a : Option Addr × Nat) : Array Value := fieldA r.name r.k r.mn r.mx (.slice a.1 r.texts.length a.2) r.inn
/-- The cells of many rows. -/
def ctCells : List CtRow → List (Option Addr × Nat) → List Value
  | r :: rs, a :: ps => (r.cells a).toList ++ ctCells rs ps
  | _, _ => []
/-- Their texts lie where they are said to. -/
def CtAt (B : Nat) (W : World) : List CtRow → List (Option Addr × Nat) → Prop
  | r :: rs, a :: ps => FrStrs B W a.1 r.texts.length r.texts ∧ CtAt B W rs ps
  | [], [] => True
  | _, _ => False
theorem CtAt.below {B : Nat} {W W' : World} (hb : Below W.heap.size W W') : ∀ {rs : List CtRow} {ps : List (Option Addr × Nat)}, CtAt B W rs ps → CtAt B W' rs ps
  | _ :: _, _ :: _, h => ⟨h.1.below hb, CtAt.below hb h.2⟩
  | [], [], _ => trivial
  | [], _ :: _, h => h.elim
  | _ :: _, [], h => h.elim
/-- What has been laid so far: texts and places. -/
def CtAcc (w : World) (L : List (Option Addr × Nat × List ByteArray)) (W : World) : Prop := Below w.heap.size w W ∧ ∀ p ∈ L, FrStrs w.heap.size W p.1 p.2.1 p.2.2
theorem CtAcc.snoc {w W W' : World} {L : List (Option Addr × Nat × List ByteArray)} (h : CtAcc w L W) (hb : Below W.heap.size W W') {a : Option Addr} {n : Nat} {ss : List ByteArray} (hs : FrStrs W.heap.size W' a n ss) : CtAcc w ((a, n, ss) :: L) W' :=
  ⟨below_cat hb h.1, fun p hp => by
    rcases List.mem_cons.1 hp with rfl | hp
    · exact hs.mono h.1.size
    · exact (h.2 p hp).below hb⟩
theorem strs_new (W : World) (t : TypeId) (xs : List ByteArray) (hs : ∀ s ∈ xs, s.size ≤ 300) : IsStrs (W.alloc (.cells (xs.map Value.string).toArray t)) (some ⟨W.heap.size, 0, none⟩) xs.length xs := by
  refine .inr ⟨_, rfl, rfl, fun i s hi => ?_, fun s h => Nat.le_trans (hs s h) (by unfold maxLen; omega)⟩
  rw [show (⟨W.heap.size, 0, none⟩ : Addr).add i = ⟨W.heap.size, i, none⟩ from by cases i <;> simp [Addr.add]]
  refine (RowAt.new W _ t).cell ?_
  rw [List.getElem?_toArray, List.getElem?_map, hi]; rfl
theorem ctAmong_new (W : World) (xs : List ByteArray) (hn : xs.length ≤ 1000) (hs : ∀ s ∈ xs, s.size ≤ 300) :
    Calls Tryz.prog 109 #[.slice (some ⟨W.heap.size, 0, none⟩) xs.length xs.length] (W.alloc (.cells (xs.map Value.string).toArray 9)) fun e w' => ∃ a' c', e = .returned (.agg (ruleA 4 0 0 (.slice a' xs.length c'))) ∧ FrStrs W.heap.size w' a' xs.length xs ∧ Below W.heap.size W w' :=
  (ctAmong_any _ _ _ _ hn _ (strs_new W _ xs hs)).mono fun e w' ⟨a', c', h1, h2, h3⟩ => ⟨a', c', h1, h2.mono (by simp), below_cat h3 (below_al (Below.refl _ _) _)⟩
theorem ctAm0 (W : World) : Calls Tryz.prog 109 #[.slice (some ⟨W.heap.size, 0, none⟩) 2 2] (W.alloc (.cells #[.string ⟨#[50, 46, 49, 46, 48]⟩, .string ⟨#[50, 46, 50, 46, 48]⟩] 9)) fun e w' => ∃ a' c', e = .returned (.agg (ruleA 4 0 0 (.slice a' 2 c'))) ∧ FrStrs W.heap.size w' a' 2 [⟨#[50, 46, 49, 46, 48]⟩, ⟨#[50, 46, 50, 46, 48]⟩] ∧ Below W.heap.size W w' :=
  ctAmong_new W [⟨#[50, 46, 49, 46, 48]⟩, ⟨#[50, 46, 50, 46, 48]⟩] (by simp) (by intro s h; simp only [List.mem_cons, List.not_mem_nil, or_false] at h; rcases h with rfl | rfl <;> decide)
theorem ctAm1 (W : World) : Calls Tryz.prog 109 #[.slice (some ⟨W.heap.size, 0, none⟩) 3 3] (W.alloc (.cells #[.string ⟨#[48, 49]⟩, .string ⟨#[48, 50]⟩, .string ⟨#[48, 51]⟩] 9)) fun e w' => ∃ a' c', e = .returned (.agg (ruleA 4 0 0 (.slice a' 3 c'))) ∧ FrStrs W.heap.size w' a' 3 [⟨#[48, 49]⟩, ⟨#[48, 50]⟩, ⟨#[48, 51]⟩] ∧ Below W.heap.size W w' :=
  ctAmong_new W [⟨#[48, 49]⟩, ⟨#[48, 50]⟩, ⟨#[48, 51]⟩] (by simp) (by intro s h; simp only [List.mem_cons, List.not_mem_nil, or_false] at h; rcases h with rfl | rfl | rfl <;> decide)
theorem ctAm2 (W : World) : Calls Tryz.prog 109 #[.slice (some ⟨W.heap.size, 0, none⟩) 2 2] (W.alloc (.cells #[.string ⟨#[48, 49]⟩, .string ⟨#[48, 50]⟩] 9)) fun e w' => ∃ a' c', e = .returned (.agg (ruleA 4 0 0 (.slice a' 2 c'))) ∧ FrStrs W.heap.size w' a' 2 [⟨#[48, 49]⟩, ⟨#[48, 50]⟩] ∧ Below W.heap.size W w' :=
  ctAmong_new W [⟨#[48, 49]⟩, ⟨#[48, 50]⟩] (by simp) (by intro s h; simp only [List.mem_cons, List.not_mem_nil, or_false] at h; rcases h with rfl | rfl <;> decide)
theorem ctAm3 (W : World) : Calls Tryz.prog 109 #[.slice (some ⟨W.heap.size, 0, none⟩) 4 4] (W.alloc (.cells #[.string ⟨#[48, 49]⟩, .string ⟨#[48, 50]⟩, .string ⟨#[48, 51]⟩, .string ⟨#[48, 52]⟩] 9)) fun e w' => ∃ a' c', e = .returned (.agg (ruleA 4 0 0 (.slice a' 4 c'))) ∧ FrStrs W.heap.size w' a' 4 [⟨#[48, 49]⟩, ⟨#[48, 50]⟩, ⟨#[48, 51]⟩, ⟨#[48, 52]⟩] ∧ Below W.heap.size W w' :=
  ctAmong_new W [⟨#[48, 49]⟩, ⟨#[48, 50]⟩, ⟨#[48, 51]⟩, ⟨#[48, 52]⟩] (by simp) (by intro s h; simp only [List.mem_cons, List.not_mem_nil, or_false] at h; rcases h with rfl | rfl | rfl | rfl <;> decide)
theorem ctAm4 (W : World) : Calls Tryz.prog 109 #[.slice (some ⟨W.heap.size, 0, none⟩) 6 6] (W.alloc (.cells #[.string ⟨#[89]⟩, .string ⟨#[78]⟩, .string ⟨#[85]⟩, .string ⟨#[65]⟩, .string ⟨#[67]⟩, .string ⟨#[82]⟩] 9)) fun e w' => ∃ a' c', e = .returned (.agg (ruleA 4 0 0 (.slice a' 6 c'))) ∧ FrStrs W.heap.size w' a' 6 [⟨#[89]⟩, ⟨#[78]⟩, ⟨#[85]⟩, ⟨#[65]⟩, ⟨#[67]⟩, ⟨#[82]⟩] ∧ Below W.heap.size W w' :=
  ctAmong_new W [⟨#[89]⟩, ⟨#[78]⟩, ⟨#[85]⟩, ⟨#[65]⟩, ⟨#[67]⟩, ⟨#[82]⟩] (by simp) (by intro s h; simp only [List.mem_cons, List.not_mem_nil, or_false] at h; rcases h with rfl | rfl | rfl | rfl | rfl | rfl <;> decide)
theorem ctAm5 (W : World) : Calls Tryz.prog 109 #[.slice (some ⟨W.heap.size, 0, none⟩) 5 5] (W.alloc (.cells #[.string ⟨#[48, 49]⟩, .string ⟨#[48, 50]⟩, .string ⟨#[48, 51]⟩, .string ⟨#[48, 52]⟩, .string ⟨#[48, 53]⟩] 9)) fun e w' => ∃ a' c', e = .returned (.agg (ruleA 4 0 0 (.slice a' 5 c'))) ∧ FrStrs W.heap.size w' a' 5 [⟨#[48, 49]⟩, ⟨#[48, 50]⟩, ⟨#[48, 51]⟩, ⟨#[48, 52]⟩, ⟨#[48, 53]⟩] ∧ Below W.heap.size W w' :=
  ctAmong_new W [⟨#[48, 49]⟩, ⟨#[48, 50]⟩, ⟨#[48, 51]⟩, ⟨#[48, 52]⟩, ⟨#[48, 53]⟩] (by simp) (by intro s h; simp only [List.mem_cons, List.not_mem_nil, or_false] at h; rcases h with rfl | rfl | rfl | rfl | rfl <;> decide)
theorem ctAm6 (W : World) : Calls Tryz.prog 109 #[.slice (some ⟨W.heap.size, 0, none⟩) 8 8] (W.alloc (.cells #[.string ⟨#[48, 49]⟩, .string ⟨#[48, 50]⟩, .string ⟨#[48, 51]⟩, .string ⟨#[48, 52]⟩, .string ⟨#[48, 53]⟩, .string ⟨#[48, 54]⟩, .string ⟨#[48, 55]⟩, .string ⟨#[48, 56]⟩] 9)) fun e w' => ∃ a' c', e = .returned (.agg (ruleA 4 0 0 (.slice a' 8 c'))) ∧ FrStrs W.heap.size w' a' 8 [⟨#[48, 49]⟩, ⟨#[48, 50]⟩, ⟨#[48, 51]⟩, ⟨#[48, 52]⟩, ⟨#[48, 53]⟩, ⟨#[48, 54]⟩, ⟨#[48, 55]⟩, ⟨#[48, 56]⟩] ∧ Below W.heap.size W w' :=
  ctAmong_new W [⟨#[48, 49]⟩, ⟨#[48, 50]⟩, ⟨#[48, 51]⟩, ⟨#[48, 52]⟩, ⟨#[48, 53]⟩, ⟨#[48, 54]⟩, ⟨#[48, 55]⟩, ⟨#[48, 56]⟩] (by simp) (by intro s h; simp only [List.mem_cons, List.not_mem_nil, or_false] at h; rcases h with rfl | rfl | rfl | rfl | rfl | rfl | rfl | rfl <;> decide)
theorem ctAm7 (W : World) : Calls Tryz.prog 109 #[.slice (some ⟨W.heap.size, 0, none⟩) 2 2] (W.alloc (.cells #[.string ⟨#[89]⟩, .string ⟨#[78]⟩] 9)) fun e w' => ∃ a' c', e = .returned (.agg (ruleA 4 0 0 (.slice a' 2 c'))) ∧ FrStrs W.heap.size w' a' 2 [⟨#[89]⟩, ⟨#[78]⟩] ∧ Below W.heap.size W w' :=
  ctAmong_new W [⟨#[89]⟩, ⟨#[78]⟩] (by simp) (by intro s h; simp only [List.mem_cons, List.not_mem_nil, or_false] at h; rcases h with rfl | rfl <;> decide)
theorem ctAm8 (W : World) : Calls Tryz.prog 109 #[.slice (some ⟨W.heap.size, 0, none⟩) 4 4] (W.alloc (.cells #[.string ⟨#[65]⟩, .string ⟨#[67]⟩, .string ⟨#[68]⟩, .string ⟨#[83]⟩] 9)) fun e w' => ∃ a' c', e = .returned (.agg (ruleA 4 0 0 (.slice a' 4 c'))) ∧ FrStrs W.heap.size w' a' 4 [⟨#[65]⟩, ⟨#[67]⟩, ⟨#[68]⟩, ⟨#[83]⟩] ∧ Below W.heap.size W w' :=
  ctAmong_new W [⟨#[65]⟩, ⟨#[67]⟩, ⟨#[68]⟩, ⟨#[83]⟩] (by simp) (by intro s h; simp only [List.mem_cons, List.not_mem_nil, or_false] at h; rcases h with rfl | rfl | rfl | rfl <;> decide)

set_option maxRecDepth 100000 in
theorem ctBuild (a0 : Option Addr) (c0 : Nat) (a1 : Option Addr) (c1 : Nat) (a2 : Option Addr) (c2 : Nat) (a3 : Option Addr) (c3 : Nat) (a4 : Option Addr) (c4 : Nat) (a5 : Option Addr) (c5 : Nat) (a6 : Option Addr) (c6 : Nat) (a7 : Option Addr) (c7 : Nat) (a8 : Option Addr) (c8 : Nat) (a9 : Option Addr) (c9 : Nat) (a10 : Option Addr) (c10 : Nat) (a11 : Option Addr) (c11 : Nat) (a12 : Option Addr) (c12 : Nat) (a13 : Option Addr) (c13 : Nat) (a14 : Option Addr) (c14 : Nat) (a15 : Option Addr) (c15 : Nat) (a16 : Option Addr) (c16 : Nat) (a17 : Option Addr) (c17 : Nat) (a18 : Option Addr) (c18 : Nat) (a19 : Option Addr) (c19 : Nat) (a20 : Option Addr) (c20 : Nat) (a21 : Option Addr) (c21 : Nat) (a22 : Option Addr) (c22 : Nat) (a23 : Option Addr) (c23 : Nat) (a24 : Option Addr) (c24 : Nat) (a25 : Option Addr) (c25 : Nat) (a26 : Option Addr) (c26 : Nat) (a27 : Option Addr) (c27 : Nat) (a28 : Option Addr) (c28 : Nat) (a29 : Option Addr) (c29 : Nat) (a30 : Option Addr) (c30 : Nat) (a31 : Option Addr) (c31 : Nat) (w : World) : (Instr.buildSlice 104 32 #[(0, .agg #[.string ⟨#[109, 101, 115, 115, 97, 103, 101, 84, 121, 112, 101]⟩, .int .i64 4, .int .i64 0, .int .i64 0, .slice a0 9 c0, .string ⟨#[82, 82, 82, 82, 82, 82, 82, 82, 82]⟩]), (1, .agg #[.string ⟨#[109, 101, 115, 115, 97, 103, 101, 86, 101, 114, 115, 105, 111, 110]⟩, .int .i64 4, .int .i64 0, .int .i64 0, .slice a1 2 c1, .string ⟨#[82, 82, 82, 82, 82, 82, 82, 82, 82]⟩]), (2, .agg #[.string ⟨#[116, 104, 114, 101, 101, 68, 83, 83, 101, 114, 118, 101, 114, 84, 114, 97, 110, 115, 73, 68]⟩, .int .i64 3, .int .i64 0, .int .i64 0, .slice a2 0 c2, .string ⟨#[82, 82, 82, 82, 82, 82, 111, 82, 82]⟩]), (3, .agg #[.string ⟨#[100, 115, 84, 114, 97, 110, 115, 73, 68]⟩, .int .i64 3, .int .i64 0, .int .i64 0, .slice a3 0 c3, .string ⟨#[45, 82, 45, 45, 82, 82, 111, 45, 82]⟩]), (4, .agg #[.string ⟨#[97, 99, 115, 84, 114, 97, 110, 115, 73, 68]⟩, .int .i64 3, .int .i64 0, .int .i64 0, .slice a4 0 c4, .string ⟨#[45, 82, 82, 82, 82, 82, 111, 45, 45]⟩]), (5, .agg #[.string ⟨#[97, 99, 99, 116, 78, 117, 109, 98, 101, 114]⟩, .int .i64 5, .int .i64 0, .int .i64 0, .slice a5 0 c5, .string ⟨#[82, 45, 45, 45, 45, 45, 45, 45, 45]⟩]), (6, .agg #[.string ⟨#[112, 117, 114, 99, 104, 97, 115, 101, 65, 109, 111, 117, 110, 116]⟩, .int .i64 8, .int .i64 1, .int .i64 12, .slice a6 0 c6, .string ⟨#[82, 45, 45, 45, 45, 45, 45, 45, 45]⟩]), (7, .agg #[.string ⟨#[112, 117, 114, 99, 104, 97, 115, 101, 67, 117, 114, 114, 101, 110, 99, 121]⟩, .int .i64 1, .int .i64 3, .int .i64 3, .slice a7 0 c7, .string ⟨#[82, 45, 45, 45, 45, 45, 45, 45, 45]⟩]), (8, .agg #[.string ⟨#[112, 117, 114, 99, 104, 97, 115, 101, 68, 97, 116, 101]⟩, .int .i64 6, .int .i64 0, .int .i64 0, .slice a8 0 c8, .string ⟨#[82, 45, 45, 45, 45, 45, 45, 45, 45]⟩]), (9, .agg #[.string ⟨#[109, 101, 114, 99, 104, 97, 110, 116, 78, 97, 109, 101]⟩, .int .i64 2, .int .i64 1, .int .i64 40, .slice a9 0 c9, .string ⟨#[82, 45, 45, 45, 45, 45, 45, 45, 45]⟩]), (10, .agg #[.string ⟨#[109, 99, 99]⟩, .int .i64 1, .int .i64 4, .int .i64 4, .slice a10 0 c10, .string ⟨#[82, 45, 45, 45, 45, 45, 45, 45, 45]⟩]), (11, .agg #[.string ⟨#[100, 101, 118, 105, 99, 101, 67, 104, 97, 110, 110, 101, 108]⟩, .int .i64 4, .int .i64 0, .int .i64 0, .slice a11 3 c11, .string ⟨#[82, 45, 45, 45, 45, 45, 45, 45, 45]⟩]), (12, .agg #[.string ⟨#[109, 101, 115, 115, 97, 103, 101, 67, 97, 116, 101, 103, 111, 114, 121]⟩, .int .i64 4, .int .i64 0, .int .i64 0, .slice a12 2 c12, .string ⟨#[82, 45, 45, 45, 82, 45, 45, 45, 45]⟩]), (13, .agg #[.string ⟨#[99, 104, 97, 108, 108, 101, 110, 103, 101, 73, 110, 100]⟩, .int .i64 4, .int .i64 0, .int .i64 0, .slice a13 4 c13, .string ⟨#[111, 45, 45, 45, 45, 45, 45, 45, 45]⟩]), (14, .agg #[.string ⟨#[97, 99, 99, 116, 84, 121, 112, 101]⟩, .int .i64 4, .int .i64 0, .int .i64 0, .slice a14 3 c14, .string ⟨#[111, 45, 45, 45, 45, 45, 45, 45, 45]⟩]), (15, .agg #[.string ⟨#[116, 114, 97, 110, 115, 83, 116, 97, 116, 117, 115]⟩, .int .i64 4, .int .i64 0, .int .i64 0, .slice a15 6 c15, .string ⟨#[45, 82, 45, 111, 82, 45, 45, 45, 45]⟩]), (16, .agg #[.string ⟨#[116, 114, 97, 110, 115, 83, 116, 97, 116, 117, 115, 82, 101, 97, 115, 111, 110]⟩, .int .i64 1, .int .i64 2, .int .i64 2, .slice a16 0 c16, .string ⟨#[45, 111, 45, 45, 111, 45, 45, 45, 45]⟩]), (17, .agg #[.string ⟨#[97, 117, 116, 104, 101, 110, 116, 105, 99, 97, 116, 105, 111, 110, 86, 97, 108, 117, 101]⟩, .int .i64 7, .int .i64 20, .int .i64 0, .slice a17 0 c17, .string ⟨#[45, 111, 45, 45, 111, 45, 45, 45, 45]⟩]), (18, .agg #[.string ⟨#[101, 99, 105]⟩, .int .i64 1, .int .i64 2, .int .i64 2, .slice a18 0 c18, .string ⟨#[45, 111, 45, 45, 111, 45, 45, 45, 45]⟩]), (19, .agg #[.string ⟨#[99, 104, 97, 108, 108, 101, 110, 103, 101, 87, 105, 110, 100, 111, 119, 83, 105, 122, 101]⟩, .int .i64 4, .int .i64 0, .int .i64 0, .slice a19 5 c19, .string ⟨#[45, 45, 82, 45, 45, 45, 45, 45, 45]⟩]), (20, .agg #[.string ⟨#[99, 104, 97, 108, 108, 101, 110, 103, 101, 68, 97, 116, 97, 69, 110, 116, 114, 121]⟩, .int .i64 2, .int .i64 1, .int .i64 45, .slice a20 0 c20, .string ⟨#[45, 45, 111, 45, 45, 45, 45, 45, 45]⟩]), (21, .agg #[.string ⟨#[99, 104, 97, 108, 108, 101, 110, 103, 101, 67, 97, 110, 99, 101, 108]⟩, .int .i64 4, .int .i64 0, .int .i64 0, .slice a21 8 c21, .string ⟨#[45, 45, 111, 45, 45, 45, 45, 45, 45]⟩]), (22, .agg #[.string ⟨#[99, 104, 97, 108, 108, 101, 110, 103, 101, 67, 111, 109, 112, 108, 101, 116, 105, 111, 110, 73, 110, 100]⟩, .int .i64 4, .int .i64 0, .int .i64 0, .slice a22 2 c22, .string ⟨#[45, 45, 45, 82, 45, 45, 45, 45, 45]⟩]), (23, .agg #[.string ⟨#[99, 104, 97, 108, 108, 101, 110, 103, 101, 73, 110, 102, 111, 84, 101, 120, 116]⟩, .int .i64 2, .int .i64 1, .int .i64 350, .slice a23 0 c23, .string ⟨#[45, 45, 45, 111, 45, 45, 45, 45, 45]⟩]), (24, .agg #[.string ⟨#[105, 110, 116, 101, 114, 97, 99, 116, 105, 111, 110, 67, 111, 117, 110, 116, 101, 114]⟩, .int .i64 1, .int .i64 2, .int .i64 2, .slice a24 0 c24, .string ⟨#[45, 45, 45, 45, 82, 45, 45, 45, 45]⟩]), (25, .agg #[.string ⟨#[114, 101, 115, 117, 108, 116, 115, 83, 116, 97, 116, 117, 115]⟩, .int .i64 4, .int .i64 0, .int .i64 0, .slice a25 4 c25, .string ⟨#[45, 45, 45, 45, 45, 82, 45, 45, 45]⟩]), (26, .agg #[.string ⟨#[101, 114, 114, 111, 114, 67, 111, 100, 101]⟩, .int .i64 1, .int .i64 3, .int .i64 3, .slice a26 0 c26, .string ⟨#[45, 45, 45, 45, 45, 45, 82, 45, 45]⟩]), (27, .agg #[.string ⟨#[101, 114, 114, 111, 114, 67, 111, 109, 112, 111, 110, 101, 110, 116]⟩, .int .i64 4, .int .i64 0, .int .i64 0, .slice a27 4 c27, .string ⟨#[45, 45, 45, 45, 45, 45, 82, 45, 45]⟩]), (28, .agg #[.string ⟨#[101, 114, 114, 111, 114, 68, 101, 115, 99, 114, 105, 112, 116, 105, 111, 110]⟩, .int .i64 2, .int .i64 1, .int .i64 200, .slice a28 0 c28, .string ⟨#[45, 45, 45, 45, 45, 45, 82, 45, 45]⟩]), (29, .agg #[.string ⟨#[101, 114, 114, 111, 114, 68, 101, 116, 97, 105, 108]⟩, .int .i64 2, .int .i64 0, .int .i64 300, .slice a29 0 c29, .string ⟨#[45, 45, 45, 45, 45, 45, 82, 45, 45]⟩]), (30, .agg #[.string ⟨#[101, 114, 114, 111, 114, 77, 101, 115, 115, 97, 103, 101, 84, 121, 112, 101]⟩, .int .i64 4, .int .i64 0, .int .i64 0, .slice a30 9 c30, .string ⟨#[45, 45, 45, 45, 45, 45, 111, 45, 45]⟩]), (31, .agg #[.string ⟨#[115, 101, 114, 105, 97, 108, 78, 117, 109]⟩, .int .i64 8, .int .i64 1, .int .i64 20, .slice a31 0 c31, .string ⟨#[45, 45, 45, 45, 45, 45, 45, 111, 82]⟩])]).run Tryz.prog w = .ok (.slice (some ⟨w.heap.size, 0, none⟩) 32 32) (w.alloc (.cells (ctCells ctTab [(a0, c0), (a1, c1), (a2, c2), (a3, c3), (a4, c4), (a5, c5), (a6, c6), (a7, c7), (a8, c8), (a9, c9), (a10, c10), (a11, c11), (a12, c12), (a13, c13), (a14, c14), (a15, c15), (a16, c16), (a17, c17), (a18, c18), (a19, c19), (a20, c20), (a21, c21), (a22, c22), (a23, c23), (a24, c24), (a25, c25), (a26, c26), (a27, c27), (a28, c28), (a29, c29), (a30, c30), (a31, c31)]).toArray 58)) :=
  run_buildSlice_rows (P := Tryz.prog) 104 58 6 Tryz.underlying104 infoField _ zeroField (by omega) [[.string ⟨#[109, 101, 115, 115, 97, 103, 101, 84, 121, 112, 101]⟩, .int .i64 4, .int .i64 0, .int .i64 0, .slice a0 9 c0, .string ⟨#[82, 82, 82, 82, 82, 82, 82, 82, 82]⟩], [.string ⟨#[109, 101, 115, 115, 97, 103, 101, 86, 101, 114, 115, 105, 111, 110]⟩, .int .i64 4, .int .i64 0, .int .i64 0, .slice a1 2 c1, .string ⟨#[82, 82, 82, 82, 82, 82, 82, 82, 82]⟩], [.string ⟨#[116, 104, 114, 101, 101, 68, 83, 83, 101, 114, 118, 101, 114, 84, 114, 97, 110, 115, 73, 68]⟩, .int .i64 3, .int .i64 0, .int .i64 0, .slice a2 0 c2, .string ⟨#[82, 82, 82, 82, 82, 82, 111, 82, 82]⟩], [.string ⟨#[100, 115, 84, 114, 97, 110, 115, 73, 68]⟩, .int .i64 3, .int .i64 0, .int .i64 0, .slice a3 0 c3, .string ⟨#[45, 82, 45, 45, 82, 82, 111, 45, 82]⟩], [.string ⟨#[97, 99, 115, 84, 114, 97, 110, 115, 73, 68]⟩, .int .i64 3, .int .i64 0, .int .i64 0, .slice a4 0 c4, .string ⟨#[45, 82, 82, 82, 82, 82, 111, 45, 45]⟩], [.string ⟨#[97, 99, 99, 116, 78, 117, 109, 98, 101, 114]⟩, .int .i64 5, .int .i64 0, .int .i64 0, .slice a5 0 c5, .string ⟨#[82, 45, 45, 45, 45, 45, 45, 45, 45]⟩], [.string ⟨#[112, 117, 114, 99, 104, 97, 115, 101, 65, 109, 111, 117, 110, 116]⟩, .int .i64 8, .int .i64 1, .int .i64 12, .slice a6 0 c6, .string ⟨#[82, 45, 45, 45, 45, 45, 45, 45, 45]⟩], [.string ⟨#[112, 117, 114, 99, 104, 97, 115, 101, 67, 117, 114, 114, 101, 110, 99, 121]⟩, .int .i64 1, .int .i64 3, .int .i64 3, .slice a7 0 c7, .string ⟨#[82, 45, 45, 45, 45, 45, 45, 45, 45]⟩], [.string ⟨#[112, 117, 114, 99, 104, 97, 115, 101, 68, 97, 116, 101]⟩, .int .i64 6, .int .i64 0, .int .i64 0, .slice a8 0 c8, .string ⟨#[82, 45, 45, 45, 45, 45, 45, 45, 45]⟩], [.string ⟨#[109, 101, 114, 99, 104, 97, 110, 116, 78, 97, 109, 101]⟩, .int .i64 2, .int .i64 1, .int .i64 40, .slice a9 0 c9, .string ⟨#[82, 45, 45, 45, 45, 45, 45, 45, 45]⟩], [.string ⟨#[109, 99, 99]⟩, .int .i64 1, .int .i64 4, .int .i64 4, .slice a10 0 c10, .string ⟨#[82, 45, 45, 45, 45, 45, 45, 45, 45]⟩], [.string ⟨#[100, 101, 118, 105, 99, 101, 67, 104, 97, 110, 110, 101, 108]⟩, .int .i64 4, .int .i64 0, .int .i64 0, .slice a11 3 c11, .string ⟨#[82, 45, 45, 45, 45, 45, 45, 45, 45]⟩], [.string ⟨#[109, 101, 115, 115, 97, 103, 101, 67, 97, 116, 101, 103, 111, 114, 121]⟩, .int .i64 4, .int .i64 0, .int .i64 0, .slice a12 2 c12, .string ⟨#[82, 45, 45, 45, 82, 45, 45, 45, 45]⟩], [.string ⟨#[99, 104, 97, 108, 108, 101, 110, 103, 101, 73, 110, 100]⟩, .int .i64 4, .int .i64 0, .int .i64 0, .slice a13 4 c13, .string ⟨#[111, 45, 45, 45, 45, 45, 45, 45, 45]⟩], [.string ⟨#[97, 99, 99, 116, 84, 121, 112, 101]⟩, .int .i64 4, .int .i64 0, .int .i64 0, .slice a14 3 c14, .string ⟨#[111, 45, 45, 45, 45, 45, 45, 45, 45]⟩], [.string ⟨#[116, 114, 97, 110, 115, 83, 116, 97, 116, 117, 115]⟩, .int .i64 4, .int .i64 0, .int .i64 0, .slice a15 6 c15, .string ⟨#[45, 82, 45, 111, 82, 45, 45, 45, 45]⟩], [.string ⟨#[116, 114, 97, 110, 115, 83, 116, 97, 116, 117, 115, 82, 101, 97, 115, 111, 110]⟩, .int .i64 1, .int .i64 2, .int .i64 2, .slice a16 0 c16, .string ⟨#[45, 111, 45, 45, 111, 45, 45, 45, 45]⟩], [.string ⟨#[97, 117, 116, 104, 101, 110, 116, 105, 99, 97, 116, 105, 111, 110, 86, 97, 108, 117, 101]⟩, .int .i64 7, .int .i64 20, .int .i64 0, .slice a17 0 c17, .string ⟨#[45, 111, 45, 45, 111, 45, 45, 45, 45]⟩], [.string ⟨#[101, 99, 105]⟩, .int .i64 1, .int .i64 2, .int .i64 2, .slice a18 0 c18, .string ⟨#[45, 111, 45, 45, 111, 45, 45, 45, 45]⟩], [.string ⟨#[99, 104, 97, 108, 108, 101, 110, 103, 101, 87, 105, 110, 100, 111, 119, 83, 105, 122, 101]⟩, .int .i64 4, .int .i64 0, .int .i64 0, .slice a19 5 c19, .string ⟨#[45, 45, 82, 45, 45, 45, 45, 45, 45]⟩], [.string ⟨#[99, 104, 97, 108, 108, 101, 110, 103, 101, 68, 97, 116, 97, 69, 110, 116, 114, 121]⟩, .int .i64 2, .int .i64 1, .int .i64 45, .slice a20 0 c20, .string ⟨#[45, 45, 111, 45, 45, 45, 45, 45, 45]⟩], [.string ⟨#[99, 104, 97, 108, 108, 101, 110, 103, 101, 67, 97, 110, 99, 101, 108]⟩, .int .i64 4, .int .i64 0, .int .i64 0, .slice a21 8 c21, .string ⟨#[45, 45, 111, 45, 45, 45, 45, 45, 45]⟩], [.string ⟨#[99, 104, 97, 108, 108, 101, 110, 103, 101, 67, 111, 109, 112, 108, 101, 116, 105, 111, 110, 73, 110, 100]⟩, .int .i64 4, .int .i64 0, .int .i64 0, .slice a22 2 c22, .string ⟨#[45, 45, 45, 82, 45, 45, 45, 45, 45]⟩], [.string ⟨#[99, 104, 97, 108, 108, 101, 110, 103, 101, 73, 110, 102, 111, 84, 101, 120, 116]⟩, .int .i64 2, .int .i64 1, .int .i64 350, .slice a23 0 c23, .string ⟨#[45, 45, 45, 111, 45, 45, 45, 45, 45]⟩], [.string ⟨#[105, 110, 116, 101, 114, 97, 99, 116, 105, 111, 110, 67, 111, 117, 110, 116, 101, 114]⟩, .int .i64 1, .int .i64 2, .int .i64 2, .slice a24 0 c24, .string ⟨#[45, 45, 45, 45, 82, 45, 45, 45, 45]⟩], [.string ⟨#[114, 101, 115, 117, 108, 116, 115, 83, 116, 97, 116, 117, 115]⟩, .int .i64 4, .int .i64 0, .int .i64 0, .slice a25 4 c25, .string ⟨#[45, 45, 45, 45, 45, 82, 45, 45, 45]⟩], [.string ⟨#[101, 114, 114, 111, 114, 67, 111, 100, 101]⟩, .int .i64 1, .int .i64 3, .int .i64 3, .slice a26 0 c26, .string ⟨#[45, 45, 45, 45, 45, 45, 82, 45, 45]⟩], [.string ⟨#[101, 114, 114, 111, 114, 67, 111, 109, 112, 111, 110, 101, 110, 116]⟩, .int .i64 4, .int .i64 0, .int .i64 0, .slice a27 4 c27, .string ⟨#[45, 45, 45, 45, 45, 45, 82, 45, 45]⟩], [.string ⟨#[101, 114, 114, 111, 114, 68, 101, 115, 99, 114, 105, 112, 116, 105, 111, 110]⟩, .int .i64 2, .int .i64 1, .int .i64 200, .slice a28 0 c28, .string ⟨#[45, 45, 45, 45, 45, 45, 82, 45, 45]⟩], [.string ⟨#[101, 114, 114, 111, 114, 68, 101, 116, 97, 105, 108]⟩, .int .i64 2, .int .i64 0, .int .i64 300, .slice a29 0 c29, .string ⟨#[45, 45, 45, 45, 45, 45, 82, 45, 45]⟩], [.string ⟨#[101, 114, 114, 111, 114, 77, 101, 115, 115, 97, 103, 101, 84, 121, 112, 101]⟩, .int .i64 4, .int .i64 0, .int .i64 0, .slice a30 9 c30, .string ⟨#[45, 45, 45, 45, 45, 45, 111, 45, 45]⟩], [.string ⟨#[115, 101, 114, 105, 97, 108, 78, 117, 109]⟩, .int .i64 8, .int .i64 1, .int .i64 20, .slice a31 0 c31, .string ⟨#[45, 45, 45, 45, 45, 45, 45, 111, 82]⟩]] (by intro x hx; simp only [List.mem_cons, List.not_mem_nil, or_false] at hx; rcases hx with rfl | rfl | rfl | rfl | rfl | rfl | rfl | rfl | rfl | rfl | rfl | rfl | rfl | rfl | rfl | rfl | rfl | rfl | rfl | rfl | rfl | rfl | rfl | rfl | rfl | rfl | rfl | rfl | rfl | rfl | rfl | rfl <;> rfl) (show ¬ 32 * 6 > 2 ^ 24 by decide) (show ¬ 32 * 6 = 0 by decide) w

set_option maxRecDepth 1000000 in
set_option maxHeartbeats 40000000 in
theorem ctAll_any (w : World) :
    Calls Tryz.prog 77 #[] w fun e w' => ∃ g ps, e = .returned (.slice (some ⟨g, 0, none⟩) 32 32) ∧ RowAt w' g 58 (ctCells ctTab ps).toArray ∧ CtAt w.heap.size w' ctTab ps ∧ w.heap.size ≤ g ∧ Below w.heap.size w w' := by
  have LK := hid (fun w => ctKinds_any w)
  have LB := hid (fun k w => ctBare_any k w)
  have LM := hid (fun m w => ctAmount_any m w)
  have LD := hid (fun n w => ctDigits_any n w)
  have LT := hid (fun l m w => ctText_any l m w)
  have LO := hid (fun w => ruleOf_anyF 7 20 0 none 0 0 [] (by omega) w (.inl ⟨rfl, rfl, rfl⟩))
  have A0 := hid (fun w => ctAm0 w)
  have A1 := hid (fun w => ctAm1 w)
  have A2 := hid (fun w => ctAm2 w)
  have A3 := hid (fun w => ctAm3 w)
  have A4 := hid (fun w => ctAm4 w)
  have A5 := hid (fun w => ctAm5 w)
  have A6 := hid (fun w => ctAm6 w)
  have A7 := hid (fun w => ctAm7 w)
  have A8 := hid (fun w => ctAm8 w)
  have hBd := @ctBuild
  have acc : Hid (CtAcc w [] w) := hid ⟨Below.refl _ _, fun p hp => by cases hp⟩
  go_enter Tryz.func77, Tryz.ntmps77
  go_wp2_with (first
    | (go_at_call 108; with_reducible refine (LK.out _).mono ?_; rintro e w1 ⟨a', c', rfl, hS, hB⟩; replace acc := hid (acc.out.snoc hB hS); clear hB hS; unfold ruleA)
    | (go_at_call 110; with_reducible refine (LB.out _ _).mono ?_; rintro e w1 ⟨a', c', rfl, hS, hB⟩; replace acc := hid (acc.out.snoc hB hS); clear hB hS; unfold ruleA)
    | (go_at_call 111; with_reducible refine (LM.out _ _).mono ?_; rintro e w1 ⟨a', c', rfl, hS, hB⟩; replace acc := hid (acc.out.snoc hB hS); clear hB hS; unfold ruleA)
    | (go_at_call 112; with_reducible refine (LD.out _ _).mono ?_; rintro e w1 ⟨a', c', rfl, hS, hB⟩; replace acc := hid (acc.out.snoc hB hS); clear hB hS; unfold ruleA)
    | (go_at_call 113; with_reducible refine (LT.out _ _ _).mono ?_; rintro e w1 ⟨a', c', rfl, hS, hB⟩; replace acc := hid (acc.out.snoc hB hS); clear hB hS; unfold ruleA)
    | (go_at_call 21; with_reducible refine (LO.out _).mono ?_; rintro e w1 ⟨a', c', rfl, hS, hB⟩; replace acc := hid (acc.out.snoc hB hS); clear hB hS; unfold ruleA)
    | (go_at_call 109; first
        | with_reducible refine (A0.out _).mono ?_
        | with_reducible refine (A1.out _).mono ?_
        | with_reducible refine (A2.out _).mono ?_
        | with_reducible refine (A3.out _).mono ?_
        | with_reducible refine (A4.out _).mono ?_
        | with_reducible refine (A5.out _).mono ?_
        | with_reducible refine (A6.out _).mono ?_
        | with_reducible refine (A7.out _).mono ?_
        | with_reducible refine (A8.out _).mono ?_
       rintro e w1 ⟨a', c', rfl, hS, hB⟩; replace acc := hid (acc.out.snoc hB hS); clear hB hS; unfold ruleA))
  unfold Oper.wp execOp
  dsimp only
  simp [Act.eval, hBd]
  clear hBd LK LB LM LD LT LO
  simp only [Oper.upon, Result.andThen]
  go_wp2
  go_ret
  refine ⟨_, _, rfl, RowAt.new _ _ _, ?_, acc.out.1.size, below_al acc.out.1 _⟩
  refine CtAt.below (below_al (Below.refl _ _) _) ?_
  have h := acc.out.2
  simp only [List.forall_mem_cons] at h
  obtain ⟨k31, k30, k29, k28, k27, k26, k25, k24, k23, k22, k21, k20, k19, k18, k17, k16, k15, k14, k13, k12, k11, k10, k9, k8, k7, k6, k5, k4, k3, k2, k1, k0, _⟩ := h
  exact And.intro k0 (And.intro k1 (And.intro k2 (And.intro k3 (And.intro k4 (And.intro k5 (And.intro k6 (And.intro k7 (And.intro k8 (And.intro k9 (And.intro k10 (And.intro k11 (And.intro k12 (And.intro k13 (And.intro k14 (And.intro k15 (And.intro k16 (And.intro k17 (And.intro k18 (And.intro k19 (And.intro k20 (And.intro k21 (And.intro k22 (And.intro k23 (And.intro k24 (And.intro k25 (And.intro k26 (And.intro k27 (And.intro k28 (And.intro k29 (And.intro k30 (And.intro k31 (trivial))))))))))))))))))))))))))))))))
end
end Go.Proofs.YtdjlpmelmhhooaaGreatDoor
