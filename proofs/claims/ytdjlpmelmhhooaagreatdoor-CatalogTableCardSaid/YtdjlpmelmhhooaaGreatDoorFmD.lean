/- Format: Of. -/
import Derived.Test.YtdjlpmelmhhooaaGreatDoorFmX1
import Derived.Test.YtdjlpmelmhhooaaGreatDoorIdsX1
namespace Go.Proofs.YtdjlpmelmhhooaaGreatDoor
open Go Go.RowKit
set_option linter.unusedSimpArgs false
set_option linter.unusedVariables false

theorem IsStrs.addr {w : World} {a : Option Addr} {n : Nat} {ss : List ByteArray} (h : IsStrs w a n ss) (hn : 0 < n) : ∃ b o, a = some ⟨b, o, none⟩ ∧ ∀ j, j < ss.length → w.cell? ⟨b, o + j, none⟩ = some (.string (ss.getD j ByteArray.empty)) := by
  have hl := h.len
  obtain ⟨s0, h0⟩ : ∃ s, ss[0]? = some s := ⟨_, List.getElem?_eq_getElem (by omega)⟩
  obtain ⟨x, rfl, hx⟩ := h.at h0
  have hs : x.spot = none := by
    rw [show x.add 0 = x by simp [Addr.add]] at hx
    unfold World.cell? at hx
    split at hx
    · split at hx
      · cases hx
      · rename_i h1; simpa using h1
    · cases hx
  obtain ⟨b, o, sp⟩ := x
  simp only at hs
  subst hs
  refine ⟨b, o, rfl, fun j hj => ?_⟩
  obtain ⟨s, hsj⟩ : ∃ s, ss[j]? = some s := ⟨_, List.getElem?_eq_getElem hj⟩
  obtain ⟨y, hy, hc⟩ := h.at hsj
  obtain rfl := Option.some.inj hy
  have e : (⟨b, o, none⟩ : Addr).add j = ⟨b, o + j, none⟩ := by unfold Addr.add; split <;> simp_all
  rw [e] at hc
  rw [hc, List.getD_eq_getElem?_getD, hsj]; rfl
theorem IsStrs.small {w : World} {a : Option Addr} {n : Nat} {ss : List ByteArray} (h : IsStrs w a n ss) : ∀ s ∈ ss, s.size ≤ maxLen := by
  rcases h with ⟨_, _, rfl⟩ | ⟨_, _, _, _, h⟩
  · intro s hs; cases hs
  · exact h
theorem clone_strs (a : Option Addr) (n c : Nat) (ss : List ByteArray) (hn : n ≤ 1000) (w : World) (h : IsStrs w a n ss) :
    Calls Tryz.prog 58 #[.slice a n c] w fun e w' => ∃ a' c', e = .returned (.slice a' n c') ∧ IsStrs w' a' n ss ∧ Below w.heap.size w w' := by
  have hl := h.len
  have hsm := h.small
  by_cases h0 : n = 0
  · subst h0
    obtain rfl : ss = [] := List.eq_nil_of_length_eq_zero hl
    cases a with
    | none =>
      refine (slsS_slices_Clone_string_nil 0 c w).mono ?_
      rintro e w' ⟨rfl, rfl⟩
      exact ⟨none, 0, rfl, .inl ⟨rfl, rfl, rfl⟩, Below.refl _ _⟩
    | some x =>
      refine (slsS_slices_Clone_string_zero x c w).mono ?_
      rintro e w' ⟨v, rfl, ho, _, hB⟩
      obtain ⟨a', c', rfl⟩ := own_shape ho
      obtain ⟨a2, c2, e2, hS⟩ := Strs.read (w := w') (base := w.heap.size) (ss := []) ho rfl (fun s hs => by cases hs)
      obtain ⟨rfl, rfl⟩ : a' = a2 ∧ c' = c2 := by simp only [Value.slice.injEq] at e2; exact ⟨e2.1, e2.2.2⟩
      exact ⟨a', c', rfl, hS, hB⟩
  · obtain ⟨b, o, rfl, hc⟩ := h.addr (by omega)
    refine (slsS_slices_Clone_string b o n c ss w (by omega) (by omega) hc).mono ?_
    rintro e w' ⟨v, rfl, ho, _, hB⟩
    rw [List.take_of_length_le (by omega), ← hl] at ho
    obtain ⟨a2, c2, rfl, hS⟩ := Strs.read (w := w') (base := w.heap.size) (ss := ss) ho rfl hsm
    refine ⟨a2, c2, ?_, ?_, hB⟩
    · rw [hl]
    · rw [← hl]; exact hS

theorem IsStrs.setRowR {w : World} {a : Option Addr} {n : Nat} {ss : List ByteArray} (h : IsStrs w a n ss) {b : Nat} {t : TypeId} {x y z : Int} {v : Option Addr} {i j : Nat} (r : RowAt w b t #[.int .i64 x, .int .i64 y, .int .i64 z, .slice v i j]) (B : Array Value) : IsStrs (w.setRow b B) a n ss := by
  rcases h with h | ⟨p, rfl, hl, hc, hs⟩
  · exact .inl h
  · refine .inr ⟨p, rfl, hl, fun k s hk => ?_, hs⟩
    have h1 := hc k s hk
    by_cases hb : (p.add k).block = b
    · exfalso
      have hr : w.heap[b]? = some (.cells #[.int .i64 x, .int .i64 y, .int .i64 z, .slice v i j] t (0, 0)) := r
      unfold World.cell? at h1
      rw [hb, hr] at h1
      simp only at h1
      split at h1
      · cases h1
      · generalize (p.add k).off = o at h1
        rcases o with _ | _ | _ | _ | o
        all_goals simp at h1
    · have h2 := setRow_other w b (p.add k).block B (fun e => hb e)
      unfold World.cell? at h1 ⊢
      rw [h2]; exact h1

set_option maxRecDepth 100000 in
set_option maxHeartbeats 4000000 in
theorem ruleOf_any (k mn mx : Int) (a : Option Addr) (n c : Nat) (ss : List ByteArray) (hn : n ≤ 1000) (w : World) (h : IsStrs w a n ss) :
    Calls Tryz.prog 21 #[.int .i64 k, .int .i64 mn, .int .i64 mx, .slice a n c] w fun e w' => ∃ a' c', e = .returned (.agg (ruleA k mn mx (.slice a' n c'))) ∧ IsStrs w' a' n ss ∧ Below w.heap.size w w' := by
  have LC : ∀ W, Below w.heap.size w W → Calls Tryz.prog 58 #[.slice a n c] W fun e w' => ∃ a' c', e = .returned (.slice a' n c') ∧ IsStrs w' a' n ss ∧ Below W.heap.size W w' := fun W hW => clone_strs a n c ss hn W (h.below hW)
  have hb := fun o => below_al (Below.refl w.heap.size w) o
  replace LC := hid LC
  replace hb := hid hb
  clear h
  go_enter Tryz.func21, Tryz.ntmps21
  go_wp2_with (first
    | (go_at_call 58; with_reducible refine (LC.out _ (hb.out _)).mono ?_; rintro e w1 ⟨a', c', rfl, hS, hB⟩
       have r1 := (RowAt.new w #[.int .i64 0, .int .i64 0, .int .i64 0, .slice none 0 0] 37).below hB (by simp)
       have b1 := below_cat hB (hb.out _)
       replace hS := hid hS
       replace r1 := hid r1
       replace b1 := hid b1
       clear hB)
    | (with_reducible refine at_op none (.store 37 (.tmp 8) (.tmp 14)) ?_
       refine wpList_store_row (o := ⟨none, .store _ (.tmp 8) (.tmp 14), _, _, _, _⟩) rfl 37 (.tmp 8) (.tmp 14) rfl w.heap.size (ruleA k mn mx (.slice a' n c')) rfl rfl 37 _ r1.out infoRule rfl (ruleA_one _ _ _ _ _ _) ?_))
  refine bodyPost_ret (results_cell_row rfl _ _ w.heap.size 37 (ruleA k mn mx (.slice a' n c')) (0, 0) _ rfl (r1.out.setRow _) Tryz.underlying37 rfl infoRule) rfl ⟨a', c', rfl, ?_, below_setRow b1.out (Nat.le_refl _) _⟩
  exact hS.out.setRowR r1.out _
end Go.Proofs.YtdjlpmelmhhooaaGreatDoor
