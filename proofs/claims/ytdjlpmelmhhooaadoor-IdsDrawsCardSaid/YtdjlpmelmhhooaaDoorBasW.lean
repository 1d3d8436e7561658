/- Chapter 02's awake. -/
import Derived.Test.YtdjlpmelmhhooaaDoorBas5
namespace Go.Proofs.YtdjlpmelmhhooaaDoor
open Go Go.RowKit
set_option linter.unusedSimpArgs false

theorem enc_f_std : enc stdL 6 true [102] = [90, 103, 61, 61] := by
  have e : bitsOf [102] = [0, 1, 1, 0, 0, 1] ++ [1, 0] := by decide
  rw [enc, e, digits_full (k := 6) (by decide) [0, 1, 1, 0, 0, 1] [1, 0] rfl, digits_last (by decide) (by decide)]
  decide +kernel
theorem enc_f_hex : enc hexL 4 false [102] = [54, 54] := by
  have e : bitsOf [102] = [0, 1, 1, 0] ++ [0, 1, 1, 0] := by decide
  rw [enc, e, digits_full (k := 4) (by decide) [0, 1, 1, 0] [0, 1, 1, 0] rfl, digits_last (by decide) (by decide)]
  decide +kernel
set_option maxRecDepth 100000 in
theorem basAwake_any (w : World) : Calls Tryd.prog 24 #[] w fun e w' => e = .returned (.bool true) ∧ Below w.heap.size w w' := by
  obtain ⟨A, hA⟩ : ∃ A, A = stdL := ⟨_, rfl⟩
  obtain ⟨B, hB⟩ : ∃ B, B = hexL := ⟨_, rfl⟩
  have LS : ∀ w, Calls Tryd.prog 38 #[] w fun e w' => e = .returned (.agg #[.string A, .int .i64 6, .bool true]) ∧ Below w.heap.size w w' := fun w => by rw [hA]; exact std_any w
  have LH : ∀ w, Calls Tryd.prog 17 #[] w fun e w' => e = .returned (.agg #[.string B, .int .i64 4, .bool false]) ∧ Below w.heap.size w w' := fun w => by rw [hB]; exact hex_any w
  have E1 : ∀ w, Calls Tryd.prog 18 #[.agg #[.string A, .int .i64 6, .bool true], .string ⟨#[102]⟩] w fun e w' => e = .returned (.string ⟨#[90, 103, 61, 61]⟩) ∧ Below w.heap.size w w' := fun w => by
    have := encode_any stdL 6 true good_std ⟨#[102]⟩ (by simp [ByteArray.size]) w
    rw [show (⟨#[102]⟩ : ByteArray).data.toList = [102] from rfl, enc_f_std] at this
    rw [hA]; exact this
  have E2 : ∀ w, Calls Tryd.prog 18 #[.agg #[.string B, .int .i64 4, .bool false], .string ⟨#[102]⟩] w fun e w' => e = .returned (.string ⟨#[54, 54]⟩) ∧ Below w.heap.size w w' := fun w => by
    have := encode_any hexL 4 false good_hex ⟨#[102]⟩ (by simp [ByteArray.size]) w
    rw [show (⟨#[102]⟩ : ByteArray).data.toList = [102] from rfl, enc_f_hex] at this
    rw [hB]; exact this
  replace LS := hid LS
  replace LH := hid LH
  replace E1 := hid E1
  replace E2 := hid E2
  clear hA hB
  go_enter Tryd.func24, Tryd.ntmps24
  go_wp2_with (first
    | (go_at_call 38; refine (LS.out _).mono ?_; rintro e w1 ⟨rfl, hB1⟩)
    | (go_at_call 17; refine (LH.out _).mono ?_; rintro e w3 ⟨rfl, hB3⟩)
    | (go_at_call 18; with_reducible refine (E1.out _).mono ?_; rintro e w2 ⟨rfl, hB2⟩)
    | (go_at_call 18; with_reducible refine (E2.out _).mono ?_; rintro e w4 ⟨rfl, hB4⟩))
  go_ret
  exact ⟨rfl, by repeat (first | assumption | with_reducible apply below_cat)⟩
end Go.Proofs.YtdjlpmelmhhooaaDoor
