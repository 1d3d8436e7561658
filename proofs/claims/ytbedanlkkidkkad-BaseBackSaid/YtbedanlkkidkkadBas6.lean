/- awake; the alphabet that is none; the laws BaseEncodes, BaseJoins. -/
import Derived.Test.YtbedanlkkidkkadBas5
namespace Go.Proofs.Ytbedanlkkidkkad
open Go Go.RowKit
set_option linter.unusedSimpArgs false

theorem enc_f_std : enc stdL 6 true [102] = [90, 103, 61, 61] := by
  have e : bitsOf [102] = [0, 1, 1, 0, 0, 1] ++ [1, 0] := by decide
  rw [enc, e, digits_full (k := 6) (by decide) [0, 1, 1, 0, 0, 1] [1, 0] rfl, digits_last (by decide) (by decide)]
  decide +kernel
theorem enc_f_hex : enc hexL 4 false [102] = [54, 54] := by
  have e : bitsOf [102] = [0, 1, 1, 0] ++ [0, 1, 1, 0] := by decide
  rw [enc, e, digits_full (k := 4) (by decide) [0, 1, 1, 0] [0, 1, 1, 0] rfl, digits_last (by decide) (by decide)]
  decide +kernel
set_option maxRecDepth 100000 in
theorem awake_any (w : World) : Calls Try.prog 7 #[] w fun e w' => e = .returned (.bool true) ∧ Below w.heap.size w w' := by
  obtain ⟨A, hA⟩ : ∃ A, A = stdL := ⟨_, rfl⟩
  obtain ⟨B, hB⟩ : ∃ B, B = hexL := ⟨_, rfl⟩
  have LS : ∀ w, Calls Try.prog 16 #[] w fun e w' => e = .returned (.agg #[.string A, .int .i64 6, .bool true]) ∧ Below w.heap.size w w' := fun w => by rw [hA]; exact std_any w
  have LH : ∀ w, Calls Try.prog 17 #[] w fun e w' => e = .returned (.agg #[.string B, .int .i64 4, .bool false]) ∧ Below w.heap.size w w' := fun w => by rw [hB]; exact hex_any w
  have E1 : ∀ w, Calls Try.prog 9 #[.agg #[.string A, .int .i64 6, .bool true], .string ⟨#[102]⟩] w fun e w' => e = .returned (.string ⟨#[90, 103, 61, 61]⟩) ∧ Below w.heap.size w w' := fun w => by
    have := encode_any stdL 6 true good_std ⟨#[102]⟩ (by simp [ByteArray.size]) w
    rw [show (⟨#[102]⟩ : ByteArray).data.toList = [102] from rfl, enc_f_std] at this
    rw [hA]; exact this
  have E2 : ∀ w, Calls Try.prog 9 #[.agg #[.string B, .int .i64 4, .bool false], .string ⟨#[102]⟩] w fun e w' => e = .returned (.string ⟨#[54, 54]⟩) ∧ Below w.heap.size w w' := fun w => by
    have := encode_any hexL 4 false good_hex ⟨#[102]⟩ (by simp [ByteArray.size]) w
    rw [show (⟨#[102]⟩ : ByteArray).data.toList = [102] from rfl, enc_f_hex] at this
    rw [hB]; exact this
  replace LS := hid LS
  replace LH := hid LH
  replace E1 := hid E1
  replace E2 := hid E2
  clear hA hB
  go_enter Try.func7, Try.ntmps7
  go_wp2_with (first
    | (go_at_call 16; refine (LS.out _).mono ?_; rintro e w1 ⟨rfl, hB1⟩)
    | (go_at_call 17; refine (LH.out _).mono ?_; rintro e w3 ⟨rfl, hB3⟩)
    | (go_at_call 9; with_reducible refine (E1.out _).mono ?_; rintro e w2 ⟨rfl, hB2⟩)
    | (go_at_call 9; with_reducible refine (E2.out _).mono ?_; rintro e w4 ⟨rfl, hB4⟩))
  go_ret
  exact ⟨rfl, by repeat (first | assumption | with_reducible apply below_cat)⟩

set_option maxRecDepth 100000 in
theorem encode_none (s : ByteArray) (w : World) : Calls Try.prog 9 #[.agg #[.string ⟨#[]⟩, .int .i64 0, .bool false], .string s] w fun e w' => e = .returned (.string ⟨#[]⟩) ∧ Below w.heap.size w w' := by
  go_enter Try.func9, Try.ntmps9
  go_wp2
  go_ret
  exact ⟨rfl, below_al (Below.refl _ _) _⟩
set_option maxRecDepth 100000 in
theorem size_none (z : Int) (w : World) : Calls Try.prog 10 #[.agg #[.string ⟨#[]⟩, .int .i64 0, .bool false], .int .i64 z] w fun e w' => e = .returned (.int .i64 0) ∧ Below w.heap.size w w' := by
  by_cases h : z < 1
  · have hd : decide (z < 1) = true := decide_eq_true h
    go_enter Try.func10, Try.ntmps10
    go_wp2
    go_ret
    exact ⟨rfl, below_al (Below.refl _ _) _⟩
  · have hd : decide (z < 1) = false := decide_eq_false h
    go_enter Try.func10, Try.ntmps10
    go_wp2
    go_ret
    exact ⟨rfl, below_al (Below.refl _ _) _⟩
set_option maxRecDepth 100000 in
theorem size_neg (L : ByteArray) (k : Nat) (fill : Bool) (w : World) : Calls Try.prog 10 #[alpha L k fill, .int .i64 (-5)] w fun e w' => e = .returned (.int .i64 0) ∧ Below w.heap.size w w' := by
  unfold alpha
  go_enter Try.func10, Try.ntmps10
  go_wp2
  go_ret
  exact ⟨rfl, below_al (Below.refl _ _) _⟩
set_option maxRecDepth 100000 in
theorem letters_any (L : ByteArray) (k : Nat) (fill : Bool) (w : World) : Calls Try.prog 12 #[alpha L k fill] w fun e w' => e = .returned (.string L) ∧ Below w.heap.size w w' := by
  unfold alpha
  go_enter Try.func12, Try.ntmps12
  go_wp2
  go_ret
  exact ⟨rfl, below_al (Below.refl _ _) _⟩

set_option maxRecDepth 100000 in
set_option maxHeartbeats 4000000 in
theorem encodes_main (s : ByteArray) (hs : s.size ≤ 1000) (c n : Nat) (hc : c ≤ 255) (hn : n = c % 3) (w : World) :
    Calls Try.prog 4 #[.string s, .int .u8 (c : Int)] w fun e w' => e = .returned (.bool true) ∧ Below w.heap.size w w' := by
  have hgt : decide ((1000 : Int) < (s.size : Int)) = false := by rw [decide_eq_false_iff_not]; omega
  have hcn : (c : Int) % 3 = (n : Int) := by omega
  have hn2 : n ≤ 2 := by omega
  have hG := kind_good n
  have hesz := enc_size (L := KL n) (k := Kk n) (fill := Kf n) (by have := hG.k46; omega) s.data.toList
  have LA := fun w => alphabet_any n w
  have LE := fun w => encode_any (KL n) (Kk n) (Kf n) hG s (by omega) w
  have LR := fun w => refEncode_any n s (by omega) w
  have LS := fun w => size_any (KL n) (Kk n) (Kf n) s.size hG.k46 hG.fill6 (by omega) w
  have LL := fun w => letters_any (KL n) (Kk n) (Kf n) w
  have LM := fun w => size_neg (KL n) (Kk n) (Kf n) w
  have LT := fun w => refLetters_any n w
  unfold alpha at LA LE LS LL LM
  obtain ⟨L, hL⟩ : ∃ L, L = KL n := ⟨_, rfl⟩
  obtain ⟨k, hk⟩ : ∃ k, k = Kk n := ⟨_, rfl⟩
  obtain ⟨f, hf⟩ : ∃ f, f = Kf n := ⟨_, rfl⟩
  rw [← hL, ← hk, ← hf] at LA LE LR hesz LL LM
  rw [← hL, ← hk, ← hf] at LS
  rw [← hL] at LT
  obtain ⟨T, hT⟩ : ∃ T : ByteArray, T = ⟨(enc L k f s.data.toList).toArray⟩ := ⟨_, rfl⟩
  have hTs : T.size = sizeN k f s.size := by rw [hT]; have h3 : s.data.toList.length = s.size := by simp
                                             rw [h3] at hesz; rw [← hesz]; simp [ByteArray.size]
  rw [← hT] at LE LR
  rw [← hTs] at LS
  replace LA := hid LA
  replace LE := hid LE
  replace LR := hid LR
  replace LS := hid LS
  replace LL := hid LL
  replace LM := hid LM
  replace LT := hid LT
  have LN := hid fun w => encode_none s w
  have LO := hid fun w => size_none (s.size : Nat) w
  clear hL hk hf hG hesz hT hTs hn
  go_enter Try.func4, Try.ntmps4
  go_wp2_with (first
    | (go_at_call 7; refine (awake_any _).mono ?_; rintro e w1 ⟨rfl, hB1⟩)
    | (go_at_call 8; refine (LA.out _).mono ?_; rintro e w2 ⟨rfl, hB2⟩)
    | (go_at_call 9; with_reducible refine (LE.out _).mono ?_; rintro e w3 ⟨rfl, hB3⟩
       have r63 := (RowAt.new w2 #[.string L, .int .i64 k, .bool f] 24).below hB3 (by simp)
       have a03 : w3.cell? ⟨w2.heap.size, 0, none⟩ = some (.string L) := r63.cell rfl; have a13 : w3.cell? ⟨w2.heap.size, 1, none⟩ = some (.int .i64 k) := r63.cell rfl; have a23 : w3.cell? ⟨w2.heap.size, 2, none⟩ = some (.bool f) := r63.cell rfl; have l23 : w2.heap.size < w3.heap.size := r63.lt)
    | (go_at_call 11; refine (LR.out _).mono ?_; rintro e w' ⟨rfl, rfl⟩)
    | (go_at_call 10; with_reducible refine (LS.out _).mono ?_; rintro e w4 ⟨rfl, hB4⟩
       have r64 := (r63.alloc (.cells #[.string ⟨#[]⟩, .int .i64 0, .bool false] 24)).below hB4 (by have := r63.lt; simp; omega); have r84 := (RowAt.new w3 #[.string ⟨#[]⟩, .int .i64 0, .bool false] 24).below hB4 (by simp)
       have a04 : w4.cell? ⟨w2.heap.size, 0, none⟩ = some (.string L) := r64.cell rfl; have a14 : w4.cell? ⟨w2.heap.size, 1, none⟩ = some (.int .i64 k) := r64.cell rfl; have a24 : w4.cell? ⟨w2.heap.size, 2, none⟩ = some (.bool f) := r64.cell rfl
       have b04 : w4.cell? ⟨w3.heap.size, 0, none⟩ = some (.string ⟨#[]⟩) := r84.cell rfl; have b14 : w4.cell? ⟨w3.heap.size, 1, none⟩ = some (.int .i64 0) := r84.cell rfl; have b24 : w4.cell? ⟨w3.heap.size, 2, none⟩ = some (.bool false) := r84.cell rfl)
    | (go_at_call 12; with_reducible refine (LL.out _).mono ?_; rintro e w5 ⟨rfl, hB5⟩
       have r65 := r64.below hB5 r64.lt; have r85 := r84.below hB5 r84.lt
       have a05 : w5.cell? ⟨w2.heap.size, 0, none⟩ = some (.string L) := r65.cell rfl; have a15 : w5.cell? ⟨w2.heap.size, 1, none⟩ = some (.int .i64 k) := r65.cell rfl; have a25 : w5.cell? ⟨w2.heap.size, 2, none⟩ = some (.bool f) := r65.cell rfl
       have b05 : w5.cell? ⟨w3.heap.size, 0, none⟩ = some (.string ⟨#[]⟩) := r85.cell rfl; have b15 : w5.cell? ⟨w3.heap.size, 1, none⟩ = some (.int .i64 0) := r85.cell rfl; have b25 : w5.cell? ⟨w3.heap.size, 2, none⟩ = some (.bool false) := r85.cell rfl)
    | (go_at_call 13; refine (LT.out _).mono ?_; rintro e w' ⟨rfl, rfl⟩)
    | (go_at_call 9; with_reducible refine (LN.out _).mono ?_; rintro e w6 ⟨rfl, hB6⟩
       have r66 := r65.below hB6 r65.lt; have r86 := r85.below hB6 r85.lt
       have a06 : w6.cell? ⟨w2.heap.size, 0, none⟩ = some (.string L) := r66.cell rfl; have a16 : w6.cell? ⟨w2.heap.size, 1, none⟩ = some (.int .i64 k) := r66.cell rfl; have a26 : w6.cell? ⟨w2.heap.size, 2, none⟩ = some (.bool f) := r66.cell rfl
       have b06 : w6.cell? ⟨w3.heap.size, 0, none⟩ = some (.string ⟨#[]⟩) := r86.cell rfl; have b16 : w6.cell? ⟨w3.heap.size, 1, none⟩ = some (.int .i64 0) := r86.cell rfl; have b26 : w6.cell? ⟨w3.heap.size, 2, none⟩ = some (.bool false) := r86.cell rfl)
    | (go_at_call 10; with_reducible refine (LO.out _).mono ?_; rintro e w7 ⟨rfl, hB7⟩
       have r67 := r66.below hB7 r66.lt; have r87 := r86.below hB7 r86.lt
       have a07 : w7.cell? ⟨w2.heap.size, 0, none⟩ = some (.string L) := r67.cell rfl; have a17 : w7.cell? ⟨w2.heap.size, 1, none⟩ = some (.int .i64 k) := r67.cell rfl; have a27 : w7.cell? ⟨w2.heap.size, 2, none⟩ = some (.bool f) := r67.cell rfl
       have b07 : w7.cell? ⟨w3.heap.size, 0, none⟩ = some (.string ⟨#[]⟩) := r87.cell rfl; have b17 : w7.cell? ⟨w3.heap.size, 1, none⟩ = some (.int .i64 0) := r87.cell rfl; have b27 : w7.cell? ⟨w3.heap.size, 2, none⟩ = some (.bool false) := r87.cell rfl)
    | (go_at_call 10; with_reducible refine (LM.out _).mono ?_; rintro e w8 ⟨rfl, hB8⟩))
  go_ret
  exact ⟨rfl, by repeat (first | assumption | with_reducible apply below_al | apply below_cat)⟩

set_option maxRecDepth 100000 in
theorem encodes_big (s : ByteArray) (hs : decide ((1000 : Int) < (s.size : Int)) = true) (c : Int) (w : World) :
    Calls Try.prog 4 #[.string s, .int .u8 c] w fun e w' => e = .returned (.bool true) ∧ Below w.heap.size w w' := by
  go_enter Try.func4, Try.ntmps4
  go_wp2_with (go_at_call 7; refine (awake_any _).mono ?_; rintro e w1 ⟨rfl, hB1⟩)
  go_ret
  exact ⟨rfl, hB1⟩
theorem baseEncodes_walk (s : ByteArray) (c : Int) (_hs : s.size ≤ 140737488351232) (wc : (Lit.int .u8 c).wf = true) (w : World) :
    Calls Try.prog 4 #[.string s, .int .u8 c] w fun e w' => e = .returned (.bool true) ∧ Below w.heap.size w w' := by
  have hb := bounds_u8 wc
  by_cases h : s.size ≤ 1000
  · obtain ⟨m, rfl⟩ := Int.eq_ofNat_of_zero_le hb.1
    exact encodes_main s h m (m % 3) (by omega) rfl w
  · exact encodes_big s (by rw [decide_eq_true_iff]; omega) c w
end Go.Proofs.Ytbedanlkkidkkad
