/- The law UtfPairs. -/
import Derived.Test.YtbedanlkkidkkabUtf6
namespace Go.Proofs.Ytbedanlkkidkkab
open Go Go.RowKit
set_option linter.unusedSimpArgs false

theorem split_of_pair {a b : Nat} (h1 : surN a = 1) (h2 : surN b = 2) : splitV ((a - 55296) * 1024 + (b - 56320) + 65536 : Nat) = .tuple #[.int .u16 a, .int .u16 b, .bool true] := by
  have ra := sur1 h1
  have rb := sur2 h2
  rw [splitV, if_pos (by omega)]
  rw [show 55296 + ((((a - 55296) * 1024 + (b - 56320) + 65536 : Nat) : Int).toNat - 65536) / 1024 = a by omega, show 56320 + ((((a - 55296) * 1024 + (b - 56320) + 65536 : Nat) : Int).toNat - 65536) % 1024 = b by omega]
theorem pair_of_split (r : Int) (h : 65536 ≤ r ∧ r ≤ 1114111) : pairV (55296 + (r.toNat - 65536) / 1024) (56320 + (r.toNat - 65536) % 1024) = .tuple #[.int .i32 r, .bool true] := by
  have h1 : surN (55296 + (r.toNat - 65536) / 1024) = 1 := by rw [surN, if_pos (by omega)]
  have h2 : surN (56320 + (r.toNat - 65536) % 1024) = 2 := by rw [surN, if_neg (by omega), if_pos (by omega)]
  rw [pairV, if_pos ⟨h1, h2⟩, show (((55296 + (r.toNat - 65536) / 1024 - 55296) * 1024 + (56320 + (r.toNat - 65536) % 1024 - 56320) + 65536 : Nat) : Int) = r by omega]

theorem sur_a (a : Nat) : (decide ((55296 : Int) ≤ (a : Int)) = false ∧ (((surN a : Nat) : Int) == 1) = false) ∨ (decide ((55296 : Int) ≤ (a : Int)) = true ∧ decide ((a : Int) < 56320) = true ∧ surN a = 1) ∨
    (decide ((55296 : Int) ≤ (a : Int)) = true ∧ decide ((a : Int) < 56320) = false ∧ (((surN a : Nat) : Int) == 1) = false) := by
  have hn : ∀ n : Nat, n ≠ 1 → (((n : Nat) : Int) == 1) = false := fun n h => by rw [beq_eq_false_iff_ne]; omega
  have hs := @sur1 a
  by_cases h1 : 55296 ≤ a
  · by_cases h2 : a < 56320
    · exact .inr (.inl ⟨by simp; omega, by simp; omega, by rw [surN, if_pos ⟨h1, h2⟩]⟩)
    · exact .inr (.inr ⟨by simp; omega, by simp; omega, hn _ (fun h => by have := hs h; omega)⟩)
  · exact .inl ⟨by simp; omega, hn _ (fun h => by have := hs h; omega)⟩
theorem sur_b (a : Nat) : (decide ((56320 : Int) ≤ (a : Int)) = false ∧ (((surN a : Nat) : Int) == 2) = false) ∨ (decide ((56320 : Int) ≤ (a : Int)) = true ∧ decide ((a : Int) < 57344) = true ∧ surN a = 2) ∨
    (decide ((56320 : Int) ≤ (a : Int)) = true ∧ decide ((a : Int) < 57344) = false ∧ (((surN a : Nat) : Int) == 2) = false) := by
  have hn : ∀ n : Nat, n ≠ 2 → (((n : Nat) : Int) == 2) = false := fun n h => by rw [beq_eq_false_iff_ne]; omega
  have hs := @sur2 a
  by_cases h1 : 56320 ≤ a
  · by_cases h2 : a < 57344
    · exact .inr (.inl ⟨by simp; omega, by simp; omega, by rw [surN, if_neg (by omega), if_pos (by omega)]⟩)
    · exact .inr (.inr ⟨by simp; omega, by simp; omega, hn _ (fun h => by have := hs h; omega)⟩)
  · exact .inl ⟨by simp; omega, hn _ (fun h => by have := hs h; omega)⟩

set_option maxRecDepth 100000 in
set_option maxHeartbeats 4000000 in
theorem pairs_not_in (a b : Nat) (r : Int) (ha : a < 65536) (hb : b < 65536) (hno : ¬ (surN a = 1 ∧ surN b = 2)) (hr : (65536 ≤ r ∧ r ≤ 1114111)) (w : World) :
    Calls Try.prog 6 #[.int .u16 a, .int .u16 b, .int .i32 r] w fun e w' => e = .returned (.bool true) ∧ Below w.heap.size w w' := by
  have LP := fun w => pair_any a b ha hb w
  rw [pairV, if_neg hno] at LP
  have LA := fun w => surrogate_any a ha w
  have LB := fun w => surrogate_any b hb w
  have LX := fun w => split_any 0 w
  rw [splitV, if_neg (by omega)] at LX
  have LS := fun w => split_any r w
  have hq := pair_of_split r hr
  have LQ := fun w => pair_any (55296 + (r.toNat - 65536) / 1024) (56320 + (r.toNat - 65536) % 1024) (by omega) (by omega) w
  rw [hq] at LQ
  rw [splitV, if_pos hr] at LS
  have d1 : decide ((65536 : Int) ≤ r) = true := by simp; omega
  have d2 : decide (r ≤ 1114111) = true := by simp; omega
  clear hq
  obtain ⟨c, hc⟩ : ∃ c, c = 55296 + (r.toNat - 65536) / 1024 := ⟨_, rfl⟩
  obtain ⟨d, hd⟩ : ∃ d, d = 56320 + (r.toNat - 65536) % 1024 := ⟨_, rfl⟩
  rw [← hc, ← hd] at LS LQ
  clear hc hd hr
  have fa := sur_a a
  have fb := sur_b b
  obtain ⟨sa, hsa⟩ : ∃ x, x = surN a := ⟨_, rfl⟩
  obtain ⟨sb, hsb⟩ : ∃ x, x = surN b := ⟨_, rfl⟩
  rw [← hsa] at LA hno fa
  rw [← hsb] at LB hno fb
  clear hsa hsb
  replace LA := hid LA
  replace LB := hid LB
  replace LP := hid LP
  replace LQ := hid LQ
  replace LS := hid LS
  replace LX := hid LX
  rcases fa with ⟨a1, a2⟩ | ⟨a1, a2, rfl⟩ | ⟨a1, a2, a3⟩ <;> rcases fb with ⟨b1, b2⟩ | ⟨b1, b2, rfl⟩ | ⟨b1, b2, b3⟩
  case inr.inl.inr.inl => exact absurd ⟨rfl, rfl⟩ hno
  all_goals
    clear hno
    go_enter Try.func6, Try.ntmps6
    go_wp2_with (first
      | (go_at_call 7; refine (awake_any _).mono ?_; rintro e w1 ⟨rfl, hB1⟩)
      | (go_at_call 17; with_reducible refine (LA.out _).mono ?_; rintro e w1 ⟨rfl, rfl⟩)
      | (go_at_call 17; with_reducible refine (LB.out _).mono ?_; rintro e w1 ⟨rfl, rfl⟩)
      | (go_at_call 16; with_reducible refine (LP.out _).mono ?_; rintro e w1 ⟨rfl, rfl⟩)
      | (go_at_call 16; with_reducible refine (LQ.out _).mono ?_; rintro e w1 ⟨rfl, rfl⟩)
      | (go_at_call 18; with_reducible refine (LS.out _).mono ?_; rintro e w1 ⟨rfl, rfl⟩)
      | (go_at_call 18; with_reducible refine (LX.out _).mono ?_; rintro e w1 ⟨rfl, rfl⟩))
    go_ret
    exact ⟨rfl, hB1⟩

set_option maxRecDepth 100000 in
set_option maxHeartbeats 4000000 in
theorem pairs_not_out (a b : Nat) (r : Int) (ha : a < 65536) (hb : b < 65536) (hno : ¬ (surN a = 1 ∧ surN b = 2)) (hr : ¬ (65536 ≤ r ∧ r ≤ 1114111)) (w : World) :
    Calls Try.prog 6 #[.int .u16 a, .int .u16 b, .int .i32 r] w fun e w' => e = .returned (.bool true) ∧ Below w.heap.size w w' := by
  have LP := fun w => pair_any a b ha hb w
  rw [pairV, if_neg hno] at LP
  have LA := fun w => surrogate_any a ha w
  have LB := fun w => surrogate_any b hb w
  have LX := fun w => split_any 0 w
  rw [splitV, if_neg (by omega)] at LX
  have LS := fun w => split_any r w
  rw [splitV, if_neg hr] at LS
  have LQ : ∀ w, Calls Try.prog 16 #[.int .u16 0, .int .u16 0] w fun e w' => e = .returned (pairV 0 0) ∧ w = w' := fun w => pair_any 0 0 (by omega) (by omega) w
  rw [show pairV 0 0 = .tuple #[.int .i32 0, .bool false] by rw [pairV, if_neg (by decide)]] at LQ
  have d0 : (decide ((65536 : Int) ≤ r) = true ∧ decide (r ≤ 1114111) = false) ∨ decide ((65536 : Int) ≤ r) = false := by simp; omega
  clear hr
  have fa := sur_a a
  have fb := sur_b b
  obtain ⟨sa, hsa⟩ : ∃ x, x = surN a := ⟨_, rfl⟩
  obtain ⟨sb, hsb⟩ : ∃ x, x = surN b := ⟨_, rfl⟩
  rw [← hsa] at LA hno fa
  rw [← hsb] at LB hno fb
  clear hsa hsb
  replace LA := hid LA
  replace LB := hid LB
  replace LP := hid LP
  replace LQ := hid LQ
  replace LS := hid LS
  replace LX := hid LX
  rcases fa with ⟨a1, a2⟩ | ⟨a1, a2, rfl⟩ | ⟨a1, a2, a3⟩ <;> rcases fb with ⟨b1, b2⟩ | ⟨b1, b2, rfl⟩ | ⟨b1, b2, b3⟩
  case inr.inl.inr.inl => exact absurd ⟨rfl, rfl⟩ hno
  all_goals
    clear hno
    rcases d0 with ⟨d1, d2⟩ | d1
    all_goals
      go_enter Try.func6, Try.ntmps6
      go_wp2_with (first
        | (go_at_call 7; refine (awake_any _).mono ?_; rintro e w1 ⟨rfl, hB1⟩)
        | (go_at_call 17; with_reducible refine (LA.out _).mono ?_; rintro e w1 ⟨rfl, rfl⟩)
        | (go_at_call 17; with_reducible refine (LB.out _).mono ?_; rintro e w1 ⟨rfl, rfl⟩)
        | (go_at_call 16; with_reducible refine (LP.out _).mono ?_; rintro e w1 ⟨rfl, rfl⟩)
        | (go_at_call 16; with_reducible refine (LQ.out _).mono ?_; rintro e w1 ⟨rfl, rfl⟩)
        | (go_at_call 18; with_reducible refine (LS.out _).mono ?_; rintro e w1 ⟨rfl, rfl⟩)
        | (go_at_call 18; with_reducible refine (LX.out _).mono ?_; rintro e w1 ⟨rfl, rfl⟩))
      go_ret
      exact ⟨rfl, hB1⟩

set_option maxRecDepth 100000 in
set_option maxHeartbeats 4000000 in
theorem pairs_ok_in (a b : Nat) (r : Int) (ha : a < 65536) (hb : b < 65536) (hno : (surN a = 1 ∧ surN b = 2)) (hr : (65536 ≤ r ∧ r ≤ 1114111)) (w : World) :
    Calls Try.prog 6 #[.int .u16 a, .int .u16 b, .int .i32 r] w fun e w' => e = .returned (.bool true) ∧ Below w.heap.size w w' := by
  have LP := fun w => pair_any a b ha hb w
  rw [pairV, if_pos hno] at LP
  have LX := fun w => split_any ((a - 55296) * 1024 + (b - 56320) + 65536 : Nat) w
  rw [split_of_pair hno.1 hno.2] at LX
  have LA := fun w => surrogate_any a ha w
  have LB := fun w => surrogate_any b hb w
  have ra := sur1 hno.1
  have rb := sur2 hno.2
  rw [hno.1] at LA
  rw [hno.2] at LB
  obtain ⟨x, hx⟩ : ∃ x, x = (a - 55296) * 1024 + (b - 56320) + 65536 := ⟨_, rfl⟩
  rw [← hx] at LP LX
  have hx2 : (x : Int) ≤ 1114111 := by omega
  have hw : ((x : Int) != ((a : Int) - 55296) * 1024 + (b : Int) - 56320 + 65536) = false := by rw [bne_eq_false_iff_eq]; omega
  have a1 : decide ((55296 : Int) ≤ (a : Int)) = true := by simp; omega
  have a2 : decide ((a : Int) < 56320) = true := by simp; omega
  have b1 : decide ((56320 : Int) ≤ (b : Int)) = true := by simp; omega
  have b2 : decide ((b : Int) < 57344) = true := by simp; omega
  obtain ⟨ra1, ra2⟩ := ra
  obtain ⟨rb1, rb2⟩ := rb
  replace hx := hid hx
  clear hno
  have LS := fun w => split_any r w
  have hq := pair_of_split r hr
  have LQ := fun w => pair_any (55296 + (r.toNat - 65536) / 1024) (56320 + (r.toNat - 65536) % 1024) (by omega) (by omega) w
  rw [hq] at LQ
  rw [splitV, if_pos hr] at LS
  have d1 : decide ((65536 : Int) ≤ r) = true := by simp; omega
  have d2 : decide (r ≤ 1114111) = true := by simp; omega
  clear hq
  obtain ⟨c, hc⟩ : ∃ c, c = 55296 + (r.toNat - 65536) / 1024 := ⟨_, rfl⟩
  obtain ⟨d, hd⟩ : ∃ d, d = 56320 + (r.toNat - 65536) % 1024 := ⟨_, rfl⟩
  rw [← hc, ← hd] at LS LQ
  clear hc hd hr
  replace LA := hid LA
  replace LB := hid LB
  replace LP := hid LP
  replace LQ := hid LQ
  replace LS := hid LS
  replace LX := hid LX
  go_enter Try.func6, Try.ntmps6
  go_wp2_with (first
    | (go_at_call 7; refine (awake_any _).mono ?_; rintro e w1 ⟨rfl, hB1⟩)
    | (go_at_call 17; with_reducible refine (LA.out _).mono ?_; rintro e w1 ⟨rfl, rfl⟩)
    | (go_at_call 17; with_reducible refine (LB.out _).mono ?_; rintro e w1 ⟨rfl, rfl⟩)
    | (go_at_call 16; with_reducible refine (LP.out _).mono ?_; rintro e w1 ⟨rfl, rfl⟩)
    | (go_at_call 16; with_reducible refine (LQ.out _).mono ?_; rintro e w1 ⟨rfl, rfl⟩)
    | (go_at_call 18; with_reducible refine (LS.out _).mono ?_; rintro e w1 ⟨rfl, rfl⟩)
    | (go_at_call 18; with_reducible refine (LX.out _).mono ?_; rintro e w1 ⟨rfl, rfl⟩))
  go_ret
  exact ⟨rfl, hB1⟩

set_option maxRecDepth 100000 in
set_option maxHeartbeats 4000000 in
theorem pairs_ok_out (a b : Nat) (r : Int) (ha : a < 65536) (hb : b < 65536) (hno : (surN a = 1 ∧ surN b = 2)) (hr : ¬ (65536 ≤ r ∧ r ≤ 1114111)) (w : World) :
    Calls Try.prog 6 #[.int .u16 a, .int .u16 b, .int .i32 r] w fun e w' => e = .returned (.bool true) ∧ Below w.heap.size w w' := by
  have LP := fun w => pair_any a b ha hb w
  rw [pairV, if_pos hno] at LP
  have LX := fun w => split_any ((a - 55296) * 1024 + (b - 56320) + 65536 : Nat) w
  rw [split_of_pair hno.1 hno.2] at LX
  have LA := fun w => surrogate_any a ha w
  have LB := fun w => surrogate_any b hb w
  have ra := sur1 hno.1
  have rb := sur2 hno.2
  rw [hno.1] at LA
  rw [hno.2] at LB
  obtain ⟨x, hx⟩ : ∃ x, x = (a - 55296) * 1024 + (b - 56320) + 65536 := ⟨_, rfl⟩
  rw [← hx] at LP LX
  have hx2 : (x : Int) ≤ 1114111 := by omega
  have hw : ((x : Int) != ((a : Int) - 55296) * 1024 + (b : Int) - 56320 + 65536) = false := by rw [bne_eq_false_iff_eq]; omega
  have a1 : decide ((55296 : Int) ≤ (a : Int)) = true := by simp; omega
  have a2 : decide ((a : Int) < 56320) = true := by simp; omega
  have b1 : decide ((56320 : Int) ≤ (b : Int)) = true := by simp; omega
  have b2 : decide ((b : Int) < 57344) = true := by simp; omega
  obtain ⟨ra1, ra2⟩ := ra
  obtain ⟨rb1, rb2⟩ := rb
  replace hx := hid hx
  clear hno
  have LS := fun w => split_any r w
  rw [splitV, if_neg hr] at LS
  have LQ : ∀ w, Calls Try.prog 16 #[.int .u16 0, .int .u16 0] w fun e w' => e = .returned (pairV 0 0) ∧ w = w' := fun w => pair_any 0 0 (by omega) (by omega) w
  rw [show pairV 0 0 = .tuple #[.int .i32 0, .bool false] by rw [pairV, if_neg (by decide)]] at LQ
  have d0 : (decide ((65536 : Int) ≤ r) = true ∧ decide (r ≤ 1114111) = false) ∨ decide ((65536 : Int) ≤ r) = false := by simp; omega
  clear hr
  replace LA := hid LA
  replace LB := hid LB
  replace LP := hid LP
  replace LQ := hid LQ
  replace LS := hid LS
  replace LX := hid LX
  rcases d0 with ⟨d1, d2⟩ | d1
  all_goals
    go_enter Try.func6, Try.ntmps6
    go_wp2_with (first
      | (go_at_call 7; refine (awake_any _).mono ?_; rintro e w1 ⟨rfl, hB1⟩)
      | (go_at_call 17; with_reducible refine (LA.out _).mono ?_; rintro e w1 ⟨rfl, rfl⟩)
      | (go_at_call 17; with_reducible refine (LB.out _).mono ?_; rintro e w1 ⟨rfl, rfl⟩)
      | (go_at_call 16; with_reducible refine (LP.out _).mono ?_; rintro e w1 ⟨rfl, rfl⟩)
      | (go_at_call 16; with_reducible refine (LQ.out _).mono ?_; rintro e w1 ⟨rfl, rfl⟩)
      | (go_at_call 18; with_reducible refine (LS.out _).mono ?_; rintro e w1 ⟨rfl, rfl⟩)
      | (go_at_call 18; with_reducible refine (LX.out _).mono ?_; rintro e w1 ⟨rfl, rfl⟩))
    go_ret
    exact ⟨rfl, hB1⟩

theorem utfPairs_walk (a b r : Int) (wa : (Lit.int .u16 a).wf = true) (wb : (Lit.int .u16 b).wf = true) (_wr : (Lit.int .i32 r).wf = true) (w : World) :
    Calls Try.prog 6 #[.int .u16 a, .int .u16 b, .int .i32 r] w fun e w' => e = .returned (.bool true) ∧ Below w.heap.size w w' := by
  obtain ⟨a1, a2⟩ := bounds_u16 wa
  obtain ⟨b1, b2⟩ := bounds_u16 wb
  obtain ⟨m, rfl⟩ : ∃ m : Nat, a = (m : Int) := ⟨a.toNat, by omega⟩
  obtain ⟨n, rfl⟩ : ∃ m : Nat, b = (m : Int) := ⟨b.toNat, by omega⟩
  by_cases h1 : surN m = 1 ∧ surN n = 2 <;> by_cases h2 : 65536 ≤ r ∧ r ≤ 1114111
  · exact pairs_ok_in m n r (by omega) (by omega) h1 h2 w
  · exact pairs_ok_out m n r (by omega) (by omega) h1 h2 w
  · exact pairs_not_in m n r (by omega) (by omega) h1 h2 w
  · exact pairs_not_out m n r (by omega) (by omega) h1 h2 w

end Go.Proofs.Ytbedanlkkidkkab
