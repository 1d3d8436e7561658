/- awake; Surrogate, Pair, Split. -/
import Derived.Test.YtbedanlkkidkkabUtf5
import Derived.Laws.DeepBits32
namespace Go.Proofs.Ytbedanlkkidkkab
open Go Go.RowKit
set_option linter.unusedSimpArgs false

theorem i32_and10 (x : Int) (h0 : 0 ≤ x) (h1 : x < 2147483648) : bits .and .i32 x 1023 = x % 1024 := by
  obtain ⟨n, rfl⟩ : ∃ n : Nat, x = (n : Int) := ⟨x.toNat, by omega⟩
  show IntKind.i32.wrap ((BitVec.ofInt 32 (n : Int) &&& BitVec.ofInt 32 1023).toNat : Int) = _
  have h1 : (BitVec.ofInt 32 1023).toNat = 1023 := by decide
  rw [BitVec.toNat_and, ofInt_u32 n (by omega), h1, nat_mask10]
  rw [wrap_i32_small _ (by omega) (by omega)]
  omega

theorem put_euro : putS 8364 = ⟨#[226, 130, 172]⟩ := by kernel_rfl
theorem count_euro : (runesN [226, 130, 172]).length = 1 := by kernel_rfl

theorem awake_any (w : World) : Calls Try.prog 7 #[] w fun e w' => e = .returned (.bool true) ∧ Below w.heap.size w w' := by
  have L1 := fun w => put_rune 8364 w
  have L2 := fun w => count_any ⟨#[226, 130, 172]⟩ (by decide) w
  rw [put_euro] at L1
  simp only [count_euro] at L2
  replace L1 := hid L1
  replace L2 := hid L2
  go_enter Try.func7, Try.ntmps7
  go_wp2_with (first | (go_at_call 13; refine (L1.out _).mono ?_; rintro e w1 ⟨rfl, hB1⟩) | (go_at_call 10; refine (L2.out _).mono ?_; rintro e w1 ⟨rfl, hB2⟩))
  go_ret
  exact ⟨rfl, by repeat (first | assumption | apply below_cat)⟩

theorem ret_pair {a b : Int} (h : a = b) : Ending.returned (.tuple #[.int .i32 a, .bool true]) = .returned (.tuple #[.int .i32 b, .bool true]) := by rw [h]
theorem ret_split {a b c d : Int} (h : a = b) (h' : c = d) : Ending.returned (.tuple #[.int .u16 a, .int .u16 c, .bool true]) = .returned (.tuple #[.int .u16 b, .int .u16 d, .bool true]) := by rw [h, h']

def surN (a : Nat) : Nat := if 55296 ≤ a ∧ a < 56320 then 1 else if 56320 ≤ a ∧ a ≤ 57343 then 2 else 0
theorem surrogate_any (a : Nat) (ha : a < 65536) (w : World) : Calls Try.prog 17 #[.int .u16 a] w fun e w' => e = .returned (.int .i64 (surN a : Nat)) ∧ w = w' := by
  by_cases h1 : 55296 ≤ a
  · have d1 : decide ((55296 : Int) ≤ (a : Int)) = true := by simp; omega
    by_cases h2 : a < 56320
    · have d2 : decide ((a : Int) < 56320) = true := by simp; omega
      have hv : surN a = 1 := by rw [surN, if_pos ⟨h1, h2⟩]
      rw [hv]
      go_enter Try.func17, Try.ntmps17
      go_wp2
      go_ret
      exact ⟨rfl, rfl⟩
    · have d2 : decide ((a : Int) < 56320) = false := by simp; omega
      have d3 : decide ((56320 : Int) ≤ (a : Int)) = true := by simp; omega
      by_cases h4 : a ≤ 57343
      · have d4 : decide ((a : Int) ≤ 57343) = true := by simp; omega
        have hv : surN a = 2 := by rw [surN, if_neg (by omega), if_pos (by omega)]
        rw [hv]
        go_enter Try.func17, Try.ntmps17
        go_wp2
        go_ret
        exact ⟨rfl, rfl⟩
      · have d4 : decide ((a : Int) ≤ 57343) = false := by simp; omega
        have hv : surN a = 0 := by rw [surN, if_neg (by omega), if_neg (by omega)]
        rw [hv]
        go_enter Try.func17, Try.ntmps17
        go_wp2
        go_ret
        exact ⟨rfl, rfl⟩
  · have d1 : decide ((55296 : Int) ≤ (a : Int)) = false := by simp; omega
    have d3 : decide ((56320 : Int) ≤ (a : Int)) = false := by simp; omega
    have hv : surN a = 0 := by rw [surN, if_neg (by omega), if_neg (by omega)]
    rw [hv]
    go_enter Try.func17, Try.ntmps17
    go_wp2
    go_ret
    exact ⟨rfl, rfl⟩

def pairV (a b : Nat) : Value := if surN a = 1 ∧ surN b = 2 then .tuple #[.int .i32 ((a - 55296) * 1024 + (b - 56320) + 65536 : Nat), .bool true] else .tuple #[.int .i32 0, .bool false]
theorem sur1 {a : Nat} (h : surN a = 1) : 55296 ≤ a ∧ a < 56320 := by
  unfold surN at h; split at h
  · assumption
  · split at h <;> simp at h
theorem sur2 {a : Nat} (h : surN a = 2) : 56320 ≤ a ∧ a ≤ 57343 := by
  unfold surN at h; split at h
  · simp at h
  · split at h
    · assumption
    · simp at h
theorem pair_any (a b : Nat) (ha : a < 65536) (hb : b < 65536) (w : World) : Calls Try.prog 16 #[.int .u16 a, .int .u16 b] w fun e w' => e = .returned (pairV a b) ∧ w = w' := by
  have LA := fun w => surrogate_any a ha w
  have LB := fun w => surrogate_any b hb w
  obtain ⟨sa, hsa⟩ : ∃ x, x = surN a := ⟨_, rfl⟩
  obtain ⟨sb, hsb⟩ : ∃ x, x = surN b := ⟨_, rfl⟩
  rw [← hsa] at LA
  rw [← hsb] at LB
  replace LA := hid LA
  replace LB := hid LB
  by_cases h1 : sa = 1
  · by_cases h2 : sb = 2
    · have hv : pairV a b = .tuple #[.int .i32 ((a - 55296) * 1024 + (b - 56320) + 65536 : Nat), .bool true] := by rw [pairV, if_pos ⟨by omega, by omega⟩]
      rw [hv]
      have ra := sur1 (hsa.symm.trans h1)
      have rb := sur2 (hsb.symm.trans h2)
      subst h1 h2
      obtain ⟨ra1, ra2⟩ := ra
      obtain ⟨rb1, rb2⟩ := rb
      clear hsa hsb hv
      go_enter Try.func16, Try.ntmps16
      go_wp2_with (first | (go_at_call 17; with_reducible refine (LA.out _).mono ?_; rintro e w1 ⟨rfl, rfl⟩) | (go_at_call 17; with_reducible refine (LB.out _).mono ?_; rintro e w1 ⟨rfl, rfl⟩))
      go_ret2
      exact ⟨ret_pair (by omega), rfl⟩
    · have hv : pairV a b = .tuple #[.int .i32 0, .bool false] := by rw [pairV, if_neg (fun h => h2 (hsb.trans h.2))]
      rw [hv]
      have hn : ((sb : Int) != 2) = true := by simp; omega
      subst h1
      clear hsa hsb hv
      go_enter Try.func16, Try.ntmps16
      go_wp2_with (first | (go_at_call 17; with_reducible refine (LA.out _).mono ?_; rintro e w1 ⟨rfl, rfl⟩) | (go_at_call 17; with_reducible refine (LB.out _).mono ?_; rintro e w1 ⟨rfl, rfl⟩))
      go_ret2
      exact ⟨rfl, rfl⟩
  · have hv : pairV a b = .tuple #[.int .i32 0, .bool false] := by rw [pairV, if_neg (fun h => h1 (hsa.trans h.1))]
    rw [hv]
    have hn : ((sa : Int) != 1) = true := by simp; omega
    clear hsa hsb hv
    go_enter Try.func16, Try.ntmps16
    go_wp2_with (first | (go_at_call 17; with_reducible refine (LA.out _).mono ?_; rintro e w1 ⟨rfl, rfl⟩) | (go_at_call 17; with_reducible refine (LB.out _).mono ?_; rintro e w1 ⟨rfl, rfl⟩))
    go_ret2
    exact ⟨rfl, rfl⟩

def splitV (r : Int) : Value := if 65536 ≤ r ∧ r ≤ 1114111 then .tuple #[.int .u16 (55296 + (r.toNat - 65536) / 1024 : Nat), .int .u16 (56320 + (r.toNat - 65536) % 1024 : Nat), .bool true] else .tuple #[.int .u16 0, .int .u16 0, .bool false]
theorem split_any (r : Int) (w : World) : Calls Try.prog 18 #[.int .i32 r] w fun e w' => e = .returned (splitV r) ∧ w = w' := by
  by_cases h1 : 65536 ≤ r
  · by_cases h2 : r ≤ 1114111
    · have hv : splitV r = .tuple #[.int .u16 (55296 + (r.toNat - 65536) / 1024 : Nat), .int .u16 (56320 + (r.toNat - 65536) % 1024 : Nat), .bool true] := by
        rw [splitV, if_pos ⟨h1, h2⟩]
      rw [hv]
      have d1 : decide (r < 65536) = false := by simp; omega
      have d2 : decide ((1114111 : Int) < r) = false := by simp; omega
      have e1 : bits .and .i32 (r - 65536) 1023 = (r - 65536) % 1024 := i32_and10 _ (by omega) (by omega)
      clear hv
      go_enter Try.func18, Try.ntmps18
      go_wp2
      go_ret3
      exact ⟨ret_split (by omega) (by omega), rfl⟩
    · have hv : splitV r = .tuple #[.int .u16 0, .int .u16 0, .bool false] := by rw [splitV, if_neg (by omega)]
      rw [hv]
      have d1 : decide (r < 65536) = false := by simp; omega
      have d2 : decide ((1114111 : Int) < r) = true := by simp; omega
      go_enter Try.func18, Try.ntmps18
      go_wp2
      go_ret3
      exact ⟨rfl, rfl⟩
  · have hv : splitV r = .tuple #[.int .u16 0, .int .u16 0, .bool false] := by rw [splitV, if_neg (by omega)]
    rw [hv]
    have d1 : decide (r < 65536) = true := by simp; omega
    go_enter Try.func18, Try.ntmps18
    go_wp2
    go_ret3
    exact ⟨rfl, rfl⟩

end Go.Proofs.Ytbedanlkkidkkab
