/- Codes of keyed sums: hmac.Truncate, Code; the document's. -/
import Derived.Test.YtbbjoahloghpkaaGreatDoorHmA
import Derived.Test.YtbbjoahloghpkaaGreatDoorFmU
import Derived.Test.YtbbjoahloghpkaaGreatDoorOctX
namespace Go.Proofs.YtbbjoahloghpkaaGreatDoor
open Go Go.RowKit
set_option linter.unusedSimpArgs false
set_option linter.unusedVariables false

/-- Digits of a number, to a width. -/
def decS (n : Nat) : ByteArray := ⟨(Lib.decDigits n).toArray⟩
def textN (n : Nat) (width : Int) : ByteArray := ⟨(padD (Lib.decDigits n) width).toArray⟩
def atN (s : ByteArray) : Nat := (s.data.toList.getD (s.size - 1) 0).toNat % 16
def cutN (s : ByteArray) : Nat := getN (s.extract (atN s) (atN s + 4)).data.toList % 2147483648
def truncS (s : ByteArray) (k : Nat) : ByteArray := textN (cutN s % 10 ^ k) k
def codeS (key : ByteArray) (n : Nat) : ByteArray := truncS (hmacS key (beS n 8)) 6

theorem nDigits_pow : ∀ (k n : Nat), 1 ≤ k → n < 10 ^ k → Lib.nDigits n ≤ k
  | 0, _, h, _ => by omega
  | k + 1, n, _, h => by
    by_cases h10 : n < 10
    · rw [Lib.nDigits_small h10]; omega
    · rw [Lib.nDigits_big h10]
      rw [Nat.pow_succ] at h
      have hk : 1 ≤ k := by
        rcases Nat.eq_zero_or_pos k with rfl | h0
        · simp at h; omega
        · exact h0
      have := nDigits_pow k (n / 10) hk (Nat.div_lt_of_lt_mul (by rw [Nat.mul_comm]; exact h))
      omega
theorem nDigits20 {n : Nat} (h : n < 18446744073709551616) : Lib.nDigits n ≤ 20 := nDigits_pow 20 n (by decide) (Nat.lt_of_lt_of_le h (by decide))
theorem decS_size (n : Nat) : (decS n).size = Lib.nDigits n := by
  show (Lib.decDigits n).toArray.size = _
  simp [Lib.decDigits_length]
theorem textN_size (n k : Nat) (h1 : 1 ≤ k) (hk : k ≤ 9) (h : n < 10 ^ k) : (textN n k).size = k := by
  have := nDigits_pow k n h1 h
  show (padD (Lib.decDigits n) k).toArray.size = k
  simp [padD, Lib.decDigits_length]
  omega
theorem atN_lt (s : ByteArray) : atN s < 16 := Nat.mod_lt _ (by decide)
theorem truncS_size (s : ByteArray) (k : Nat) (h1 : 1 ≤ k) (hk : k ≤ 9) : (truncS s k).size = k :=
  textN_size _ _ h1 hk (Nat.mod_lt _ (Nat.pow_pos (by decide)))
theorem isDig_dec : ∀ n : Nat, isDig (Lib.decDigits n) = true := by
  intro n
  induction n using Nat.strongRecOn with
  | ind n ih =>
    by_cases h : n < 10
    · rw [Lib.decDigits, dif_pos h]
      simp [isDig]
      omega
    · rw [Lib.decDigits, dif_neg h, isDig_append, ih _ (by omega)]
      simp [isDig]
      omega
theorem isDig_rep (k : Nat) : isDig (List.replicate k (48 : UInt8)) = true := by
  simp [isDig]
theorem isNum_text (n k : Nat) (h1 : 1 ≤ k) (hk : k ≤ 9) (h : n < 10 ^ k) : isNum (textN n k).data.toList = true := by
  have hs := textN_size n k h1 hk h
  have hl : (textN n k).data.toList.length = (textN n k).size := by simp
  have he : (textN n k).data.toList.isEmpty = false := by
    rw [List.isEmpty_eq_false_iff]
    intro h0
    rw [h0] at hl
    simp at hl
    omega
  unfold isNum
  rw [he]
  show (isDig (padD (Lib.decDigits n) k) && true) = true
  unfold padD
  rw [isDig_append, isDig_rep, isDig_dec]
  rfl
theorem isNum_code (key : ByteArray) (n : Nat) : isNum (codeS key n).data.toList = true := isNum_text _ 6 (by decide) (by decide) (Nat.mod_lt _ (by decide))

/-- digits.Text of whatever number. -/
theorem digText_any (n : Nat) (hn : n < 18446744073709551616) (width : Int) (w : World) (ht : PowTab w) :
    Calls Tryz.prog 41 #[.int .u64 (n : Nat), .int .i64 width] w fun e w' => e = .returned (.string (textN n width)) ∧ Below w.heap.size w w' :=
  text_of n width (decS n) (by rw [decS_size]; have := nDigits20 hn; omega) w (format_any n hn w ht)

set_option maxRecDepth 100000 in
set_option maxHeartbeats 4000000 in
theorem trunc_any (s : ByteArray) (hs : s.size ≤ 1000000) (h20 : 20 ≤ s.size) (k : Nat) (h1 : 1 ≤ k) (h9 : k ≤ 9) (w : World) (ht : PowTab w) :
    Calls Tryz.prog 26 #[.string s, .int .i64 (k : Nat)] w fun e w' => e = .returned (.tuple #[.string (truncS s k), .int .i64 0]) ∧ Below w.heap.size w w' := by
  have hat := atN_lt s
  obtain ⟨at', hatt⟩ : ∃ a, a = atN s := ⟨_, rfl⟩
  have hx : (s.extract at' (at' + 4)).size = 4 := by rw [ByteArray.size_extract]; omega
  have cG := fun w => get_any (s.extract at' (at' + 4)) w (by omega) (by omega)
  obtain ⟨g, hg⟩ : ∃ g, g = getN (s.extract at' (at' + 4)).data.toList := ⟨_, rfl⟩
  have hg4 : g < 4294967296 := by
    have := getN_lt (s.extract at' (at' + 4)).data.toList
    rw [← hg] at this
    simp only [Array.length_toList, ByteArray.size_data, hx] at this
    simpa using this
  have hc : cutN s = g % 2147483648 := by rw [hg, hatt]; rfl
  simp only [← hg] at cG
  obtain ⟨v, hv⟩ : ∃ v, v = g % 2147483648 := ⟨_, rfl⟩
  have hv31 : v < 2147483648 := by omega
  obtain ⟨l, hl⟩ : ∃ l : Nat, l = (s.data.toList.getD (s.size - 1) 0).toNat := ⟨_, rfl⟩
  have hidx := fun w => run_index_text (P := Tryz.prog) 9 s .i64 (s.size - 1) l Tryz.underlying9 (by omega) (by rw [hl, List.getD_eq_getElem?_getD, List.getElem?_eq_getElem (by simp; omega)]; rfl) w
  have hl16 : (l : Int) % 16 = (at' : Int) := by rw [hatt, hl, atN]; omega
  have hl256 : l < 256 := by rw [hl]; exact UInt8.toNat_lt _
  have hT : truncS s k = textN (v % 10 ^ k) k := by unfold truncS; rw [hc, hv]
  obtain ⟨z, hz⟩ : ∃ z : Nat, s.size - 1 = z := ⟨_, rfl⟩
  have hz1 : (s.size : Int) - 1 = (z : Int) := by omega
  rw [hz] at hidx
  have hand : bits .and .u64 (g : Int) 2147483647 = (v : Int) := by
    rw [u64_and (g : Int) 2147483647 (by omega) (by omega) (by omega) (by omega)]
    have e : (2147483647 : Int).toNat = 2147483647 := rfl
    rw [e, Int.toNat_natCast, hv]
    exact congrArg _ (Nat.and_two_pow_sub_one_eq_mod g 31)
  have cT := fun w ht => digText_any (v % 10 ^ k) (by have := Nat.mod_le v (10 ^ k); omega) k w ht
  have hk1 : ¬ (k : Int) < 1 := by omega
  have hk1' : decide ((k : Int) < 1) = false := decide_eq_false hk1
  have hk9 : ¬ (9 : Int) < (k : Int) := by omega
  have hk9' : decide ((9 : Int) < (k : Int)) = false := decide_eq_false hk9
  have hs20 : ¬ (s.size : Int) < 20 := by omega
  have hs20' : decide ((s.size : Int) < 20) = false := decide_eq_false hs20
  replace cG := hid cG
  replace hT := hid hT
  replace cT := hid cT
  replace ht := hid ht
  clear hatt hg hc hv hl hx
  go_enter Tryz.func26, Tryz.ntmps26
  go_wp2_with (go_at_call 15; refine (cG.out _).mono ?_; rintro e w1 ⟨rfl, rfl⟩)
  go_loop [9, 40] (fun p c => ∃ j : Nat, j ≤ k ∧ c = .int .i64 j ∧ p = .int .u64 (10 ^ j : Nat)) (fun _ c => k - (intOf c).toNat)
  case atStart => exact ⟨0, Nat.zero_le _, rfl, rfl⟩
  case round =>
    obtain ⟨j, hj, rfl, rfl⟩ := hrel
    by_cases hlt : j < k
    · have hp : 10 ^ j ≤ 100000000 := by
        have := Nat.pow_le_pow_right (n := 10) (by decide) (show j ≤ 8 by omega)
        simpa using this
      have hst := hid (Nat.pow_succ 10 j)
      obtain ⟨q, hq⟩ : ∃ q, q = 10 ^ j := ⟨_, rfl⟩
      rw [← hq] at hp hst ⊢
      clear hq
      go_wp2
      go_round
      case rel => exact ⟨j + 1, by omega, by go_num, by rw [hst.out]; go_num⟩
      case measure => simp [intOf]; omega
    · obtain rfl : j = k := by omega
      have hp0 : 0 < 10 ^ j := Nat.pow_pos (by decide)
      obtain ⟨q, hq⟩ : ∃ q, q = 10 ^ j := ⟨_, rfl⟩
      rw [← hq] at hp0 cT hT ⊢
      clear hq
      have hq0 : ((q : Int) == 0) = false := by rw [beq_eq_false_iff_ne]; omega
      have hq1 : ¬ ((q : Int) = 0) := by omega
      obtain ⟨r, hr⟩ : ∃ r, r = v % q := ⟨_, rfl⟩
      have hri : (v : Int) % (q : Int) = (r : Int) := by rw [hr]; rfl
      rw [← hr] at cT hT
      clear hr
      go_wp2_with (go_at_call 41; refine (cT.out _ ht.out).mono ?_; rintro e w1 ⟨rfl, hB⟩)
      go_ret2
      exact ⟨by rw [hT.out]; rfl, hB⟩

set_option maxRecDepth 100000 in
set_option maxHeartbeats 4000000 in
theorem trunc_arg (s : ByteArray) (z : Int) (hz : z < 1 ∨ 9 < z) (w : World) :
    Calls Tryz.prog 26 #[.string s, .int .i64 z] w fun e w' => e = .returned (.tuple #[.string ⟨#[]⟩, .int .i64 2]) ∧ w = w' := by
  go_enter Tryz.func26, Tryz.ntmps26
  by_cases h1 : z < 1
  · have h1' : decide (z < 1) = true := decide_eq_true h1
    go_wp2
    go_ret2
    exact ⟨rfl, rfl⟩
  · have h1' : decide (z < 1) = false := decide_eq_false h1
    have h9 : 9 < z := by omega
    have h9' : decide (9 < z) = true := decide_eq_true h9
    go_wp2
    go_ret2
    exact ⟨rfl, rfl⟩

set_option maxRecDepth 100000 in
set_option maxHeartbeats 4000000 in
theorem trunc_short (s : ByteArray) (z : Int) (h1 : 1 ≤ z) (h9 : z ≤ 9) (hs : s.size < 20) (w : World) :
    Calls Tryz.prog 26 #[.string s, .int .i64 z] w fun e w' => e = .returned (.tuple #[.string ⟨#[]⟩, .int .i64 3]) ∧ w = w' := by
  have hk1 : ¬ z < 1 := by omega
  have hk1' : decide (z < 1) = false := decide_eq_false hk1
  have hk9 : ¬ 9 < z := by omega
  have hk9' : decide (9 < z) = false := decide_eq_false hk9
  have hs20 : (s.size : Int) < 20 := by omega
  have hs20' : decide ((s.size : Int) < 20) = true := decide_eq_true hs20
  go_enter Tryz.func26, Tryz.ntmps26
  go_wp2
  go_ret2
  exact ⟨rfl, rfl⟩

set_option maxRecDepth 100000 in
set_option maxHeartbeats 4000000 in
theorem code_any (key : ByteArray) (hk : key.size ≤ 1000000) (n : Nat) (w : World) (ht : PowTab w) :
    Calls Tryz.prog 17 #[.string key, .int .u64 (n : Nat)] w fun e w' => e = .returned (.string (codeS key n)) ∧ Below w.heap.size w w' := by
  have cP := fun w => put_any n 8 w
  rw [show clip8 8 = 8 by decide] at cP
  have hb := beS_size n 8
  have cH := fun w => hsum_one key (beS n 8) hk (by omega) w
  have hH := hmacS_size key (beS n 8)
  have cT := fun w ht => trunc_any (hmacS key (beS n 8)) (by omega) (by omega) 6 (by decide) (by decide) w ht
  have hc : codeS key n = truncS (hmacS key (beS n 8)) 6 := rfl
  rw [← hc] at cT
  obtain ⟨H, hHH⟩ : ∃ H, H = hmacS key (beS n 8) := ⟨_, rfl⟩
  simp only [← hHH] at cH cT
  obtain ⟨b, hbb⟩ : ∃ b, b = beS n 8 := ⟨_, rfl⟩
  simp only [← hbb] at cP cH
  clear hb hH hc hHH hbb
  replace cP := hid cP
  replace cH := hid cH
  replace cT := hid cT
  replace ht := hid ht
  go_enter Tryz.func17, Tryz.ntmps17
  go_wp2_with (first
    | (go_at_call 28; refine (cP.out _).mono ?_; rintro e w1 ⟨rfl, hB1⟩)
    | (go_at_call 27; refine (cH.out _).mono ?_; rintro e w2 ⟨rfl, hB2⟩)
    | (go_at_call 26; refine (cT.out _ (ht.out.below (below_cat hB2 hB1))).mono ?_; rintro e w3 ⟨rfl, hB3⟩))
  go_ret
  exact ⟨rfl, below_cat hB3 (below_cat hB2 hB1)⟩
end Go.Proofs.YtbbjoahloghpkaaGreatDoor
