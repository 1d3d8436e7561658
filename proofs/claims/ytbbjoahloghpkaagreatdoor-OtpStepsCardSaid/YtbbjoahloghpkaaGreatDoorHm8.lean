/- The document's digits of sums (Dec, Text, Truncate, Code); the law HmacCodes. -/
import Derived.Test.YtbbjoahloghpkaaGreatDoorHm7
namespace Go.Proofs.YtbbjoahloghpkaaGreatDoor
open Go Go.RowKit
set_option linter.unusedSimpArgs false
set_option linter.unusedVariables false

theorem dec_round (n m : Nat) (s : ByteArray) (h : Lib.decDigits n = Lib.decDigits m ++ s.data.toList) (h10 : ¬ m < 10) :
    Lib.decDigits n = Lib.decDigits (m / 10) ++ ((⟨#[UInt8.ofNat (48 + m % 10)]⟩ : ByteArray) ++ s).data.toList := by
  rw [h, Lib.decDigits, dif_neg h10]
  simp
theorem dec_last (n m : Nat) (s : ByteArray) (h : Lib.decDigits n = Lib.decDigits m ++ s.data.toList) (h10 : m < 10) :
    (⟨#[UInt8.ofNat (48 + m % 10)]⟩ : ByteArray) ++ s = decS n := by
  apply ByteArray.ext; apply Array.ext'
  show _ = Lib.decDigits n
  rw [h, Lib.decDigits, dif_pos h10, Nat.mod_eq_of_lt h10]
  simp

set_option maxRecDepth 100000 in
set_option maxHeartbeats 4000000 in
theorem refDec_any (n : Nat) (hn : n < 18446744073709551616) (w : World) :
    Calls Tryz.prog 60 #[.int .u64 (n : Nat)] w fun e w' => e = .returned (.string (decS n)) ∧ Below w.heap.size w w' := by
  have hnd := nDigits20 hn
  go_enter Tryz.func60, Tryz.ntmps60
  go_wp2
  go_loopw [0, 3] (fun p q wr => ∃ (m : Nat) (s : ByteArray), p = .int .u64 m ∧ q = .string s ∧ m < 18446744073709551616 ∧ Hid (Lib.decDigits n = Lib.decDigits m ++ s.data.toList) ∧ Hid (Below w.heap.size w wr)) (fun p _ _ => (intOf p).toNat)
  case atStart => exact ⟨n, ⟨#[]⟩, rfl, rfl, hn, hid (by simp), hid (Below.refl _ _)⟩
  case round =>
    obtain ⟨m, s, rfl, rfl, hm, hD, hB⟩ := hrel
    have hsz : s.size ≤ 20 := by
      have h1 := congrArg List.length hD.out
      rw [List.length_append, Lib.decDigits_length] at h1
      have h2 : s.data.toList.length = s.size := by simp
      omega
    have hcv := conv_one (P := Tryz.prog) 45 9 5 Tryz.underlying45 Tryz.underlying5 Tryz.underlying9 (48 + (m : Int) % 10) wr
    have he : (48 + (m : Int) % 10).toNat = 48 + m % 10 := by omega
    rw [he] at hcv
    obtain ⟨one, hone⟩ : ∃ z : ByteArray, z = ⟨#[UInt8.ofNat (48 + m % 10)]⟩ := ⟨_, rfl⟩
    have hone1 : one.size = 1 := by rw [hone]; rfl
    rw [← hone] at hcv
    have hcat : ¬ 9223372036854775807 < one.size + s.size := by omega
    by_cases h10 : m < 10
    · have hl := dec_last n m s hD.out h10
      rw [← hone] at hl
      have hq : (m : Int) / 10 = 0 := by omega
      replace hD := hid hD
      clear hone he hnd
      go_wp2
      go_ret
      exact ⟨rfl, below_al hB.out _⟩
    · have hr := hid (dec_round n m s hD.out h10)
      rw [← hone] at hr
      have hq : ¬ (m : Int) / 10 = 0 := by omega
      have hq' : ((m : Int) / 10 == 0) = false := by rw [beq_eq_false_iff_ne]; exact hq
      have hb := hid (below_al hB.out (.cells #[.int .u8 (48 + (m : Int) % 10)] 5))
      clear hone he hD hB hnd
      go_wp2
      go_roundw
      case rel => exact ⟨m / 10, one ++ s, by go_num, rfl, by omega, hr, hb⟩
      case measure => simp [intOf]; omega

def strZ : Value → Nat
  | .string s => s.size
  | _ => 0
theorem pad_zero (L : List UInt8) : (⟨(List.replicate 0 (48 : UInt8) ++ L).toArray⟩ : ByteArray) = ⟨L.toArray⟩ := by simp
theorem pad_succ (L : List UInt8) (j : Nat) : (⟨#[48]⟩ : ByteArray) ++ ⟨(List.replicate j (48 : UInt8) ++ L).toArray⟩ = ⟨(List.replicate (j + 1) (48 : UInt8) ++ L).toArray⟩ := by
  apply ByteArray.ext; apply Array.ext'
  simp [List.replicate_succ]

set_option maxRecDepth 100000 in
set_option maxHeartbeats 4000000 in
theorem refDText_any (n : Nat) (hn : n < 18446744073709551616) (width : Int) (w : World) :
    Calls Tryz.prog 43 #[.int .u64 (n : Nat), .int .i64 width] w fun e w' => e = .returned (.string (textN n width)) ∧ Below w.heap.size w w' := by
  have hnd := nDigits20 hn
  have cD := fun w => refDec_any n hn w
  obtain ⟨L, hL⟩ : ∃ L, L = Lib.decDigits n := ⟨_, rfl⟩
  have hLl : L.length ≤ 20 := by rw [hL, Lib.decDigits_length]; exact hnd
  have hd : decS n = ⟨L.toArray⟩ := by rw [hL]; rfl
  have ht : textN n width = ⟨(List.replicate ((min (max width 0) 40).toNat - L.length) 48 ++ L).toArray⟩ := by rw [hL]; rfl
  simp only [hd] at cD
  rw [← pad_zero] at cD
  obtain ⟨m, hm⟩ : ∃ m : Nat, m = (min (max width 0) 40).toNat := ⟨_, rfl⟩
  rw [← hm] at ht
  have hm40 : m ≤ 40 := by omega
  have hml : ∀ j : Nat, j < m ↔ (j : Int) < width ∧ (j : Int) < 40 := by intro j; omega
  obtain ⟨F, hF⟩ : ∃ F : Nat → ByteArray, F = fun j => ⟨(List.replicate j (48 : UInt8) ++ L).toArray⟩ := ⟨_, rfl⟩
  have hFs : ∀ j, (F j).size = j + L.length := fun j => by
    rw [hF]; show (List.replicate j (48 : UInt8) ++ L).toArray.size = _
    simp
  have hF1 : ∀ j, (⟨#[48]⟩ : ByteArray) ++ F j = F (j + 1) := fun j => by rw [hF]; exact pad_succ L j
  have hF0 : (⟨(List.replicate 0 (48 : UInt8) ++ L).toArray⟩ : ByteArray) = F 0 := by rw [hF]
  have ht' : textN n width = F (m - L.length) := by rw [ht, hF]
  rw [hF0] at cD
  obtain ⟨l, hl⟩ : ∃ l, l = L.length := ⟨_, rfl⟩
  rw [← hl] at ht' hLl
  simp only [← hl] at hFs
  replace cD := hid cD
  replace hF1 := hid hF1
  replace ht' := hid ht'
  replace hFs := hid hFs
  replace hml := hid hml
  clear hF hF0 hL hd ht hm hl hnd
  go_enter Tryz.func43, Tryz.ntmps43
  go_wp2_with (go_at_call 60; refine (cD.out _).mono ?_; rintro e w1 ⟨rfl, hB⟩)
  replace hB := hid hB
  go_loopw [5] (fun p wr => ∃ j : Nat, j ≤ m - l ∧ p = .string (F j) ∧ wr = w1) (fun p _ => 60 - strZ p)
  case atStart => exact ⟨0, Nat.zero_le _, rfl, rfl⟩
  case round =>
    obtain ⟨j, hj, rfl, rfl⟩ := hrel
    have hz := hFs.out j
    obtain ⟨S, hS⟩ : ∃ S, S = F j := ⟨_, rfl⟩
    rw [← hS] at hz ⊢
    by_cases hlt : j < m - l
    · have h1 := (hml.out (j + l)).1 (by omega)
      have h2 : (S.size : Int) < width := by omega
      have h2' : decide ((S.size : Int) < width) = true := decide_eq_true h2
      have h3 : (S.size : Int) < 40 := by omega
      have h3' : decide ((S.size : Int) < 40) = true := decide_eq_true h3
      have hn1 := hF1.out j
      rw [← hS] at hn1
      have hcat : ¬ 9223372036854775807 < 1 + S.size := by omega
      have hcat2 : ¬ 9223372036854775807 < (⟨#[48]⟩ : ByteArray).size + S.size := by show ¬ 9223372036854775807 < 1 + S.size; omega
      have hz2 := hFs.out (j + 1)
      rw [show j + 1 + l = S.size + 1 by omega] at hz2
      have hS40 : S.size < 40 := by omega
      clear hS hz
      go_wp2
      go_roundw
      case rel => exact ⟨j + 1, by omega, rfl, by first | rfl | trivial⟩
      case measure => simp [strZ]; omega
    · have hjm : j = m - l := by omega
      have hres := ht'.out
      rw [← hjm, ← hS] at hres
      by_cases h2 : (S.size : Int) < width
      · have h2' : decide ((S.size : Int) < width) = true := decide_eq_true h2
        have h3 : ¬ (S.size : Int) < 40 := fun h => by
          have := (hml.out (j + l)).2 ⟨by omega, by omega⟩
          omega
        have h3' : decide ((S.size : Int) < 40) = false := decide_eq_false h3
        clear hS hj hjm hz
        replace hres := hid hres
        go_wp2
        go_ret
        exact ⟨by rw [hres.out]; rfl, hB.out⟩
      · have h2' : decide ((S.size : Int) < width) = false := decide_eq_false h2
        clear hS hj hjm hz
        replace hres := hid hres
        go_wp2
        go_ret
        exact ⟨by rw [hres.out]; rfl, hB.out⟩

set_option maxRecDepth 100000 in
set_option maxHeartbeats 4000000 in
theorem refTrunc_any (s : ByteArray) (hs : s.size ≤ 1000000) (h20 : 20 ≤ s.size) (k : Nat) (h1 : 1 ≤ k) (h9 : k ≤ 9) (w : World) :
    Calls Tryz.prog 29 #[.string s, .int .i64 (k : Nat)] w fun e w' => e = .returned (.string (truncS s k)) ∧ Below w.heap.size w w' := by
  have hat := atN_lt s
  obtain ⟨at', hatt⟩ : ∃ a, a = atN s := ⟨_, rfl⟩
  have hx : (s.extract at' (at' + 4)).size = 4 := by rw [ByteArray.size_extract]; omega
  have cG := fun w => rget_any (s.extract at' (at' + 4)) w (by omega)
  obtain ⟨g, hg⟩ : ∃ g, g = getN (s.extract at' (at' + 4)).data.toList := ⟨_, rfl⟩
  have hg4 : g < 4294967296 := by
    have := getN_lt (s.extract at' (at' + 4)).data.toList
    rw [← hg] at this
    simp only [Array.length_toList, ByteArray.size_data, hx] at this
    simpa using this
  have hc : cutN s = g % 2147483648 := by rw [hg, hatt]; rfl
  simp only [← hg] at cG
  obtain ⟨v, hv⟩ : ∃ v, v = g % 2147483648 := ⟨_, rfl⟩
  have hv31 : v < 2147483648 := by omega
  obtain ⟨l, hl⟩ : ∃ l : Nat, l = (s.data.toList.getD (s.size - 1) 0).toNat := ⟨_, rfl⟩
  have hidx := fun w => run_index_text (P := Tryz.prog) 9 s .i64 (s.size - 1) l Tryz.underlying9 (by omega) (by rw [hl, List.getD_eq_getElem?_getD, List.getElem?_eq_getElem (by simp; omega)]; rfl) w
  have hl16 : (l : Int) % 16 = (at' : Int) := by rw [hatt, hl, atN]; omega
  have hl256 : l < 256 := by rw [hl]; exact UInt8.toNat_lt _
  have hT : truncS s k = textN (v % 10 ^ k) k := by unfold truncS; rw [hc, hv]
  obtain ⟨z, hz⟩ : ∃ z : Nat, s.size - 1 = z := ⟨_, rfl⟩
  have hz1 : (s.size : Int) - 1 = (z : Int) := by omega
  rw [hz] at hidx
  have hand : (g : Int) % 2147483648 = (v : Int) := by omega
  have cT := fun w => refDText_any (v % 10 ^ k) (by have := Nat.mod_le v (10 ^ k); omega) k w
  replace cG := hid cG
  replace hT := hid hT
  replace cT := hid cT
  clear hatt hg hc hv hl hx
  go_enter Tryz.func29, Tryz.ntmps29
  go_wp2_with (go_at_call 19; refine (cG.out _).mono ?_; rintro e w1 ⟨rfl, rfl⟩)
  go_loop [7, 8] (fun p c => ∃ j : Nat, j ≤ k ∧ c = .int .i64 j ∧ p = .int .u64 (10 ^ j : Nat)) (fun _ c => k - (intOf c).toNat)
  case atStart => exact ⟨0, Nat.zero_le _, rfl, rfl⟩
  case round =>
    obtain ⟨j, hj, rfl, rfl⟩ := hrel
    by_cases hlt : j < k
    · have hp : 10 ^ j ≤ 100000000 := by
        have := Nat.pow_le_pow_right (n := 10) (by decide) (show j ≤ 8 by omega)
        simpa using this
      have hst := hid (Nat.pow_succ 10 j)
      obtain ⟨q, hq⟩ : ∃ q, q = 10 ^ j := ⟨_, rfl⟩
      rw [← hq] at hp hst ⊢
      clear hq
      go_wp2
      go_round
      case rel => exact ⟨j + 1, by omega, by go_num, by rw [hst.out]; go_num⟩
      case measure => simp [intOf]; omega
    · obtain rfl : j = k := by omega
      have hp0 : 0 < 10 ^ j := Nat.pow_pos (by decide)
      obtain ⟨q, hq⟩ : ∃ q, q = 10 ^ j := ⟨_, rfl⟩
      rw [← hq] at hp0 cT hT ⊢
      clear hq
      have hq0 : ((q : Int) == 0) = false := by rw [beq_eq_false_iff_ne]; omega
      have hq1 : ¬ ((q : Int) = 0) := by omega
      obtain ⟨r, hr⟩ : ∃ r, r = v % q := ⟨_, rfl⟩
      have hri : (v : Int) % (q : Int) = (r : Int) := by rw [hr]; rfl
      rw [← hr] at cT hT
      clear hr
      go_wp2_with (go_at_call 43; refine (cT.out _).mono ?_; rintro e w1 ⟨rfl, hB⟩)
      go_ret
      exact ⟨by rw [hT.out]; rfl, hB⟩

set_option maxRecDepth 100000 in
set_option maxHeartbeats 4000000 in
theorem refCode_any (key : ByteArray) (hk : key.size ≤ 1000000) (n : Nat) (hn : n < 18446744073709551616) (w : World) :
    Calls Tryz.prog 18 #[.string key, .int .u64 (n : Nat)] w fun e w' => e = .returned (.string (codeS key n)) ∧ Below w.heap.size w w' := by
  have cP := fun w => rput_any n 8 w hn
  rw [show clip8 8 = 8 by decide] at cP
  have hb := beS_size n 8
  have cH := fun w => refHmac_any key (beS n 8) hk (by omega) w
  have hH := hmacS_size key (beS n 8)
  have cT := fun w => refTrunc_any (hmacS key (beS n 8)) (by omega) (by omega) 6 (by decide) (by decide) w
  have hc : codeS key n = truncS (hmacS key (beS n 8)) 6 := rfl
  rw [← hc] at cT
  obtain ⟨H, hHH⟩ : ∃ H, H = hmacS key (beS n 8) := ⟨_, rfl⟩
  simp only [← hHH] at cH cT
  obtain ⟨b, hbb⟩ : ∃ b, b = beS n 8 := ⟨_, rfl⟩
  simp only [← hbb] at cP cH
  clear hb hH hc hHH hbb
  replace cP := hid cP
  replace cH := hid cH
  replace cT := hid cT
  go_enter Tryz.func18, Tryz.ntmps18
  go_wp2_with (first
    | (go_at_call 31; refine (cP.out _).mono ?_; rintro e w1 ⟨rfl, hB1⟩)
    | (go_at_call 30; refine (cH.out _).mono ?_; rintro e w2 ⟨rfl, hB2⟩)
    | (go_at_call 29; refine (cT.out _).mono ?_; rintro e w3 ⟨rfl, hB3⟩))
  go_ret
  exact ⟨rfl, below_cat hB3 (below_cat hB2 hB1)⟩

end Go.Proofs.YtbbjoahloghpkaaGreatDoor
