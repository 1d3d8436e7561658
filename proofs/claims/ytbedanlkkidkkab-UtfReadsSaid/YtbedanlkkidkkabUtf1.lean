/- The walks of point, size, lead, first. -/
import Derived.Test.YtbedanlkkidkkabProg
import Derived.Test.YtbedanlkkidkkabUtf0
namespace Go.Proofs.Ytbedanlkkidkkab
open Go Go.RowKit
set_option linter.unusedSimpArgs false

set_option maxHeartbeats 1000000 in
theorem point_any (r : Int) (w : World) : Calls Try.prog 23 #[.int .i32 r] w fun e w' => e = .returned (.bool (isPoint r)) ∧ w = w' := by
  by_cases h0 : 0 ≤ r
  · by_cases h1 : r ≤ 1114111
    · by_cases h2 : r < 55296
      · have hv : isPoint r = true := by simp [isPoint, h0, h1, h2]
        rw [hv]
        go_enter Try.func23, Try.ntmps23
        go_wp2
        go_ret
        exact ⟨rfl, rfl⟩
      · by_cases h3 : 57343 < r
        · have hv : isPoint r = true := by simp [isPoint, h0, h1, h2, h3]
          rw [hv]
          go_enter Try.func23, Try.ntmps23
          go_wp2
          go_ret
          exact ⟨rfl, rfl⟩
        · have hv : isPoint r = false := by simp [isPoint, h0, h1, h2, h3]
          rw [hv]
          go_enter Try.func23, Try.ntmps23
          go_wp2
          go_ret
          exact ⟨rfl, rfl⟩
    · have hv : isPoint r = false := by simp [isPoint, h0, h1]
      rw [hv]
      go_enter Try.func23, Try.ntmps23
      go_wp2
      go_ret
      exact ⟨rfl, rfl⟩
  · have hv : isPoint r = false := by simp [isPoint, h0]
    rw [hv]
    go_enter Try.func23, Try.ntmps23
    go_wp2
    go_ret
    exact ⟨rfl, rfl⟩

set_option maxHeartbeats 1000000 in
theorem size_any (r : Int) (w : World) : Calls Try.prog 22 #[.int .i32 r] w fun e w' => e = .returned (.int .i64 (sizeN r : Nat)) ∧ w = w' := by
  by_cases h1 : r < 128
  · have hv : sizeN r = 1 := by simp [sizeN, h1]
    rw [hv]
    go_enter Try.func22, Try.ntmps22
    go_wp2
    go_ret
    exact ⟨rfl, rfl⟩
  · by_cases h2 : r < 2048
    · have hv : sizeN r = 2 := by simp [sizeN, h1, h2]
      rw [hv]
      go_enter Try.func22, Try.ntmps22
      go_wp2
      go_ret
      exact ⟨rfl, rfl⟩
    · by_cases h3 : r < 65536
      · have hv : sizeN r = 3 := by simp [sizeN, h1, h2, h3]
        rw [hv]
        go_enter Try.func22, Try.ntmps22
        go_wp2
        go_ret
        exact ⟨rfl, rfl⟩
      · have hv : sizeN r = 4 := by simp [sizeN, h1, h2, h3]
        rw [hv]
        go_enter Try.func22, Try.ntmps22
        go_wp2
        go_ret
        exact ⟨rfl, rfl⟩

set_option maxRecDepth 100000 in
set_option maxHeartbeats 1000000 in
theorem lead_any (b : Nat) (hb : b < 256) (w : World) : Calls Try.prog 24 #[.int .u8 (b : Int)] w fun e w' => e = .returned (.tuple #[.int .i64 ((leadN b).1 : Nat), .int .i32 ((leadN b).2 : Nat)]) ∧ w = w' := by
  have m1 := u8_and31 (x := (b : Int)) (by omega) (by omega)
  have m2 := u8_and15 (x := (b : Int)) (by omega) (by omega)
  have m3 := u8_and7 (x := (b : Int)) (by omega) (by omega)
  by_cases h1 : b < 128
  · have hv : leadN b = (1, b) := by simp [leadN, h1]
    rw [hv]
    go_enter Try.func24, Try.ntmps24
    go_wp2
    go_ret2
    exact ⟨ret_int2 rfl (by omega), rfl⟩
  · by_cases h2 : 192 ≤ b ∧ b < 224
    · have hv : leadN b = (2, b % 32) := by simp [leadN, h1, h2]
      rw [hv]
      obtain ⟨h3, h4⟩ := h2
      clear m2 m3
      go_enter Try.func24, Try.ntmps24
      go_wp2
      go_ret2
      exact ⟨ret_int2 rfl (by omega), rfl⟩
    · by_cases h3 : 224 ≤ b ∧ b < 240
      · have hv : leadN b = (3, b % 16) := by simp [leadN, h1, h2, h3]
        rw [hv]
        obtain ⟨h4, h5⟩ := h3
        clear m1 m3 h2
        go_enter Try.func24, Try.ntmps24
        go_wp2
        go_ret2
        exact ⟨ret_int2 rfl (by omega), rfl⟩
      · by_cases h4 : 240 ≤ b ∧ b < 248
        · have hv : leadN b = (4, b % 8) := by simp [leadN, h1, h2, h3, h4]
          rw [hv]
          obtain ⟨h5, h6⟩ := h4
          clear m1 m2 h2 h3
          go_enter Try.func24, Try.ntmps24
          go_wp2
          go_ret2
          exact ⟨ret_int2 rfl (by omega), rfl⟩
        · have hv : leadN b = (0, 0) := by simp [leadN, h1, h2, h3, h4]
          rw [hv]
          clear m1 m2 m3
          have h5 : b < 192 ∨ 248 ≤ b := by omega
          clear h2 h3 h4
          rcases h5 with h5 | h5
          all_goals
            go_enter Try.func24, Try.ntmps24
            go_wp2
            go_ret2
            exact ⟨ret_int2 rfl rfl, rfl⟩

def firstV (l : List UInt8) : Value := match firstN l with
  | none => .tuple #[.int .i32 0, .int .i64 0]
  | some (r, n) => .tuple #[.int .i32 (r : Nat), .int .i64 (n : Nat)]

/-- What is left to be read of the bytes behind, from the i-th on. -/
theorem cont_byte (c : UInt8) : (bits .andNot .u8 (c.toNat : Int) 63 != 128) = !decide (c.toNat / 64 = 2) := by
  have h := u8_andNot_nat c.toNat 63 c.toNat_lt (by decide)
  have all : ∀ x : Fin 256, ((x.val &&& (255 - 63)) != 128) = !decide (x.val / 64 = 2) := by decide +kernel
  have := all ⟨c.toNat, c.toNat_lt⟩
  simp only at this
  rw [show bits .andNot .u8 (c.toNat : Int) 63 = ((c.toNat &&& (255 - 63) : Nat) : Int) from h, ← this]
  rw [Bool.eq_iff_iff, bne_iff_ne, bne_iff_ne]
  omega
theorem cont_or (r : Nat) (c : UInt8) (hr : r < 33554432) : bits .or .i32 ((r : Int) * 64) ((c.toNat : Int) % 64) = ((r * 64 + c.toNat % 64 : Nat) : Int) := by
  have h := i32_or6 (x := (r : Int) * 64) (y := (c.toNat : Int) % 64) (by omega) (by omega) (by omega) (by omega) (by omega)
  rw [h]; simp

def noneV : Value := .tuple #[.int .i32 0, .int .i64 0]
theorem data_cons (s : ByteArray) (h : 0 < s.size) : s.data.toList = s[0] :: s.data.toList.drop 1 := by
  have := List.drop_eq_getElem_cons (l := s.data.toList) (i := 0) (by simpa using h)
  rw [List.drop_zero] at this
  exact this
theorem drop_cons (s : ByteArray) (i : Nat) (h : i < s.size) : s.data.toList.drop i = s[i] :: s.data.toList.drop (i + 1) := by
  exact List.drop_eq_getElem_cons (l := s.data.toList) (i := i) (by simpa using h)
theorem firstV_zero (s : ByteArray) (h : 0 < s.size) (hz : (leadN s[0].toNat).1 = 0 ∨ s.size < (leadN s[0].toNat).1) : firstV s.data.toList = noneV := by
  have hl : (s.data.toList).length = s.size := by simp
  unfold firstV
  have : firstN s.data.toList = none := by
    rw [data_cons s h] at hl ⊢
    unfold firstN
    simp only [hl]
    rw [if_pos hz]
  rw [this]; rfl
def finV (n : Nat) : Option Nat → Value
  | none => noneV
  | some r => if isPoint r = true ∧ sizeN r = n then .tuple #[.int .i32 (r : Nat), .int .i64 (n : Nat)] else noneV
theorem firstV_of (s : ByteArray) (h : 0 < s.size) {n r0 : Nat} (hn : n = (leadN s[0].toNat).1) (hr : r0 = (leadN s[0].toNat).2) (h0 : n ≠ 0) (hlen : n ≤ s.size) {o : Option Nat} (ho : tailN (s.data.toList.drop 1) (n - 1) r0 = o) :
    firstV s.data.toList = finV n o := by
  have hl : (s.data.toList).length = s.size := by simp
  subst hn hr
  have key : firstN s.data.toList = match (tailN (s.data.toList.drop 1) ((leadN s[0].toNat).1 - 1) (leadN s[0].toNat).2) with
      | none => none
      | some r => if isPoint r = true ∧ sizeN r = (leadN s[0].toNat).1 then some (r, (leadN s[0].toNat).1) else none := by
    rw [data_cons s h] at hl
    conv => lhs; rw [data_cons s h]
    unfold firstN
    simp only [hl]
    rw [if_neg (by omega)]
    generalize tailN (s.data.toList.drop 1) _ _ = o'
    cases o' <;> rfl
  rw [ho] at key
  unfold firstV
  rw [key]
  cases o with
  | none => rfl
  | some r =>
    simp only [finV]
    by_cases hc : isPoint r = true ∧ sizeN r = (leadN s[0].toNat).1
    · rw [if_pos hc, if_pos hc]
    · rw [if_neg hc, if_neg hc]; rfl

set_option maxRecDepth 100000 in
set_option maxHeartbeats 4000000 in
theorem first_any (s : ByteArray) (h1 : 0 < s.size) (hs : s.size ≤ 140737488351232) (w : World) : Calls Try.prog 21 #[.string s] w fun e w' => e = .returned (firstV s.data.toList) ∧ w = w' := by
  obtain ⟨n, hn⟩ : ∃ n, n = (leadN s[0].toNat).1 := ⟨_, rfl⟩
  obtain ⟨r0, hr0⟩ : ∃ r, r = (leadN s[0].toNat).2 := ⟨_, rfl⟩
  have hn4 := leadN_le s[0].toNat
  have hr7 := leadN_bits s[0].toNat
  have L := fun w => lead_any s[0].toNat s[0].toNat_lt w
  rw [← hn] at hn4
  rw [← hr0] at hr7
  rw [← hn, ← hr0] at L
  replace L := hid L
  by_cases hbad : n = 0 ∨ s.size < n
  · rw [firstV_zero s h1 (by rw [← hn]; exact hbad)]
    clear hn hr0
    rcases hbad with hz | hz
    · subst hz
      go_enter Try.func21, Try.ntmps21
      go_wp2_with (go_at_call 24; refine (L.out _).mono ?_; rintro e w' ⟨rfl, rfl⟩)
      go_ret2
      exact ⟨rfl, rfl⟩
    · have hnz : ((n : Int) == 0) = false := by rw [beq_eq_false_iff_ne]; omega
      go_enter Try.func21, Try.ntmps21
      go_wp2_with (go_at_call 24; refine (L.out _).mono ?_; rintro e w' ⟨rfl, rfl⟩)
      go_ret2
      exact ⟨rfl, rfl⟩
  · have hnz : ((n : Int) == 0) = false := by rw [beq_eq_false_iff_ne]; omega
    have hn1 : 1 ≤ n := by omega
    have hlen : n ≤ s.size := by omega
    have hd : decide ((s.size : Int) < (n : Int)) = false := by simp; omega
    have hd' : decide (s.size < n) = false := by simp; omega
    have F := fun o => @firstV_of s h1 n r0 hn hr0 (by omega) hlen o
    replace F := hid F
    clear hn hr0 hbad
    go_enter Try.func21, Try.ntmps21
    go_wp2_with (go_at_call 24; refine (L.out _).mono ?_; rintro e w' ⟨rfl, rfl⟩)
    go_loop [5, 6] (fun v i => ∃ r k : Nat, 1 ≤ k ∧ k ≤ n ∧ i = .int .i64 k ∧ v = .int .i32 r ∧ Hid (r < 128 * 64 ^ (k - 1)) ∧ Hid (tailN (s.data.toList.drop k) (n - k) r = tailN (s.data.toList.drop 1) (n - 1) r0)) (fun _ i => n - (intOf i).toNat)
    case atStart => exact ⟨r0, 1, Nat.le_refl _, hn1, rfl, rfl, hid (by simpa using hr7), hid rfl⟩
    case round =>
      obtain ⟨r, k, hk1, hk, rfl, rfl, hr, ht⟩ := hrel
      by_cases hlt : k < n
      · have hks : k < s.size := by omega
        have hc := cont_byte s[k]
        have hdr := drop_cons s k hks
        have hrb : r < 33554432 := by
          have h2 : (64 : Nat) ^ (k - 1) ≤ 64 ^ 2 := Nat.pow_le_pow_right (by omega) (by omega)
          have := hr.out
          have h3 : (64 : Nat) ^ 2 = 4096 := by decide
          omega
        have ho := cont_or r s[k] hrb
        by_cases hcc : s[k].toNat / 64 = 2
        · rw [decide_eq_true hcc] at hc
          simp only [Bool.not_true] at hc
          have ht' : Hid (tailN (s.data.toList.drop (k + 1)) (n - (k + 1)) (r * 64 + s[k].toNat % 64) = tailN (s.data.toList.drop 1) (n - 1) r0) := by
            have := ht.out
            rw [hdr, show n - k = (n - (k + 1)) + 1 by omega] at this
            simp only [tailN, if_pos hcc] at this
            exact hid this
          have hr' : Hid (r * 64 + s[k].toNat % 64 < 128 * 64 ^ (k + 1 - 1)) := by
            have := hr.out
            rw [show k + 1 - 1 = (k - 1) + 1 by omega, Nat.pow_succ]
            refine hid ?_
            omega
          clear hdr hcc ht
          have hm := byte_lt s[k]
          go_wp2
          go_round
          case rel => exact ⟨r * 64 + s[k].toNat % 64, k + 1, by omega, by omega, by go_num, by go_num, hr', ht'⟩
          case measure => simp [intOf]; omega
        · rw [decide_eq_false hcc] at hc
          simp only [Bool.not_false] at hc
          have hF := F.out none (by
            have := ht.out
            rw [hdr, show n - k = (n - (k + 1)) + 1 by omega] at this
            simp only [tailN, if_neg hcc] at this
            exact this.symm)
          have HF := hid (show firstV s.data.toList = noneV from hF)
          clear hdr ht F hF
          go_wp2
          go_ret2
          refine ⟨?_, rfl⟩
          rw [HF.out]; rfl
      · obtain rfl : k = n := by omega
        have hrb : r < 67108864 := by
          have h2 : (64 : Nat) ^ (k - 1) ≤ 64 ^ 3 := Nat.pow_le_pow_right (by omega) (by omega)
          have := hr.out
          have h3 : (64 : Nat) ^ 3 = 262144 := by decide
          omega
        have hF := F.out (some r) (by
          have := ht.out
          rw [show k - k = 0 by omega] at this
          simp only [tailN] at this
          exact this.symm)
        simp only [finV] at hF
        clear F ht
        by_cases hp : isPoint r = true
        · by_cases hz : sizeN r = k
          · have HF := hid (hF.trans (if_pos ⟨hp, hz⟩))
            have hne : (((sizeN r : Nat) : Int) != (k : Int)) = false := by rw [bne_eq_false_iff_eq]; omega
            have PP := fun w => point_any r w
            rw [hp] at PP
            replace PP := hid PP
            clear hF hp hz
            go_wp2_with (first | (go_at_call 23; refine (PP.out _).mono ?_; rintro e w' ⟨rfl, rfl⟩) | (go_at_call 22; refine (size_any _ _).mono ?_; rintro e w' ⟨rfl, rfl⟩))
            go_ret2
            refine ⟨?_, rfl⟩
            rw [HF.out]; rfl
          · have HF := hid (hF.trans (if_neg (fun h => hz h.2)))
            have hne : (((sizeN r : Nat) : Int) != (k : Int)) = true := by rw [bne_iff_ne]; omega
            have PP := fun w => point_any r w
            rw [hp] at PP
            replace PP := hid PP
            clear hF hp hz
            go_wp2_with (first | (go_at_call 23; refine (PP.out _).mono ?_; rintro e w' ⟨rfl, rfl⟩) | (go_at_call 22; refine (size_any _ _).mono ?_; rintro e w' ⟨rfl, rfl⟩))
            go_ret2
            refine ⟨?_, rfl⟩
            rw [HF.out]; rfl
        · have HF := hid (hF.trans (if_neg (fun h => hp h.1)))
          have PP := fun w => point_any r w
          rw [(Bool.not_eq_true _).mp hp] at PP
          replace PP := hid PP
          clear hF hp
          go_wp2_with (first | (go_at_call 23; refine (PP.out _).mono ?_; rintro e w' ⟨rfl, rfl⟩) | (go_at_call 22; refine (size_any _ _).mono ?_; rintro e w' ⟨rfl, rfl⟩))
          go_ret2
          refine ⟨?_, rfl⟩
          rw [HF.out]; rfl

end Go.Proofs.Ytbedanlkkidkkab
