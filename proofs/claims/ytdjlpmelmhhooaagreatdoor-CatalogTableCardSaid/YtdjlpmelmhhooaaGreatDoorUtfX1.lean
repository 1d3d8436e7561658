/- Code points: plain words, Put. -/
import Derived.Test.YtdjlpmelmhhooaaGreatDoorKit
import Derived.Test.YtdjlpmelmhhooaaGreatDoorProg
namespace Go.Proofs.YtdjlpmelmhhooaaGreatDoor
section
open Go

/-- Is it a code point? -/
def isPoint (r : Int) : Bool := decide (0 ≤ r) && decide (r ≤ 1114111) && (decide (r < 55296) || decide (57343 < r))
def sizeU (r : Int) : Nat := if r < 128 then 1 else if r < 2048 then 2 else if r < 65536 then 3 else 4
theorem sizeN_pos (r : Int) : 1 ≤ sizeU r ∧ sizeU r ≤ 4 := by unfold sizeU; split <;> (try split) <;> (try split) <;> omega
/-- How many bytes a first byte tells of, and the bits that it has itself. -/
def leadN (b : Nat) : Nat × Nat :=
  if b < 128 then (1, b) else if 192 ≤ b ∧ b < 224 then (2, b % 32) else if 224 ≤ b ∧ b < 240 then (3, b % 16) else if 240 ≤ b ∧ b < 248 then (4, b % 8) else (0, 0)
theorem leadN_le (b : Nat) : (leadN b).1 ≤ 4 := by
  unfold leadN
  by_cases h1 : b < 128
  · simp [h1]
  · by_cases h2 : 192 ≤ b ∧ b < 224
    · simp [h1, h2]
    · by_cases h3 : 224 ≤ b ∧ b < 240
      · simp [h1, h2, h3]
      · by_cases h4 : 240 ≤ b ∧ b < 248
        · simp [h1, h2, h3, h4]
        · simp [h1, h2, h3, h4]
theorem leadN_bits (b : Nat) : (leadN b).2 < 128 := by
  unfold leadN
  by_cases h1 : b < 128
  · simp [h1]
  · by_cases h2 : 192 ≤ b ∧ b < 224
    · simp only [if_neg h1, if_pos h2]; omega
    · by_cases h3 : 224 ≤ b ∧ b < 240
      · simp only [if_neg h1, if_neg h2, if_pos h3]; omega
      · by_cases h4 : 240 ≤ b ∧ b < 248
        · simp only [if_neg h1, if_neg h2, if_neg h3, if_pos h4]; omega
        · simp only [if_neg h1, if_neg h2, if_neg h3, if_neg h4]; omega
/-- The bits of so many bytes behind. -/
def tailN : List UInt8 → Nat → Nat → Option Nat
  | _, 0, r => some r
  | [], _ + 1, _ => none
  | c :: l, k + 1, r => if c.toNat / 64 = 2 then tailN l k (r * 64 + c.toNat % 64) else none
/-- A text's first code point, and its size. -/
def firstN (l : List UInt8) : Option (Nat × Nat) :=
  match l with
  | [] => none
  | b :: t =>
    if (leadN b.toNat).1 = 0 ∨ l.length < (leadN b.toNat).1 then none
    else match tailN t ((leadN b.toNat).1 - 1) (leadN b.toNat).2 with
      | none => none
      | some r => if isPoint r = true ∧ sizeU r = (leadN b.toNat).1 then some (r, (leadN b.toNat).1) else none
theorem firstN_size {l : List UInt8} {r n : Nat} (h : firstN l = some (r, n)) : 1 ≤ n ∧ n ≤ l.length ∧ n ≤ 4 ∧ isPoint r = true ∧ sizeU r = n := by
  cases l with
  | nil => cases h
  | cons b t =>
    unfold firstN at h
    simp only at h
    split at h
    · cases h
    · rename_i h1
      split at h
      · cases h
      · rename_i r' _
        split at h
        · rename_i h2
          simp only [Option.some.injEq, Prod.mk.injEq] at h
          obtain ⟨rfl, rfl⟩ := h
          have := leadN_le b.toNat
          exact ⟨by omega, by omega, this, h2.1, h2.2⟩
        · cases h
/-- All code points, with their places, up to the first byte that is wrong. -/
def runesF : Nat → Nat → List UInt8 → List (Nat × Nat)
  | 0, _, _ => []
  | k + 1, at', l => match firstN l with
    | none => []
    | some (r, n) => (at', r) :: runesF k (at' + n) (l.drop n)
def runesN (l : List UInt8) : List (Nat × Nat) := runesF l.length 0 l
/-- Where the code points end. -/
def endF : Nat → Nat → List UInt8 → Nat
  | 0, at', _ => at'
  | k + 1, at', l => match firstN l with
    | none => at'
    | some (_, n) => endF k (at' + n) (l.drop n)
def endN (l : List UInt8) : Nat := endF l.length 0 l

/-- A code point's bytes, the program's way: the least six bits behind, and so on. -/
def putN (r : Int) : List UInt8 :=
  if isPoint r then
    let n := r.toNat
    match sizeU r with
    | 1 => [UInt8.ofNat n]
    | 2 => [UInt8.ofNat (192 + n / 64), UInt8.ofNat (128 + n % 64)]
    | 3 => [UInt8.ofNat (224 + n / 4096), UInt8.ofNat (128 + n / 64 % 64), UInt8.ofNat (128 + n % 64)]
    | _ => [UInt8.ofNat (240 + n / 262144), UInt8.ofNat (128 + n / 4096 % 64), UInt8.ofNat (128 + n / 64 % 64), UInt8.ofNat (128 + n % 64)]
  else []
def putS (r : Int) : ByteArray := ⟨(putN r).toArray⟩
end
section
open Go Go.RowKit
set_option linter.unusedSimpArgs false

set_option maxHeartbeats 1000000 in
theorem point_any (r : Int) (w : World) : Calls Tryz.prog 149 #[.int .i32 r] w fun e w' => e = .returned (.bool (isPoint r)) ∧ w = w' := by
  by_cases h0 : 0 ≤ r
  · by_cases h1 : r ≤ 1114111
    · by_cases h2 : r < 55296
      · have hv : isPoint r = true := by simp [isPoint, h0, h1, h2]
        rw [hv]
        go_enter Tryz.func149, Tryz.ntmps149
        go_wp2
        go_ret
        exact ⟨rfl, rfl⟩
      · by_cases h3 : 57343 < r
        · have hv : isPoint r = true := by simp [isPoint, h0, h1, h2, h3]
          rw [hv]
          go_enter Tryz.func149, Tryz.ntmps149
          go_wp2
          go_ret
          exact ⟨rfl, rfl⟩
        · have hv : isPoint r = false := by simp [isPoint, h0, h1, h2, h3]
          rw [hv]
          go_enter Tryz.func149, Tryz.ntmps149
          go_wp2
          go_ret
          exact ⟨rfl, rfl⟩
    · have hv : isPoint r = false := by simp [isPoint, h0, h1]
      rw [hv]
      go_enter Tryz.func149, Tryz.ntmps149
      go_wp2
      go_ret
      exact ⟨rfl, rfl⟩
  · have hv : isPoint r = false := by simp [isPoint, h0]
    rw [hv]
    go_enter Tryz.func149, Tryz.ntmps149
    go_wp2
    go_ret
    exact ⟨rfl, rfl⟩

set_option maxHeartbeats 1000000 in
theorem usize_any (r : Int) (w : World) : Calls Tryz.prog 150 #[.int .i32 r] w fun e w' => e = .returned (.int .i64 (sizeU r : Nat)) ∧ w = w' := by
  by_cases h1 : r < 128
  · have hv : sizeU r = 1 := by simp [sizeU, h1]
    rw [hv]
    go_enter Tryz.func150, Tryz.ntmps150
    go_wp2
    go_ret
    exact ⟨rfl, rfl⟩
  · by_cases h2 : r < 2048
    · have hv : sizeU r = 2 := by simp [sizeU, h1, h2]
      rw [hv]
      go_enter Tryz.func150, Tryz.ntmps150
      go_wp2
      go_ret
      exact ⟨rfl, rfl⟩
    · by_cases h3 : r < 65536
      · have hv : sizeU r = 3 := by simp [sizeU, h1, h2, h3]
        rw [hv]
        go_enter Tryz.func150, Tryz.ntmps150
        go_wp2
        go_ret
        exact ⟨rfl, rfl⟩
      · have hv : sizeU r = 4 := by simp [sizeU, h1, h2, h3]
        rw [hv]
        go_enter Tryz.func150, Tryz.ntmps150
        go_wp2
        go_ret
        exact ⟨rfl, rfl⟩

set_option maxRecDepth 100000 in
set_option maxHeartbeats 1000000 in
theorem lead_any (b : Nat) (hb : b < 256) (w : World) : Calls Tryz.prog 151 #[.int .u8 (b : Int)] w fun e w' => e = .returned (.tuple #[.int .i64 ((leadN b).1 : Nat), .int .i32 ((leadN b).2 : Nat)]) ∧ w = w' := by
  have m1 := u8_and31 (x := (b : Int)) (by omega) (by omega)
  have m2 := u8_and15 (x := (b : Int)) (by omega) (by omega)
  have m3 := u8_and7 (x := (b : Int)) (by omega) (by omega)
  by_cases h1 : b < 128
  · have hv : leadN b = (1, b) := by simp [leadN, h1]
    rw [hv]
    go_enter Tryz.func151, Tryz.ntmps151
    go_wp2
    go_ret2
    exact ⟨ret_int2 rfl (by omega), rfl⟩
  · by_cases h2 : 192 ≤ b ∧ b < 224
    · have hv : leadN b = (2, b % 32) := by simp [leadN, h1, h2]
      rw [hv]
      obtain ⟨h3, h4⟩ := h2
      clear m2 m3
      go_enter Tryz.func151, Tryz.ntmps151
      go_wp2
      go_ret2
      exact ⟨ret_int2 rfl (by omega), rfl⟩
    · by_cases h3 : 224 ≤ b ∧ b < 240
      · have hv : leadN b = (3, b % 16) := by simp [leadN, h1, h2, h3]
        rw [hv]
        obtain ⟨h4, h5⟩ := h3
        clear m1 m3 h2
        go_enter Tryz.func151, Tryz.ntmps151
        go_wp2
        go_ret2
        exact ⟨ret_int2 rfl (by omega), rfl⟩
      · by_cases h4 : 240 ≤ b ∧ b < 248
        · have hv : leadN b = (4, b % 8) := by simp [leadN, h1, h2, h3, h4]
          rw [hv]
          obtain ⟨h5, h6⟩ := h4
          clear m1 m2 h2 h3
          go_enter Tryz.func151, Tryz.ntmps151
          go_wp2
          go_ret2
          exact ⟨ret_int2 rfl (by omega), rfl⟩
        · have hv : leadN b = (0, 0) := by simp [leadN, h1, h2, h3, h4]
          rw [hv]
          clear m1 m2 m3
          have h5 : b < 192 ∨ 248 ≤ b := by omega
          clear h2 h3 h4
          rcases h5 with h5 | h5
          all_goals
            go_enter Tryz.func151, Tryz.ntmps151
            go_wp2
            go_ret2
            exact ⟨ret_int2 rfl rfl, rfl⟩

def firstV (l : List UInt8) : Value := match firstN l with
  | none => .tuple #[.int .i32 0, .int .i64 0]
  | some (r, n) => .tuple #[.int .i32 (r : Nat), .int .i64 (n : Nat)]

/-- What is left to be read of the bytes behind, from the i-th on. -/
theorem cont_byte (c : UInt8) : (bits .andNot .u8 (c.toNat : Int) 63 != 128) = !decide (c.toNat / 64 = 2) := by
  have h := u8_andNot_nat c.toNat 63 c.toNat_lt (by decide)
  have all : ∀ x : Fin 256, ((x.val &&& (255 - 63)) != 128) = !decide (x.val / 64 = 2) := by decide +kernel
  have := all ⟨c.toNat, c.toNat_lt⟩
  simp only at this
  rw [show bits .andNot .u8 (c.toNat : Int) 63 = ((c.toNat &&& (255 - 63) : Nat) : Int) from h, ← this]
  rw [Bool.eq_iff_iff, bne_iff_ne, bne_iff_ne]
  omega
theorem cont_or (r : Nat) (c : UInt8) (hr : r < 33554432) : bits .or .i32 ((r : Int) * 64) ((c.toNat : Int) % 64) = ((r * 64 + c.toNat % 64 : Nat) : Int) := by
  have h := i32_or6 (x := (r : Int) * 64) (y := (c.toNat : Int) % 64) (by omega) (by omega) (by omega) (by omega) (by omega)
  rw [h]; simp

def noneV : Value := .tuple #[.int .i32 0, .int .i64 0]
theorem data_cons (s : ByteArray) (h : 0 < s.size) : s.data.toList = s[0] :: s.data.toList.drop 1 := by
  have := List.drop_eq_getElem_cons (l := s.data.toList) (i := 0) (by simpa using h)
  rw [List.drop_zero] at this
  exact this
theorem drop_cons (s : ByteArray) (i : Nat) (h : i < s.size) : s.data.toList.drop i = s[i] :: s.data.toList.drop (i + 1) := by
  exact List.drop_eq_getElem_cons (l := s.data.toList) (i := i) (by simpa using h)
theorem firstV_zero (s : ByteArray) (h : 0 < s.size) (hz : (leadN s[0].toNat).1 = 0 ∨ s.size < (leadN s[0].toNat).1) : firstV s.data.toList = noneV := by
  have hl : (s.data.toList).length = s.size := by simp
  unfold firstV
  have : firstN s.data.toList = none := by
    rw [data_cons s h] at hl ⊢
    unfold firstN
    simp only [hl]
    rw [if_pos hz]
  rw [this]; rfl
def finV (n : Nat) : Option Nat → Value
  | none => noneV
  | some r => if isPoint r = true ∧ sizeU r = n then .tuple #[.int .i32 (r : Nat), .int .i64 (n : Nat)] else noneV
theorem firstV_of (s : ByteArray) (h : 0 < s.size) {n r0 : Nat} (hn : n = (leadN s[0].toNat).1) (hr : r0 = (leadN s[0].toNat).2) (h0 : n ≠ 0) (hlen : n ≤ s.size) {o : Option Nat} (ho : tailN (s.data.toList.drop 1) (n - 1) r0 = o) :
    firstV s.data.toList = finV n o := by
  have hl : (s.data.toList).length = s.size := by simp
  subst hn hr
  have key : firstN s.data.toList = match (tailN (s.data.toList.drop 1) ((leadN s[0].toNat).1 - 1) (leadN s[0].toNat).2) with
      | none => none
      | some r => if isPoint r = true ∧ sizeU r = (leadN s[0].toNat).1 then some (r, (leadN s[0].toNat).1) else none := by
    rw [data_cons s h] at hl
    conv => lhs; rw [data_cons s h]
    unfold firstN
    simp only [hl]
    rw [if_neg (by omega)]
    first
      | done
      | (generalize tailN (s.data.toList.drop 1) _ _ = o'
         cases o' <;> rfl)
  rw [ho] at key
  unfold firstV
  rw [key]
  cases o with
  | none => rfl
  | some r =>
    simp only [finV]
    by_cases hc : isPoint r = true ∧ sizeU r = (leadN s[0].toNat).1
    · rw [if_pos hc, if_pos hc]
    · rw [if_neg hc, if_neg hc]; rfl

set_option maxRecDepth 100000 in
set_option maxHeartbeats 4000000 in
theorem first_any (s : ByteArray) (h1 : 0 < s.size) (hs : s.size ≤ 140737488351232) (w : World) : Calls Tryz.prog 128 #[.string s] w fun e w' => e = .returned (firstV s.data.toList) ∧ w = w' := by
  obtain ⟨n, hn⟩ : ∃ n, n = (leadN s[0].toNat).1 := ⟨_, rfl⟩
  obtain ⟨r0, hr0⟩ : ∃ r, r = (leadN s[0].toNat).2 := ⟨_, rfl⟩
  have hn4 := leadN_le s[0].toNat
  have hr7 := leadN_bits s[0].toNat
  have L := fun w => lead_any s[0].toNat s[0].toNat_lt w
  rw [← hn] at hn4
  rw [← hr0] at hr7
  rw [← hn, ← hr0] at L
  replace L := hid L
  by_cases hbad : n = 0 ∨ s.size < n
  · rw [firstV_zero s h1 (by rw [← hn]; exact hbad)]
    clear hn hr0
    rcases hbad with hz | hz
    · subst hz
      go_enter Tryz.func128, Tryz.ntmps128
      go_wp2_with (go_at_call 151; refine (L.out _).mono ?_; rintro e w' ⟨rfl, rfl⟩)
      go_ret2
      exact ⟨rfl, rfl⟩
    · have hnz : ((n : Int) == 0) = false := by rw [beq_eq_false_iff_ne]; omega
      go_enter Tryz.func128, Tryz.ntmps128
      go_wp2_with (go_at_call 151; refine (L.out _).mono ?_; rintro e w' ⟨rfl, rfl⟩)
      go_ret2
      exact ⟨rfl, rfl⟩
  · have hnz : ((n : Int) == 0) = false := by rw [beq_eq_false_iff_ne]; omega
    have hn1 : 1 ≤ n := by omega
    have hlen : n ≤ s.size := by omega
    have hd : decide ((s.size : Int) < (n : Int)) = false := by simp; omega
    have hd' : decide (s.size < n) = false := by simp; omega
    have F := fun o => @firstV_of s h1 n r0 hn hr0 (by omega) hlen o
    replace F := hid F
    clear hn hr0 hbad
    go_enter Tryz.func128, Tryz.ntmps128
    go_wp2_with (go_at_call 151; refine (L.out _).mono ?_; rintro e w' ⟨rfl, rfl⟩)
    go_loop [5, 6] (fun v i => ∃ r k : Nat, 1 ≤ k ∧ k ≤ n ∧ i = .int .i64 k ∧ v = .int .i32 r ∧ Hid (r < 128 * 64 ^ (k - 1)) ∧ Hid (tailN (s.data.toList.drop k) (n - k) r = tailN (s.data.toList.drop 1) (n - 1) r0)) (fun _ i => n - (intOf i).toNat)
    case atStart => exact ⟨r0, 1, Nat.le_refl _, hn1, rfl, rfl, hid (by simpa using hr7), hid rfl⟩
    case round =>
      obtain ⟨r, k, hk1, hk, rfl, rfl, hr, ht⟩ := hrel
      by_cases hlt : k < n
      · have hks : k < s.size := by omega
        have hc := cont_byte s[k]
        have hdr := drop_cons s k hks
        have hrb : r < 33554432 := by
          have h2 : (64 : Nat) ^ (k - 1) ≤ 64 ^ 2 := Nat.pow_le_pow_right (by omega) (by omega)
          have := hr.out
          have h3 : (64 : Nat) ^ 2 = 4096 := by decide
          omega
        have ho := cont_or r s[k] hrb
        by_cases hcc : s[k].toNat / 64 = 2
        · rw [decide_eq_true hcc] at hc
          simp only [Bool.not_true] at hc
          have ht' : Hid (tailN (s.data.toList.drop (k + 1)) (n - (k + 1)) (r * 64 + s[k].toNat % 64) = tailN (s.data.toList.drop 1) (n - 1) r0) := by
            have := ht.out
            rw [hdr, show n - k = (n - (k + 1)) + 1 by omega] at this
            simp only [tailN, if_pos hcc] at this
            exact hid this
          have hr' : Hid (r * 64 + s[k].toNat % 64 < 128 * 64 ^ (k + 1 - 1)) := by
            have := hr.out
            rw [show k + 1 - 1 = (k - 1) + 1 by omega, Nat.pow_succ]
            refine hid ?_
            omega
          clear hdr hcc ht
          have hm := byte_lt s[k]
          go_wp2
          go_round
          case rel => exact ⟨r * 64 + s[k].toNat % 64, k + 1, by omega, by omega, by go_num, by go_num, hr', ht'⟩
          case measure => simp [intOf]; omega
        · rw [decide_eq_false hcc] at hc
          simp only [Bool.not_false] at hc
          have hF := F.out none (by
            have := ht.out
            rw [hdr, show n - k = (n - (k + 1)) + 1 by omega] at this
            simp only [tailN, if_neg hcc] at this
            exact this.symm)
          have HF := hid (show firstV s.data.toList = noneV from hF)
          clear hdr ht F hF
          go_wp2
          go_ret2
          refine ⟨?_, rfl⟩
          rw [HF.out]; rfl
      · obtain rfl : k = n := by omega
        have hrb : r < 67108864 := by
          have h2 : (64 : Nat) ^ (k - 1) ≤ 64 ^ 3 := Nat.pow_le_pow_right (by omega) (by omega)
          have := hr.out
          have h3 : (64 : Nat) ^ 3 = 262144 := by decide
          omega
        have hF := F.out (some r) (by
          have := ht.out
          rw [show k - k = 0 by omega] at this
          simp only [tailN] at this
          exact this.symm)
        simp only [finV] at hF
        clear F ht
        by_cases hp : isPoint r = true
        · by_cases hz : sizeU r = k
          · have HF := hid (hF.trans (if_pos ⟨hp, hz⟩))
            have hne : (((sizeU r : Nat) : Int) != (k : Int)) = false := by rw [bne_eq_false_iff_eq]; omega
            have PP := fun w => point_any r w
            rw [hp] at PP
            replace PP := hid PP
            clear hF hp hz
            go_wp2_with (first | (go_at_call 149; refine (PP.out _).mono ?_; rintro e w' ⟨rfl, rfl⟩) | (go_at_call 150; refine (usize_any _ _).mono ?_; rintro e w' ⟨rfl, rfl⟩))
            go_ret2
            refine ⟨?_, rfl⟩
            rw [HF.out]; rfl
          · have HF := hid (hF.trans (if_neg (fun h => hz h.2)))
            have hne : (((sizeU r : Nat) : Int) != (k : Int)) = true := by rw [bne_iff_ne]; omega
            have PP := fun w => point_any r w
            rw [hp] at PP
            replace PP := hid PP
            clear hF hp hz
            go_wp2_with (first | (go_at_call 149; refine (PP.out _).mono ?_; rintro e w' ⟨rfl, rfl⟩) | (go_at_call 150; refine (usize_any _ _).mono ?_; rintro e w' ⟨rfl, rfl⟩))
            go_ret2
            refine ⟨?_, rfl⟩
            rw [HF.out]; rfl
        · have HF := hid (hF.trans (if_neg (fun h => hp h.1)))
          have PP := fun w => point_any r w
          rw [(Bool.not_eq_true _).mp hp] at PP
          replace PP := hid PP
          clear hF hp
          go_wp2_with (first | (go_at_call 149; refine (PP.out _).mono ?_; rintro e w' ⟨rfl, rfl⟩) | (go_at_call 150; refine (usize_any _ _).mono ?_; rintro e w' ⟨rfl, rfl⟩))
          go_ret2
          refine ⟨?_, rfl⟩
          rw [HF.out]; rfl
end
section
open Go Go.RowKit
set_option linter.unusedSimpArgs false

theorem info_u8u : (Tryz.prog.info? 5).map (fun i => (i.zero, i.size, i.bytes)) = some (some (.int .u8 0), 1, 1) := by kernel_rfl
theorem and63 (x : Int) : bits .and .u8 (x % 256) 63 = x % 64 := by
  rw [u8_and63 (x := x % 256) (by omega) (by omega)]; omega
theorem or128 (x : Int) : bits .or .u8 128 (x % 64) = 128 + x % 64 := u8_or128 (y := x % 64) (by omega) (by omega)
theorem or240 (x : Int) (h0 : 0 ≤ x) (h1 : x < 8) : bits .or .u8 240 x = 240 + x := u8_or240 _ h0 h1
theorem or224 (x : Int) (h0 : 0 ≤ x) (h1 : x < 16) : bits .or .u8 224 x = 224 + x := u8_or224 _ h0 h1
theorem or192 (x : Int) (h0 : 0 ≤ x) (h1 : x < 32) : bits .or .u8 192 x = 192 + x := u8_or192 _ h0 h1

theorem conv_new (xs : List Int) (c : Nat) (w : World) : (convert 83 9 (.slice (some ⟨w.heap.size, 0, none⟩) xs.length c)).run Tryz.prog (w.alloc (.cells (xs.map (Value.int .u8)).toArray 5)) =
    .ok (.string (strOfNums xs)) (w.alloc (.cells (xs.map (Value.int .u8)).toArray 5)) := by
  refine run_convert_bytes_arg (P := Tryz.prog) _ 83 5 Tryz.underlying83 Tryz.underlying5 w.heap.size 0 xs.length c xs rfl (fun i hi => ?_) 9 Tryz.underlying9
  rw [Nat.zero_add]
  refine (RowAt.new w _ 5).cell ?_
  simp [hi]

set_option maxRecDepth 100000 in
set_option maxHeartbeats 2000000 in
theorem put4_any (m : Nat) (h0 : 65536 ≤ m) (h1 : m ≤ 1114111) (w : World) : Calls Tryz.prog 126 #[.int .i32 (m : Int)] w fun e w' => e = .returned (.string ⟨#[UInt8.ofNat (240 + m / 262144), UInt8.ofNat (128 + m / 4096 % 64), UInt8.ofNat (128 + m / 64 % 64), UInt8.ofNat (128 + m % 64)]⟩) ∧ Below w.heap.size w w' := by
  have hp : isPoint (m : Int) = true := by simp [isPoint]; omega
  have hz : sizeU (m : Int) = 4 := by unfold sizeU; rw [if_neg (by omega), if_neg (by omega), if_neg (by omega)]
  have PP := fun w => point_any (m : Int) w
  have SZ := fun w => usize_any (m : Int) w
  rw [hp] at PP
  rw [hz] at SZ
  replace PP := hid PP
  replace SZ := hid SZ
  clear hp hz
  have hmk : ∀ w, (Instr.makeSlice 83 (.int .i64 4) (.int .i64 4)).run Tryz.prog w = .ok (.slice (some ⟨w.heap.size, 0, none⟩) 4 4) (w.alloc (.cells #[.int .u8 0, .int .u8 0, .int .u8 0, .int .u8 0] 5)) := fun w => by
    exact run_make8 (P := Tryz.prog) 83 5 Tryz.underlying83 info_u8u 4 (by omega) w
  have a0 := and63
  have o0 := or128
  have o1 := or240
  have hcv : ∀ (a b c d : Int) (w : World), (convert 83 9 (.slice (some ⟨w.heap.size, 0, none⟩) 4 4)).run Tryz.prog (w.alloc (.cells #[.int .u8 a, .int .u8 b, .int .u8 c, .int .u8 d] 5)) = .ok (.string (strOfNums [a, b, c, d])) (w.alloc (.cells #[.int .u8 a, .int .u8 b, .int .u8 c, .int .u8 d] 5)) := fun a b c d w => conv_new [a, b, c, d] 4 w
  go_enter Tryz.func126, Tryz.ntmps126
  go_wp2_with (first | (go_at_call 149; refine (PP.out _).mono ?_; rintro e w' ⟨rfl, rfl⟩) | (go_at_call 150; refine (SZ.out _).mono ?_; rintro e w' ⟨rfl, rfl⟩))
  refine wp_loop_rounds 4 ?_
  rw [rounds_succ]
  go_wp2
  rw [rounds_succ]
  go_wp2
  rw [rounds_succ]
  go_wp2
  rw [rounds_succ]
  go_wp2
  go_ret
  refine ⟨ret_string ?_, (Below.refl _ w).alloc (Nat.le_refl _) _⟩
  unfold strOfNums
  simp only [List.map_cons, List.map_nil]
  congr 3
  all_goals (try congr 1)
  all_goals (first | omega | (congr 1; omega))

set_option maxRecDepth 100000 in
set_option maxHeartbeats 2000000 in
theorem put3_any (m : Nat) (h0 : 2048 ≤ m) (h1 : m ≤ 65535) (h2 : m < 55296 ∨ 57343 < m) (w : World) : Calls Tryz.prog 126 #[.int .i32 (m : Int)] w fun e w' => e = .returned (.string ⟨#[UInt8.ofNat (224 + m / 4096), UInt8.ofNat (128 + m / 64 % 64), UInt8.ofNat (128 + m % 64)]⟩) ∧ Below w.heap.size w w' := by
  have hp : isPoint (m : Int) = true := by simp [isPoint]; omega
  have hz : sizeU (m : Int) = 3 := by unfold sizeU; rw [if_neg (by omega), if_neg (by omega), if_pos (by omega)]
  have PP := fun w => point_any (m : Int) w
  have SZ := fun w => usize_any (m : Int) w
  rw [hp] at PP
  rw [hz] at SZ
  replace PP := hid PP
  replace SZ := hid SZ
  clear hp hz
  have hmk : ∀ w, (Instr.makeSlice 83 (.int .i64 3) (.int .i64 3)).run Tryz.prog w = .ok (.slice (some ⟨w.heap.size, 0, none⟩) 3 3) (w.alloc (.cells #[.int .u8 0, .int .u8 0, .int .u8 0] 5)) := fun w => by
    exact run_make8 (P := Tryz.prog) 83 5 Tryz.underlying83 info_u8u 3 (by omega) w
  have a0 := and63
  have o0 := or128
  have o1 := or224
  have hcv : ∀ (a b c : Int) (w : World), (convert 83 9 (.slice (some ⟨w.heap.size, 0, none⟩) 3 3)).run Tryz.prog (w.alloc (.cells #[.int .u8 a, .int .u8 b, .int .u8 c] 5)) = .ok (.string (strOfNums [a, b, c])) (w.alloc (.cells #[.int .u8 a, .int .u8 b, .int .u8 c] 5)) := fun a b c w => conv_new [a, b, c] 3 w
  go_enter Tryz.func126, Tryz.ntmps126
  go_wp2_with (first | (go_at_call 149; refine (PP.out _).mono ?_; rintro e w' ⟨rfl, rfl⟩) | (go_at_call 150; refine (SZ.out _).mono ?_; rintro e w' ⟨rfl, rfl⟩))
  refine wp_loop_rounds 3 ?_
  rw [rounds_succ]
  go_wp2
  rw [rounds_succ]
  go_wp2
  rw [rounds_succ]
  go_wp2
  go_ret
  refine ⟨ret_string ?_, (Below.refl _ w).alloc (Nat.le_refl _) _⟩
  unfold strOfNums
  simp only [List.map_cons, List.map_nil]
  congr 3
  all_goals (try congr 1)
  all_goals (first | omega | (congr 1; omega))

set_option maxRecDepth 100000 in
set_option maxHeartbeats 2000000 in
theorem put2_any (m : Nat) (h0 : 128 ≤ m) (h1 : m ≤ 2047) (w : World) : Calls Tryz.prog 126 #[.int .i32 (m : Int)] w fun e w' => e = .returned (.string ⟨#[UInt8.ofNat (192 + m / 64), UInt8.ofNat (128 + m % 64)]⟩) ∧ Below w.heap.size w w' := by
  have hp : isPoint (m : Int) = true := by simp [isPoint]; omega
  have hz : sizeU (m : Int) = 2 := by unfold sizeU; rw [if_neg (by omega), if_pos (by omega)]
  have PP := fun w => point_any (m : Int) w
  have SZ := fun w => usize_any (m : Int) w
  rw [hp] at PP
  rw [hz] at SZ
  replace PP := hid PP
  replace SZ := hid SZ
  clear hp hz
  have hmk : ∀ w, (Instr.makeSlice 83 (.int .i64 2) (.int .i64 2)).run Tryz.prog w = .ok (.slice (some ⟨w.heap.size, 0, none⟩) 2 2) (w.alloc (.cells #[.int .u8 0, .int .u8 0] 5)) := fun w => by
    exact run_make8 (P := Tryz.prog) 83 5 Tryz.underlying83 info_u8u 2 (by omega) w
  have a0 := and63
  have o0 := or128
  have o1 := or192
  have hcv : ∀ (a b : Int) (w : World), (convert 83 9 (.slice (some ⟨w.heap.size, 0, none⟩) 2 2)).run Tryz.prog (w.alloc (.cells #[.int .u8 a, .int .u8 b] 5)) = .ok (.string (strOfNums [a, b])) (w.alloc (.cells #[.int .u8 a, .int .u8 b] 5)) := fun a b w => conv_new [a, b] 2 w
  go_enter Tryz.func126, Tryz.ntmps126
  go_wp2_with (first | (go_at_call 149; refine (PP.out _).mono ?_; rintro e w' ⟨rfl, rfl⟩) | (go_at_call 150; refine (SZ.out _).mono ?_; rintro e w' ⟨rfl, rfl⟩))
  refine wp_loop_rounds 2 ?_
  rw [rounds_succ]
  go_wp2
  rw [rounds_succ]
  go_wp2
  go_ret
  refine ⟨ret_string ?_, (Below.refl _ w).alloc (Nat.le_refl _) _⟩
  unfold strOfNums
  simp only [List.map_cons, List.map_nil]
  congr 3
  all_goals (try congr 1)
  all_goals (first | omega | (congr 1; omega))

set_option maxRecDepth 100000 in
set_option maxHeartbeats 2000000 in
theorem put1_any (m : Nat) (h1 : m ≤ 127) (w : World) : Calls Tryz.prog 126 #[.int .i32 (m : Int)] w fun e w' => e = .returned (.string ⟨#[UInt8.ofNat m]⟩) ∧ Below w.heap.size w w' := by
  have hp : isPoint (m : Int) = true := by simp [isPoint]; omega
  have hz : sizeU (m : Int) = 1 := by unfold sizeU; rw [if_pos (by omega)]
  have PP := fun w => point_any (m : Int) w
  have SZ := fun w => usize_any (m : Int) w
  rw [hp] at PP
  rw [hz] at SZ
  replace PP := hid PP
  replace SZ := hid SZ
  clear hp hz
  have hcv : ∀ (a : Int) (w : World), (convert 83 9 (.slice (some ⟨w.heap.size, 0, none⟩) 1 1)).run Tryz.prog (w.alloc (.cells #[.int .u8 a] 5)) = .ok (.string (strOfNums [a])) (w.alloc (.cells #[.int .u8 a] 5)) := fun a w => conv_new [a] 1 w
  go_enter Tryz.func126, Tryz.ntmps126
  go_wp2_with (first | (go_at_call 149; refine (PP.out _).mono ?_; rintro e w' ⟨rfl, rfl⟩) | (go_at_call 150; refine (SZ.out _).mono ?_; rintro e w' ⟨rfl, rfl⟩))
  go_ret
  refine ⟨ret_string ?_, (Below.refl _ w).alloc (Nat.le_refl _) _⟩
  unfold strOfNums
  simp only [List.map_cons, List.map_nil]
  congr 3
theorem putbad_any (r : Int) (h : isPoint r = false) (w : World) : Calls Tryz.prog 126 #[.int .i32 r] w fun e w' => e = .returned (.string ⟨#[]⟩) ∧ Below w.heap.size w w' := by
  have PP := fun w => point_any r w
  rw [h] at PP
  replace PP := hid PP
  go_enter Tryz.func126, Tryz.ntmps126
  go_wp2_with (go_at_call 149; refine (PP.out _).mono ?_; rintro e w' ⟨rfl, rfl⟩)
  go_ret
  exact ⟨rfl, Below.refl _ _⟩

theorem put_rune (r : Int) (w : World) : Calls Tryz.prog 126 #[.int .i32 r] w fun e w' => e = .returned (.string (putS r)) ∧ Below w.heap.size w w' := by
  by_cases hp : isPoint r = true
  · have hb := hp
    simp only [isPoint, Bool.and_eq_true, Bool.or_eq_true, decide_eq_true_eq] at hb
    obtain ⟨m, rfl⟩ := Int.eq_ofNat_of_zero_le hb.1.1
    by_cases h1 : m ≤ 127
    · have := put1_any m h1 w
      have e : putS (m : Int) = ⟨#[UInt8.ofNat m]⟩ := by
        unfold putS putN; rw [if_pos hp, show sizeU (m : Int) = 1 by unfold sizeU; rw [if_pos (by omega)]]; rfl
      rw [e]; exact this
    · by_cases h2 : m ≤ 2047
      · have := put2_any m (by omega) h2 w
        have e : putS (m : Int) = ⟨#[UInt8.ofNat (192 + m / 64), UInt8.ofNat (128 + m % 64)]⟩ := by
          unfold putS putN; rw [if_pos hp, show sizeU (m : Int) = 2 by unfold sizeU; rw [if_neg (by omega), if_pos (by omega)]]; rfl
        rw [e]; exact this
      · by_cases h3 : m ≤ 65535
        · have := put3_any m (by omega) h3 (by omega) w
          have e : putS (m : Int) = ⟨#[UInt8.ofNat (224 + m / 4096), UInt8.ofNat (128 + m / 64 % 64), UInt8.ofNat (128 + m % 64)]⟩ := by
            unfold putS putN; rw [if_pos hp, show sizeU (m : Int) = 3 by unfold sizeU; rw [if_neg (by omega), if_neg (by omega), if_pos (by omega)]]; rfl
          rw [e]; exact this
        · have := put4_any m (by omega) (by omega) w
          have e : putS (m : Int) = ⟨#[UInt8.ofNat (240 + m / 262144), UInt8.ofNat (128 + m / 4096 % 64), UInt8.ofNat (128 + m / 64 % 64), UInt8.ofNat (128 + m % 64)]⟩ := by
            unfold putS putN; rw [if_pos hp, show sizeU (m : Int) = 4 by unfold sizeU; rw [if_neg (by omega), if_neg (by omega), if_neg (by omega)]]; rfl
          rw [e]; exact this
  · have e : putS r = ⟨#[]⟩ := by unfold putS putN; rw [if_neg hp]
    rw [e]; exact putbad_any r (by simpa using hp) w
end
end Go.Proofs.YtdjlpmelmhhooaaGreatDoor
