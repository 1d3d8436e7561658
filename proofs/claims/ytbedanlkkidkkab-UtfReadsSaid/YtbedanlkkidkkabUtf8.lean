/- Plain words on layer 4: what is written is read as it was, and the other way. No program in sight. -/
import Derived.Test.YtbedanlkkidkkabUtf5
namespace Go.Proofs.Ytbedanlkkidkkab
open Go

theorem firstN_of {b : UInt8} {t : List UInt8} {k r0 r : Nat} (hl : leadN b.toNat = (k, r0)) (hk : k ≠ 0) (hlen : k ≤ t.length + 1) (ht : tailN t (k - 1) r0 = some r) (hp : isPoint (r : Nat) = true) (hs : sizeN (r : Nat) = k) :
    firstN (b :: t) = some (r, k) := by
  unfold firstN
  simp only [hl, List.length_cons]
  rw [if_neg (by omega), ht]
  simp only []
  rw [if_pos ⟨hp, hs⟩]
theorem u8_ofNat {m : Nat} (h : m < 256) : (UInt8.ofNat m).toNat = m := by simp; omega
theorem u8_eq {m : Nat} {b : UInt8} (h : m = b.toNat) : UInt8.ofNat m = b := by rw [h]; exact UInt8.ofNat_toNat
theorem tail_cons {c : UInt8} {l : List UInt8} {k r : Nat} (h : c.toNat / 64 = 2) : tailN (c :: l) (k + 1) r = tailN l k (r * 64 + c.toNat % 64) := by
  rw [tailN, if_pos h]
theorem tail_zero (l : List UInt8) (r : Nat) : tailN l 0 r = some r := by cases l <;> rfl
theorem point_nat {r : Nat} (h : isPoint (r : Nat) = true) : r ≤ 1114111 ∧ (r < 55296 ∨ 57343 < r) := by
  simp only [isPoint, Bool.and_eq_true, Bool.or_eq_true, decide_eq_true_eq] at h; omega
theorem put1 {r : Nat} (hp : isPoint (r : Nat) = true) (h : r < 128) : putN (r : Nat) = [UInt8.ofNat r] ∧ sizeN (r : Nat) = 1 := by
  have hz : sizeN (r : Nat) = 1 := by unfold sizeN; rw [if_pos (by omega)]
  refine ⟨?_, hz⟩
  rw [putN, if_pos hp]; simp only [hz, Int.toNat_natCast]
theorem put2 {r : Nat} (hp : isPoint (r : Nat) = true) (h0 : 128 ≤ r) (h : r < 2048) : putN (r : Nat) = [UInt8.ofNat (192 + r / 64), UInt8.ofNat (128 + r % 64)] ∧ sizeN (r : Nat) = 2 := by
  have hz : sizeN (r : Nat) = 2 := by unfold sizeN; rw [if_neg (by omega), if_pos (by omega)]
  refine ⟨?_, hz⟩
  rw [putN, if_pos hp]; simp only [hz, Int.toNat_natCast]
theorem put3 {r : Nat} (hp : isPoint (r : Nat) = true) (h0 : 2048 ≤ r) (h : r < 65536) : putN (r : Nat) = [UInt8.ofNat (224 + r / 4096), UInt8.ofNat (128 + r / 64 % 64), UInt8.ofNat (128 + r % 64)] ∧ sizeN (r : Nat) = 3 := by
  have hz : sizeN (r : Nat) = 3 := by unfold sizeN; rw [if_neg (by omega), if_neg (by omega), if_pos (by omega)]
  refine ⟨?_, hz⟩
  rw [putN, if_pos hp]; simp only [hz, Int.toNat_natCast]
theorem put4 {r : Nat} (hp : isPoint (r : Nat) = true) (h0 : 65536 ≤ r) : putN (r : Nat) = [UInt8.ofNat (240 + r / 262144), UInt8.ofNat (128 + r / 4096 % 64), UInt8.ofNat (128 + r / 64 % 64), UInt8.ofNat (128 + r % 64)] ∧ sizeN (r : Nat) = 4 := by
  have hz : sizeN (r : Nat) = 4 := by unfold sizeN; rw [if_neg (by omega), if_neg (by omega), if_neg (by omega)]
  refine ⟨?_, hz⟩
  rw [putN, if_pos hp]; simp only [hz, Int.toNat_natCast]
theorem put_len {r : Nat} (hp : isPoint (r : Nat) = true) : (putN (r : Nat)).length = sizeN (r : Nat) := by
  by_cases h1 : r < 128
  · rw [(put1 hp h1).1, (put1 hp h1).2]; rfl
  · by_cases h2 : r < 2048
    · rw [(put2 hp (by omega) h2).1, (put2 hp (by omega) h2).2]; rfl
    · by_cases h3 : r < 65536
      · rw [(put3 hp (by omega) h3).1, (put3 hp (by omega) h3).2]; rfl
      · rw [(put4 hp (by omega)).1, (put4 hp (by omega)).2]; rfl

theorem lead1 {b : Nat} (h : b < 128) : leadN b = (1, b) := by rw [leadN, if_pos h]
theorem lead2 {b : Nat} (h : 192 ≤ b ∧ b < 224) : leadN b = (2, b % 32) := by rw [leadN, if_neg (by omega), if_pos h]
theorem lead3 {b : Nat} (h : 224 ≤ b ∧ b < 240) : leadN b = (3, b % 16) := by rw [leadN, if_neg (by omega), if_neg (by omega), if_pos h]
theorem lead4 {b : Nat} (h : 240 ≤ b ∧ b < 248) : leadN b = (4, b % 8) := by rw [leadN, if_neg (by omega), if_neg (by omega), if_neg (by omega), if_pos h]

theorem firstN_put {r : Nat} (hp : isPoint (r : Nat) = true) (t : List UInt8) : firstN (putN (r : Nat) ++ t) = some (r, sizeN (r : Nat)) := by
  have hq := point_nat hp
  by_cases h1 : r < 128
  · obtain ⟨e, hz⟩ := put1 hp h1
    rw [e, hz]
    refine firstN_of (r0 := r) (by rw [u8_ofNat (by omega)]; exact lead1 h1) (by omega) (by simp) (tail_zero _ _) hp hz
  · by_cases h2 : r < 2048
    · obtain ⟨e, hz⟩ := put2 hp (by omega) h2
      rw [e, hz]
      have b1 : (UInt8.ofNat (128 + r % 64)).toNat = 128 + r % 64 := u8_ofNat (by omega)
      refine firstN_of (r0 := r / 64) (by rw [u8_ofNat (by omega), lead2 (by omega), show (192 + r / 64) % 32 = r / 64 by omega]) (by omega) (by simp) ?_ hp hz
      show tailN (UInt8.ofNat (128 + r % 64) :: t) (0 + 1) _ = _
      rw [tail_cons (by rw [b1]; omega), tail_zero, b1, Option.some.injEq]
      omega
    · by_cases h3 : r < 65536
      · obtain ⟨e, hz⟩ := put3 hp (by omega) h3
        rw [e, hz]
        have b1 : (UInt8.ofNat (128 + r % 64)).toNat = 128 + r % 64 := u8_ofNat (by omega)
        have b2 : (UInt8.ofNat (128 + r / 64 % 64)).toNat = 128 + r / 64 % 64 := u8_ofNat (by omega)
        refine firstN_of (r0 := r / 4096) (by rw [u8_ofNat (by omega), lead3 (by omega), show (224 + r / 4096) % 16 = r / 4096 by omega]) (by omega) (by simp) ?_ hp hz
        show tailN (UInt8.ofNat (128 + r / 64 % 64) :: UInt8.ofNat (128 + r % 64) :: t) (1 + 1) _ = _
        rw [tail_cons (by rw [b2]; omega), tail_cons (by rw [b1]; omega), tail_zero, b1, b2, Option.some.injEq]
        omega
      · obtain ⟨e, hz⟩ := put4 hp (by omega)
        rw [e, hz]
        have b1 : (UInt8.ofNat (128 + r % 64)).toNat = 128 + r % 64 := u8_ofNat (by omega)
        have b2 : (UInt8.ofNat (128 + r / 64 % 64)).toNat = 128 + r / 64 % 64 := u8_ofNat (by omega)
        have b3 : (UInt8.ofNat (128 + r / 4096 % 64)).toNat = 128 + r / 4096 % 64 := u8_ofNat (by omega)
        refine firstN_of (r0 := r / 262144) (by rw [u8_ofNat (by omega), lead4 (by omega), show (240 + r / 262144) % 8 = r / 262144 by omega]) (by omega) (by simp) ?_ hp hz
        show tailN (UInt8.ofNat (128 + r / 4096 % 64) :: UInt8.ofNat (128 + r / 64 % 64) :: UInt8.ofNat (128 + r % 64) :: t) (2 + 1) _ = _
        rw [tail_cons (by rw [b3]; omega), tail_cons (by rw [b2]; omega), tail_cons (by rw [b1]; omega), tail_zero, b1, b2, b3, Option.some.injEq]
        omega

theorem tail_some {k : Nat} {l : List UInt8} {r0 r : Nat} (h : tailN l (k + 1) r0 = some r) : ∃ c t, l = c :: t ∧ c.toNat / 64 = 2 ∧ tailN t k (r0 * 64 + c.toNat % 64) = some r := by
  cases l with
  | nil => simp [tailN] at h
  | cons c t =>
    rw [tailN] at h
    split at h
    · exact ⟨c, t, rfl, by assumption, h⟩
    · cases h
/-- What is read stands there as it is written. -/
theorem firstN_is {l : List UInt8} {r n : Nat} (h : firstN l = some (r, n)) : l = putN (r : Nat) ++ l.drop n ∧ n = sizeN (r : Nat) ∧ isPoint (r : Nat) = true := by
  obtain ⟨-, -, -, hp, hz⟩ := firstN_size h
  refine ⟨?_, hz.symm, hp⟩
  cases l with
  | nil => cases h
  | cons b t =>
    unfold firstN at h
    simp only at h
    split at h
    · cases h
    · rename_i h1
      split at h
      · cases h
      · rename_i r' ht
        split at h
        · simp only [Option.some.injEq, Prod.mk.injEq] at h
          obtain ⟨rfl, hn⟩ := h
          have hb := byte_lt b
          by_cases c1 : b.toNat < 128
          · rw [lead1 c1] at ht hn
            simp only [Nat.sub_self, tail_zero, Option.some.injEq] at ht hn
            subst hn
            rw [(put1 hp (by omega)).1, u8_eq ht.symm]; rfl
          · by_cases c2 : 192 ≤ b.toNat ∧ b.toNat < 224
            · rw [lead2 c2] at ht hn
              simp only at ht hn
              subst hn
              obtain ⟨c, t1, rfl, hc, ht⟩ := tail_some (k := 0) ht
              rw [tail_zero, Option.some.injEq] at ht
              have hcc := byte_lt c
              have e2 : sizeN (r' : Nat) = 2 := hz
              have hr : 128 ≤ r' := by unfold sizeN at e2; split at e2 <;> omega
              rw [(put2 hp hr (by omega)).1, u8_eq (b := b) (by omega), u8_eq (b := c) (by omega)]; rfl
            · by_cases c3 : 224 ≤ b.toNat ∧ b.toNat < 240
              · rw [lead3 c3] at ht hn
                simp only at ht hn
                subst hn
                obtain ⟨c, t1, rfl, hc, ht⟩ := tail_some (k := 1) ht
                obtain ⟨d, t2, rfl, hd, ht⟩ := tail_some (k := 0) ht
                rw [tail_zero, Option.some.injEq] at ht
                have hcc := byte_lt c
                have hdd := byte_lt d
                have e2 : sizeN (r' : Nat) = 3 := hz
                have hr : 2048 ≤ r' := by unfold sizeN at e2; split at e2 <;> (try split at e2) <;> omega
                rw [(put3 hp hr (by omega)).1, u8_eq (b := b) (by omega), u8_eq (b := c) (by omega), u8_eq (b := d) (by omega)]; rfl
              · by_cases c4 : 240 ≤ b.toNat ∧ b.toNat < 248
                · rw [lead4 c4] at ht hn
                  simp only at ht hn
                  subst hn
                  obtain ⟨c, t1, rfl, hc, ht⟩ := tail_some (k := 2) ht
                  obtain ⟨d, t2, rfl, hd, ht⟩ := tail_some (k := 1) ht
                  obtain ⟨f, t3, rfl, hf, ht⟩ := tail_some (k := 0) ht
                  rw [tail_zero, Option.some.injEq] at ht
                  have hcc := byte_lt c
                  have hdd := byte_lt d
                  have hff := byte_lt f
                  have e2 : sizeN (r' : Nat) = 4 := hz
                  have hr : 65536 ≤ r' := by unfold sizeN at e2; split at e2 <;> (try split at e2) <;> (try split at e2) <;> omega
                  rw [(put4 hp hr).1, u8_eq (b := b) (by omega), u8_eq (b := c) (by omega), u8_eq (b := d) (by omega), u8_eq (b := f) (by omega)]; rfl
                · exfalso
                  have : leadN b.toNat = (0, 0) := by rw [leadN, if_neg c1, if_neg c2, if_neg c3, if_neg c4]
                  rw [this] at h1
                  simp at h1
        · cases h

end Go.Proofs.Ytbedanlkkidkkab
