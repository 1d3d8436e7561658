/- Plain law: the sum by the table is the sum by the bits; one bit turned makes another sum. -/
import Derived.Test.YtbedanlkkidkkaaCrc0
namespace Go.Proofs.Ytbedanlkkidkkaa
open Go

theorem xor_rc {a b c : Nat} (h : a ^^^ c = b ^^^ c) : a = b := by
  have h2 : a ^^^ c ^^^ c = b ^^^ c ^^^ c := by rw [h]
  rwa [Nat.xor_assoc, Nat.xor_assoc, Nat.xor_self, Nat.xor_zero, Nat.xor_zero] at h2
theorem xor_lc {a b c : Nat} (h : c ^^^ a = c ^^^ b) : a = b := by
  rw [Nat.xor_comm c, Nat.xor_comm c] at h; exact xor_rc h
theorem xor_half (x y : Nat) : (x ^^^ y) / 2 = x / 2 ^^^ y / 2 := by
  have := Nat.shiftRight_xor_distrib (a := x) (b := y) (i := 1)
  simpa [Nat.shiftRight_eq_div_pow] using this
theorem stepN_xor (x y : Nat) : stepN (x ^^^ y) = stepN x ^^^ stepN y := by
  unfold stepN
  rw [xor_half]
  have hp := Nat.xor_mod_two_eq_one (a := x) (b := y)
  by_cases hx : x % 2 = 1 <;> by_cases hy : y % 2 = 1
  · rw [if_neg (by rw [hp]; simp [hx, hy]), if_pos hx, if_pos hy]
    rw [Nat.xor_assoc (x / 2), Nat.xor_comm 3988292384, Nat.xor_assoc (y / 2), Nat.xor_self, Nat.xor_zero]
  · rw [if_pos (by rw [hp]; simp [hx, hy]), if_pos hx, if_neg hy]
    rw [Nat.xor_assoc, Nat.xor_comm (y / 2), ← Nat.xor_assoc]
  · rw [if_pos (by rw [hp]; simp [hx, hy]), if_neg hx, if_pos hy, Nat.xor_assoc]
  · rw [if_neg (by rw [hp]; simp [hx, hy]), if_neg hx, if_neg hy]
theorem iterN_xor (x y : Nat) : ∀ k, iterN (x ^^^ y) k = iterN x k ^^^ iterN y k
  | 0 => rfl
  | k + 1 => by simp only [iterN]; rw [iterN_xor x y k, stepN_xor]
theorem iterN_pow (m : Nat) : ∀ k j, iterN (m * 2 ^ (k + j)) k = m * 2 ^ j
  | 0, j => by simp [iterN]
  | k + 1, j => by
    have h := iterN_pow m k (j + 1)
    rw [show k + (j + 1) = k + 1 + j by omega] at h
    simp only [iterN]; rw [h]
    unfold stepN
    have e : m * 2 ^ (j + 1) = 2 * (m * 2 ^ j) := by rw [Nat.pow_succ]; rw [Nat.mul_comm 2, Nat.mul_assoc]
    rw [e, if_neg (by omega)]
    omega
theorem split8 (n : Nat) (b : Nat) : n ^^^ b = ((n % 256) ^^^ b) ^^^ (n / 256 * 256) := by
  have h1 : n % 256 < 2 ^ 8 := by omega
  have e : n = n / 256 * 256 ^^^ n % 256 := by
    have h2 := Nat.two_pow_add_eq_or_of_lt h1 (n / 256)
    have h3 : 2 ^ 8 * (n / 256) ||| n % 256 = 2 ^ 8 * (n / 256) ^^^ n % 256 := by
      apply Nat.eq_of_testBit_eq
      intro i
      rw [Nat.testBit_or, Nat.testBit_xor]
      by_cases hi : i < 8
      · rw [Nat.testBit_two_pow_mul]; simp [show ¬ 8 ≤ i by omega]
      · have : (n % 256).testBit i = false := Nat.testBit_lt_two_pow (Nat.lt_of_lt_of_le h1 (Nat.pow_le_pow_right (by omega) (by omega)))
        simp [this]
    rw [← h2] at h3
    have h4 : 2 ^ 8 * (n / 256) + n % 256 = n := by omega
    rw [h4] at h3
    rw [Nat.mul_comm]; exact h3
  conv => lhs; rw [e]
  rw [Nat.xor_assoc, Nat.xor_comm]
theorem crcB_eq (n : Nat) (b : UInt8) : crcB n b = rcrcB n b := by
  unfold crcB rcrcB tabN
  have := iterN_pow (n / 256) 8 0
  simp at this
  rw [split8 n b.toNat, iterN_xor _ (n / 256 * 256), this]
theorem crcS_eq (n : Nat) (l : List UInt8) : crcS n l = rcrcS n l := by
  unfold crcS rcrcS
  congr 1
  funext n b
  exact crcB_eq n b
theorem rcrcS_append (n : Nat) (a b : List UInt8) : rcrcS n (a ++ b) = rcrcS (rcrcS n a) b := by simp [rcrcS]

/-! ### One bit turned -/
theorem stepN_inj {a b : Nat} (ha : a < 4294967296) (hb : b < 4294967296) (h : stepN a = stepN b) : a = b := by
  have key : ∀ x y : Nat, x < 4294967296 → y < 4294967296 → x % 2 = 1 → ¬ y % 2 = 1 → stepN x = stepN y → False := fun x y hx hy hx1 hy1 h => by
    unfold stepN at h
    rw [if_pos hx1, if_neg hy1] at h
    have h2 : x / 2 ^^^ (x / 2 ^^^ 3988292384) = x / 2 ^^^ y / 2 := by rw [h]
    rw [← Nat.xor_assoc, Nat.xor_self, Nat.zero_xor] at h2
    have := Nat.xor_lt_two_pow (n := 31) (x := x / 2) (y := y / 2) (by omega) (by omega)
    omega
  by_cases h1 : a % 2 = 1 <;> by_cases h2 : b % 2 = 1
  · unfold stepN at h
    rw [if_pos h1, if_pos h2] at h
    have := xor_rc h
    omega
  · exact (key a b ha hb h1 h2 h).elim
  · exact (key b a hb ha h2 h1 h.symm).elim
  · unfold stepN at h
    rw [if_neg h1, if_neg h2] at h
    omega
theorem iterN_inj {a b : Nat} (ha : a < 4294967296) (hb : b < 4294967296) : ∀ k, iterN a k = iterN b k → a = b
  | 0, h => h
  | k + 1, h => iterN_inj ha hb k (stepN_inj (iterN_lt ha k) (iterN_lt hb k) h)
theorem rcrcB_inj {a b : Nat} (ha : a < 4294967296) (hb : b < 4294967296) (c : UInt8) (h : rcrcB a c = rcrcB b c) : a = b := by
  have hc := c.toNat_lt
  have := iterN_inj (Nat.xor_lt_two_pow (n := 32) (by omega) (by omega)) (Nat.xor_lt_two_pow (n := 32) (by omega) (by omega)) 8 h
  exact xor_rc this
theorem rcrcS_inj {a b : Nat} (ha : a < 4294967296) (hb : b < 4294967296) (l : List UInt8) (h : rcrcS a l = rcrcS b l) : a = b := by
  induction l generalizing a b with
  | nil => exact h
  | cons c l ih => exact rcrcB_inj ha hb c (ih (rcrcB_lt ha c) (rcrcB_lt hb c) h)
theorem rcrcB_byte {a : Nat} (ha : a < 4294967296) (c d : UInt8) (h : rcrcB a c = rcrcB a d) : c = d := by
  have hc := c.toNat_lt
  have hd := d.toNat_lt
  have := iterN_inj (Nat.xor_lt_two_pow (n := 32) (by omega) (by omega)) (Nat.xor_lt_two_pow (n := 32) (by omega) (by omega)) 8 h
  exact UInt8.toNat_inj.1 (xor_lc this)
/-- A text with one byte changed has another sum. -/
theorem rcrcS_set {n : Nat} (hn : n < 4294967296) (l : List UInt8) (i : Nat) (hi : i < l.length) (d : UInt8) (hd : d ≠ l[i]) : rcrcS n (l.set i d) ≠ rcrcS n l := by
  induction l generalizing n i with
  | nil => simp at hi
  | cons c l ih =>
    cases i with
    | zero =>
      intro h
      simp only [List.set_cons_zero] at h
      have h2 := rcrcS_inj (rcrcB_lt hn d) (rcrcB_lt hn c) l h
      exact hd (rcrcB_byte hn d c h2)
    | succ i =>
      intro h
      simp only [List.set_cons_succ] at h
      exact ih (rcrcB_lt hn c) i (by simpa using hi) (by simpa using hd) h

theorem tab_law : ∀ x : Fin 256, tabN x.val = ((4294967295 - rcrcS 4294967295 [UInt8.ofNat (x.val ^^^ 255)]) ^^^ 4294967295) ^^^ 16777215 := by decide +kernel

end Go.Proofs.Ytbedanlkkidkkaa
