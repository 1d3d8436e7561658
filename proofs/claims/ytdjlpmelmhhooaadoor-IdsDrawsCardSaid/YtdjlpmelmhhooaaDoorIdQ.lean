/- Ids as texts, plainly: a byte's two letters; the order of texts is that of ids. -/
import Derived.Test.YtdjlpmelmhhooaaDoorIdP
import Derived.Lib.Bytealg
namespace Go.Proofs.YtdjlpmelmhhooaaDoor
open Go

theorem bitsK_eight (v : Nat) : bitsK 8 v = bitsK 4 (v / 16) ++ bitsK 4 v := by
  simp only [bitsK, List.range_succ, List.range_zero, List.nil_append, List.cons_append, List.map_cons, List.map_nil]
  simp only [Nat.reduceSub, Nat.reducePow, Nat.div_div_eq_div_mul, Nat.reduceMul]
theorem hexE_cons (b : UInt8) (l : List UInt8) : hexE (b :: l) = letter hexL (b.toNat / 16) :: letter hexL (b.toNat % 16) :: hexE l := by
  have hb := b.toNat_lt
  unfold hexE enc
  rw [bitsOf_cons, bitsK_eight, List.append_assoc, digits_full (k := 4) (by decide) _ _ (bitsK_len 4 _), digits_full (k := 4) (by decide) _ _ (bitsK_len 4 _), valB_bitsK, valB_bitsK]
  simp only [encD, padN, letters, List.map_cons]
  rw [show b.toNat / 16 % 2 ^ 4 = b.toNat / 16 from Nat.mod_eq_of_lt (by omega)]
  simp
theorem letter_lt : ∀ a b : Fin 16, (letter hexL a.val < letter hexL b.val) = (a.val < b.val) := by decide +kernel
theorem letter_order {a b : Nat} (ha : a < 16) (hb : b < 16) : (letter hexL a < letter hexL b) ↔ a < b := by
  have := letter_lt ⟨a, ha⟩ ⟨b, hb⟩
  simp only at this
  rw [this]
theorem cmp_eq_zero : ∀ a b : List UInt8, Lib.compareBytes a b = 0 ↔ a = b
  | [], [] => by simp [Lib.compareBytes]
  | [], _ :: _ => by simp [Lib.compareBytes]
  | _ :: _, [] => by simp [Lib.compareBytes]
  | a :: as, b :: bs => by
    unfold Lib.compareBytes
    have ih := cmp_eq_zero as bs
    split
    · rename_i h
      have : a ≠ b := fun e => by subst e; exact absurd h (UInt8.lt_irrefl _)
      simp [this]
    · split
      · rename_i h1 h
        have : a ≠ b := fun e => by subst e; exact absurd h (UInt8.lt_irrefl _)
        simp [this]
      · rename_i h1 h2
        have : a = b := UInt8.le_antisymm (UInt8.not_lt.1 h2) (UInt8.not_lt.1 h1)
        subst this
        rw [ih]; simp
theorem cmp_neg : ∀ a b : List UInt8, Lib.compareBytes a b = -Lib.compareBytes b a
  | [], [] => by simp [Lib.compareBytes]
  | [], _ :: _ => by simp [Lib.compareBytes]
  | _ :: _, [] => by simp [Lib.compareBytes]
  | a :: as, b :: bs => by
    have ih := cmp_neg as bs
    unfold Lib.compareBytes
    by_cases h1 : a < b
    · have h2 : ¬ b < a := fun h => absurd (UInt8.lt_trans h1 h) (UInt8.lt_irrefl _)
      simp [h1, h2]
    · by_cases h2 : b < a
      · simp [h1, h2]
      · simp [h1, h2, ih]
theorem cmp_bound : ∀ a b : List UInt8, -1 ≤ Lib.compareBytes a b ∧ Lib.compareBytes a b ≤ 1
  | [], [] => by simp [Lib.compareBytes]
  | [], _ :: _ => by simp [Lib.compareBytes]
  | _ :: _, [] => by simp [Lib.compareBytes]
  | a :: as, b :: bs => by
    have ih := cmp_bound as bs
    unfold Lib.compareBytes
    split
    · decide
    · split
      · decide
      · exact ih
theorem cmp_append : ∀ a c b d : List UInt8, a.length = c.length → Lib.compareBytes (a ++ b) (c ++ d) = if Lib.compareBytes a c = 0 then Lib.compareBytes b d else Lib.compareBytes a c
  | [], [], _, _, _ => by simp [Lib.compareBytes]
  | a :: as, c :: cs, b, d, h => by
    have ih := cmp_append as cs b d (by simpa using h)
    simp only [List.cons_append, Lib.compareBytes]
    split
    · simp
    · split
      · simp
      · exact ih
theorem cmp_cons (a : UInt8) (l m : List UInt8) : Lib.compareBytes (a :: l) (a :: m) = Lib.compareBytes l m := by
  simp [Lib.compareBytes]
theorem cmp_hex : ∀ l m : List UInt8, l.length = m.length → Lib.compareBytes (hexE l) (hexE m) = Lib.compareBytes l m
  | [], [], _ => by simp [hexE_nil, Lib.compareBytes]
  | a :: l, b :: m, h => by
    have ih := cmp_hex l m (by simpa using h)
    have ha := a.toNat_lt
    have hb := b.toNat_lt
    rw [hexE_cons, hexE_cons]
    simp only [Lib.compareBytes]
    rw [ih]
    simp only [letter_order (a := a.toNat / 16) (b := b.toNat / 16) (by omega) (by omega), letter_order (a := b.toNat / 16) (b := a.toNat / 16) (by omega) (by omega),
      letter_order (a := a.toNat % 16) (b := b.toNat % 16) (by omega) (by omega), letter_order (a := b.toNat % 16) (b := a.toNat % 16) (by omega) (by omega), UInt8.lt_iff_toNat_lt]
    by_cases h1 : a.toNat < b.toNat
    · rw [if_pos h1]
      by_cases h2 : a.toNat / 16 < b.toNat / 16
      · rw [if_pos h2]
      · rw [if_neg h2, if_neg (by omega), if_pos (by omega)]
    · rw [if_neg h1]
      by_cases h3 : b.toNat < a.toNat
      · rw [if_pos h3]
        by_cases h2 : b.toNat / 16 < a.toNat / 16
        · rw [if_neg (by omega), if_pos h2]
        · rw [if_neg (by omega), if_neg h2, if_neg (by omega), if_pos (by omega)]
      · rw [if_neg h3, if_neg (by omega), if_neg (by omega), if_neg (by omega), if_neg (by omega)]
theorem cmp_text (l m : List UInt8) (hl : l.length = 16) (hm : m.length = 16) : Lib.compareBytes (textI l) (textI m) = Lib.compareBytes l m := by
  conv => rhs; rw [id_split l hl, id_split m hm]
  unfold textI
  have e : ∀ i n, i + n ≤ 16 → ((l.drop i).take n).length = ((m.drop i).take n).length := fun i n h => by simp; omega
  have e0 : (l.take 4).length = (m.take 4).length := by simp; omega
  rw [cmp_append _ _ _ _ (by rw [hexE_len, hexE_len, e0]), cmp_cons, cmp_append _ _ _ _ (by rw [hexE_len, hexE_len, e 4 2 (by omega)]), cmp_cons, cmp_append _ _ _ _ (by rw [hexE_len, hexE_len, e 6 2 (by omega)]), cmp_cons,
    cmp_append _ _ _ _ (by rw [hexE_len, hexE_len, e 8 2 (by omega)]), cmp_cons, cmp_hex _ _ e0, cmp_hex _ _ (e 4 2 (by omega)), cmp_hex _ _ (e 6 2 (by omega)), cmp_hex _ _ (e 8 2 (by omega)), cmp_hex _ _ (e 10 6 (by omega)),
    cmp_append _ _ _ _ e0, cmp_append _ _ _ _ (e 4 2 (by omega)), cmp_append _ _ _ _ (e 6 2 (by omega)), cmp_append _ _ _ _ (e 8 2 (by omega))]
theorem less_cmp : ∀ a b : List UInt8, Op.bytesLess a b = decide (Lib.compareBytes a b < 0)
  | [], [] => by simp [Lib.compareBytes, Op.bytesLess]
  | [], _ :: _ => by simp [Lib.compareBytes, Op.bytesLess]
  | _ :: _, [] => by simp [Lib.compareBytes, Op.bytesLess]
  | a :: as, b :: bs => by
    have ih := less_cmp as bs
    unfold Lib.compareBytes Op.bytesLess
    rw [ih]
    by_cases h1 : a < b
    · simp [h1]
    · by_cases h2 : b < a
      · have h3 : a ≠ b := fun e => by subst e; exact absurd h2 (UInt8.lt_irrefl _)
        simp [h1, h2, h3]
      · have h3 : a = b := UInt8.le_antisymm (UInt8.not_lt.1 h2) (UInt8.not_lt.1 h1)
        subst h3
        simp [h1]
theorem textI_inj (l m : List UInt8) (hl : l.length = 16) (hm : m.length = 16) : textI l = textI m ↔ l = m := by
  rw [← cmp_eq_zero, cmp_text l m hl hm, cmp_eq_zero]
theorem textI_zero : textI (List.replicate 16 0) = [48, 48, 48, 48, 48, 48, 48, 48, 45, 48, 48, 48, 48, 45, 48, 48, 48, 48, 45, 48, 48, 48, 48, 45, 48, 48, 48, 48, 48, 48, 48, 48, 48, 48, 48, 48] := by
  simp only [textI, List.replicate, List.take_succ_cons, List.take_zero, List.drop_succ_cons, List.drop_zero, hexE_cons, hexE_nil]
  decide +kernel
end Go.Proofs.YtdjlpmelmhhooaaDoor
