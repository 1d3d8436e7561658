/- Ids as texts, plainly. -/
import Derived.Test.YtdjlpmelmhhooaaGreatDoorBasX1
import Derived.Lib.Bytealg
import Derived.Lib.Replace
namespace Go.Proofs.YtdjlpmelmhhooaaGreatDoor
section
open Go

/-- Letters of base 16. -/
def hexE (l : List UInt8) : List UInt8 := enc hexL 4 false l
theorem hexE_append (a b : List UInt8) : hexE (a ++ b) = hexE a ++ hexE b := enc_append good_hex a b (.inl rfl)
theorem hexE_nil : hexE [] = [] := by
  have := hexE_append [] []
  simp at this
  exact this
theorem hexE_len (l : List UInt8) : (hexE l).length = 2 * l.length := by
  unfold hexE
  rw [enc_size (by decide)]
  simp [sizeN, padN]
  omega
theorem hexE_inj {a b : List UInt8} (h : hexE a = hexE b) : a = b := enc_inj good_hex h
/-- An id's text. -/
def textI (l : List UInt8) : List UInt8 :=
  hexE (l.take 4) ++ 45 :: (hexE ((l.drop 4).take 2) ++ 45 :: (hexE ((l.drop 6).take 2) ++ 45 :: (hexE ((l.drop 8).take 2) ++ 45 :: hexE ((l.drop 10).take 6))))
theorem textI_len (l : List UInt8) (h : l.length = 16) : (textI l).length = 36 := by
  simp [textI, hexE_len, h]
theorem id_split (l : List UInt8) (h : l.length = 16) : l = l.take 4 ++ ((l.drop 4).take 2 ++ ((l.drop 6).take 2 ++ ((l.drop 8).take 2 ++ (l.drop 10).take 6))) := by
  match l, h with
  | [a, b, c, d, e, f, g, i, j, k, m, n, o, p, q, r], _ => rfl
theorem hexE_split (l : List UInt8) (h : l.length = 16) : hexE l = hexE (l.take 4) ++ (hexE ((l.drop 4).take 2) ++ (hexE ((l.drop 6).take 2) ++ (hexE ((l.drop 8).take 2) ++ hexE ((l.drop 10).take 6)))) := by
  conv => lhs; rw [id_split l h]
  simp only [hexE_append]
/-- The five of them. -/
def pairsI : List (Nat × Nat) := [(0, 4), (4, 6), (6, 8), (8, 10), (10, 16)]
def pieceI (l : List UInt8) (p : Nat × Nat) : List UInt8 := hexE ((l.drop p.1).take (p.2 - p.1))
end
section
open Go

theorem bitsK_eight (v : Nat) : bitsK 8 v = bitsK 4 (v / 16) ++ bitsK 4 v := by
  simp only [bitsK, List.range_succ, List.range_zero, List.nil_append, List.cons_append, List.map_cons, List.map_nil]
  simp only [Nat.reduceSub, Nat.reducePow, Nat.div_div_eq_div_mul, Nat.reduceMul]
theorem hexE_cons (b : UInt8) (l : List UInt8) : hexE (b :: l) = letter hexL (b.toNat / 16) :: letter hexL (b.toNat % 16) :: hexE l := by
  have hb := b.toNat_lt
  unfold hexE enc
  rw [bitsOf_cons, bitsK_eight, List.append_assoc, digits_full (k := 4) (by decide) _ _ (bitsK_len 4 _), digits_full (k := 4) (by decide) _ _ (bitsK_len 4 _), valB_bitsK, valB_bitsK]
  simp only [encD, padN, letters, List.map_cons]
  rw [show b.toNat / 16 % 2 ^ 4 = b.toNat / 16 from Nat.mod_eq_of_lt (by omega)]
  simp
theorem letter_lt : ∀ a b : Fin 16, (letter hexL a.val < letter hexL b.val) = (a.val < b.val) := by decide +kernel
theorem letter_order {a b : Nat} (ha : a < 16) (hb : b < 16) : (letter hexL a < letter hexL b) ↔ a < b := by
  have := letter_lt ⟨a, ha⟩ ⟨b, hb⟩
  simp only at this
  rw [this]
theorem cmp_eq_zero : ∀ a b : List UInt8, Lib.compareBytes a b = 0 ↔ a = b
  | [], [] => by simp [Lib.compareBytes]
  | [], _ :: _ => by simp [Lib.compareBytes]
  | _ :: _, [] => by simp [Lib.compareBytes]
  | a :: as, b :: bs => by
    unfold Lib.compareBytes
    have ih := cmp_eq_zero as bs
    split
    · rename_i h
      have : a ≠ b := fun e => by subst e; exact absurd h (UInt8.lt_irrefl _)
      simp [this]
    · split
      · rename_i h1 h
        have : a ≠ b := fun e => by subst e; exact absurd h (UInt8.lt_irrefl _)
        simp [this]
      · rename_i h1 h2
        have : a = b := UInt8.le_antisymm (UInt8.not_lt.1 h2) (UInt8.not_lt.1 h1)
        subst this
        rw [ih]; simp
theorem cmp_neg : ∀ a b : List UInt8, Lib.compareBytes a b = -Lib.compareBytes b a
  | [], [] => by simp [Lib.compareBytes]
  | [], _ :: _ => by simp [Lib.compareBytes]
  | _ :: _, [] => by simp [Lib.compareBytes]
  | a :: as, b :: bs => by
    have ih := cmp_neg as bs
    unfold Lib.compareBytes
    by_cases h1 : a < b
    · have h2 : ¬ b < a := fun h => absurd (UInt8.lt_trans h1 h) (UInt8.lt_irrefl _)
      simp [h1, h2]
    · by_cases h2 : b < a
      · simp [h1, h2]
      · simp [h1, h2, ih]
theorem cmp_bound : ∀ a b : List UInt8, -1 ≤ Lib.compareBytes a b ∧ Lib.compareBytes a b ≤ 1
  | [], [] => by simp [Lib.compareBytes]
  | [], _ :: _ => by simp [Lib.compareBytes]
  | _ :: _, [] => by simp [Lib.compareBytes]
  | a :: as, b :: bs => by
    have ih := cmp_bound as bs
    unfold Lib.compareBytes
    split
    · decide
    · split
      · decide
      · exact ih
theorem cmp_append : ∀ a c b d : List UInt8, a.length = c.length → Lib.compareBytes (a ++ b) (c ++ d) = if Lib.compareBytes a c = 0 then Lib.compareBytes b d else Lib.compareBytes a c
  | [], [], _, _, _ => by simp [Lib.compareBytes]
  | a :: as, c :: cs, b, d, h => by
    have ih := cmp_append as cs b d (by simpa using h)
    simp only [List.cons_append, Lib.compareBytes]
    split
    · simp
    · split
      · simp
      · exact ih
theorem cmp_cons (a : UInt8) (l m : List UInt8) : Lib.compareBytes (a :: l) (a :: m) = Lib.compareBytes l m := by
  simp [Lib.compareBytes]
theorem cmp_hex : ∀ l m : List UInt8, l.length = m.length → Lib.compareBytes (hexE l) (hexE m) = Lib.compareBytes l m
  | [], [], _ => by simp [hexE_nil, Lib.compareBytes]
  | a :: l, b :: m, h => by
    have ih := cmp_hex l m (by simpa using h)
    have ha := a.toNat_lt
    have hb := b.toNat_lt
    rw [hexE_cons, hexE_cons]
    simp only [Lib.compareBytes]
    rw [ih]
    simp only [letter_order (a := a.toNat / 16) (b := b.toNat / 16) (by omega) (by omega), letter_order (a := b.toNat / 16) (b := a.toNat / 16) (by omega) (by omega),
      letter_order (a := a.toNat % 16) (b := b.toNat % 16) (by omega) (by omega), letter_order (a := b.toNat % 16) (b := a.toNat % 16) (by omega) (by omega), UInt8.lt_iff_toNat_lt]
    by_cases h1 : a.toNat < b.toNat
    · rw [if_pos h1]
      by_cases h2 : a.toNat / 16 < b.toNat / 16
      · rw [if_pos h2]
      · rw [if_neg h2, if_neg (by omega), if_pos (by omega)]
    · rw [if_neg h1]
      by_cases h3 : b.toNat < a.toNat
      · rw [if_pos h3]
        by_cases h2 : b.toNat / 16 < a.toNat / 16
        · rw [if_neg (by omega), if_pos h2]
        · rw [if_neg (by omega), if_neg h2, if_neg (by omega), if_pos (by omega)]
      · rw [if_neg h3, if_neg (by omega), if_neg (by omega), if_neg (by omega), if_neg (by omega)]
theorem cmp_text (l m : List UInt8) (hl : l.length = 16) (hm : m.length = 16) : Lib.compareBytes (textI l) (textI m) = Lib.compareBytes l m := by
  conv => rhs; rw [id_split l hl, id_split m hm]
  unfold textI
  have e : ∀ i n, i + n ≤ 16 → ((l.drop i).take n).length = ((m.drop i).take n).length := fun i n h => by simp; omega
  have e0 : (l.take 4).length = (m.take 4).length := by simp; omega
  rw [cmp_append _ _ _ _ (by rw [hexE_len, hexE_len, e0]), cmp_cons, cmp_append _ _ _ _ (by rw [hexE_len, hexE_len, e 4 2 (by omega)]), cmp_cons, cmp_append _ _ _ _ (by rw [hexE_len, hexE_len, e 6 2 (by omega)]), cmp_cons,
    cmp_append _ _ _ _ (by rw [hexE_len, hexE_len, e 8 2 (by omega)]), cmp_cons, cmp_hex _ _ e0, cmp_hex _ _ (e 4 2 (by omega)), cmp_hex _ _ (e 6 2 (by omega)), cmp_hex _ _ (e 8 2 (by omega)), cmp_hex _ _ (e 10 6 (by omega)),
    cmp_append _ _ _ _ e0, cmp_append _ _ _ _ (e 4 2 (by omega)), cmp_append _ _ _ _ (e 6 2 (by omega)), cmp_append _ _ _ _ (e 8 2 (by omega))]
theorem less_cmp : ∀ a b : List UInt8, Op.bytesLess a b = decide (Lib.compareBytes a b < 0)
  | [], [] => by simp [Lib.compareBytes, Op.bytesLess]
  | [], _ :: _ => by simp [Lib.compareBytes, Op.bytesLess]
  | _ :: _, [] => by simp [Lib.compareBytes, Op.bytesLess]
  | a :: as, b :: bs => by
    have ih := less_cmp as bs
    unfold Lib.compareBytes Op.bytesLess
    rw [ih]
    by_cases h1 : a < b
    · simp [h1]
    · by_cases h2 : b < a
      · have h3 : a ≠ b := fun e => by subst e; exact absurd h2 (UInt8.lt_irrefl _)
        simp [h1, h2, h3]
      · have h3 : a = b := UInt8.le_antisymm (UInt8.not_lt.1 h2) (UInt8.not_lt.1 h1)
        subst h3
        simp [h1]
theorem textI_inj (l m : List UInt8) (hl : l.length = 16) (hm : m.length = 16) : textI l = textI m ↔ l = m := by
  rw [← cmp_eq_zero, cmp_text l m hl hm, cmp_eq_zero]
theorem textI_zero : textI (List.replicate 16 0) = [48, 48, 48, 48, 48, 48, 48, 48, 45, 48, 48, 48, 48, 45, 48, 48, 48, 48, 45, 48, 48, 48, 48, 45, 48, 48, 48, 48, 48, 48, 48, 48, 48, 48, 48, 48] := by
  simp only [textI, List.replicate, List.take_succ_cons, List.take_zero, List.drop_succ_cons, List.drop_zero, hexE_cons, hexE_nil]
  decide +kernel
end
section
open Go

theorem index_one (c : UInt8) : ∀ s : List UInt8, (Lib.index s [c] = -1 ∧ c ∉ s) ∨ ∃ i : Nat, Lib.index s [c] = (i : Int) ∧ s = s.take i ++ c :: s.drop (i + 1) ∧ c ∉ s.take i
  | [] => .inl ⟨by simp [Lib.index], by simp⟩
  | b :: l => by
    by_cases h : c = b
    · subst h
      right
      exact ⟨0, by simp [Lib.index], by simp, by simp⟩
    · have hp : [c].isPrefixOf (b :: l) = false := by simp [List.isPrefixOf, h]
      rcases index_one c l with ⟨h1, h2⟩ | ⟨i, h1, h2, h3⟩
      · left
        refine ⟨?_, by simp [h, h2]⟩
        unfold Lib.index
        simp [hp, h1]
      · right
        refine ⟨i + 1, ?_, ?_, ?_⟩
        · unfold Lib.index
          simp only [hp, h1]
          have : ¬ ((i : Int) == -1) = true := by rw [beq_iff_eq]; omega
          simp [this]
        · simp only [List.take_succ_cons, List.drop_succ_cons, List.cons_append]
          rw [← h2]
        · simp [h, h3]
theorem filter_not (c : UInt8) (s : List UInt8) (h : c ∉ s) : s.filter (· != c) = s :=
  List.filter_eq_self.2 fun x hx => by simp; exact fun e => h (e ▸ hx)
theorem replaceK_one (c : UInt8) : ∀ (n : Nat) (s : List UInt8), s.length ≤ n → Lib.replaceK [c] [] (Lib.count s [c]) s = s.filter (· != c)
  | 0, s, h => by
    obtain rfl : s = [] := List.eq_nil_of_length_eq_zero (by omega)
    rw [Lib.count_miss (by simp [Lib.index])]
    rfl
  | n + 1, s, h => by
    rcases index_one c s with ⟨h1, h2⟩ | ⟨i, h1, h2, h3⟩
    · rw [Lib.count_miss h1, filter_not c s h2]; rfl
    · have hc := Lib.count_hit (sub := [c]) (by simp) h1
      rw [hc, Nat.add_comm, Lib.replaceK_hit _ _ _ _ i h1]
      have hl : (s.drop (i + [c].length)).length ≤ n := by
        have := congrArg List.length h2
        simp at this ⊢; omega
      rw [replaceK_one c n _ hl]
      conv => rhs; rw [h2]
      rw [List.filter_append, filter_not c _ h3]
      simp
theorem replaceAll_one (c : UInt8) (s : List UInt8) : Lib.replaceAll s [c] [] = s.filter (· != c) := by
  unfold Lib.replaceAll Lib.replace Lib.replaceNum
  have e : ([c] == ([] : List UInt8)) = false := rfl
  rw [e]
  simp [replaceK_one c s.length s (Nat.le_refl _)]
/-- A text without its signs. -/
def barI (s : List UInt8) : List UInt8 := s.filter (· != 45)
theorem letter_not45 : ∀ a : Fin 16, letter hexL a.val ≠ 45 := by decide +kernel
theorem hexE_no45 : ∀ l : List UInt8, 45 ∉ hexE l
  | [] => by simp [hexE_nil]
  | b :: l => by
    have hb := b.toNat_lt
    rw [hexE_cons]
    simp only [List.mem_cons, not_or]
    exact ⟨fun e => letter_not45 ⟨b.toNat / 16, by omega⟩ e.symm, fun e => letter_not45 ⟨b.toNat % 16, by omega⟩ e.symm, hexE_no45 l⟩
theorem barI_text (l : List UInt8) (h : l.length = 16) : barI (textI l) = hexE l := by
  unfold barI textI
  rw [hexE_split l h]
  simp only [List.filter_append, List.filter_cons, filter_not 45 _ (hexE_no45 _)]
  simp
theorem decP_hex (t o : List UInt8) : decP hexL 4 false t = some o ↔ hexE o = t := decP_iff good_hex t o
/-- What the document reads: the signs at their places, the rest. -/
def cutI (s : List UInt8) : List UInt8 := s.take 8 ++ ((s.drop 9).take 4 ++ ((s.drop 14).take 4 ++ ((s.drop 19).take 4 ++ s.drop 24)))
def signsI (s : List UInt8) : Prop := s.length = 36 ∧ s[8]? = some 45 ∧ s[13]? = some 45 ∧ s[18]? = some 45 ∧ s[23]? = some 45
theorem list36 (s : List UInt8) (h : signsI s) : s = s.take 8 ++ 45 :: ((s.drop 9).take 4 ++ 45 :: ((s.drop 14).take 4 ++ 45 :: ((s.drop 19).take 4 ++ 45 :: s.drop 24))) := by
  obtain ⟨h0, h1, h2, h3, h4⟩ := h
  have e : ∀ (k n : Nat), s[k]? = some 45 → s.drop k = 45 :: s.drop (k + 1) := fun k n hk => by
    have hlt : k < s.length := (List.getElem?_eq_some_iff.1 hk).1
    rw [List.drop_eq_getElem_cons hlt]
    rw [(List.getElem?_eq_some_iff.1 hk).2]
  have d : ∀ k m : Nat, (s.drop k).take m ++ s.drop (k + m) = s.drop k := fun k m => by
    rw [← List.drop_drop]; exact List.take_append_drop m (s.drop k)
  conv => lhs; rw [← List.take_append_drop 8 s, e 8 0 h1, ← d 9 4, e 13 0 h2, ← d 14 4, e 18 0 h3, ← d 19 4, e 23 0 h4]
theorem signs_text (l : List UInt8) (h : l.length = 16) : signsI (textI l) ∧ cutI (textI l) = hexE l := by
  have e : ∀ i n, (hexE ((l.drop i).take n)).length = 2 * min n (16 - i) := fun i n => by rw [hexE_len]; simp [h]
  have a0 : (hexE (l.take 4)).length = 8 := by have := e 0 4; simpa using this
  have a1 : (hexE ((l.drop 4).take 2)).length = 4 := e 4 2
  have a2 : (hexE ((l.drop 6).take 2)).length = 4 := e 6 2
  have a3 : (hexE ((l.drop 8).take 2)).length = 4 := e 8 2
  have a4 : (hexE ((l.drop 10).take 6)).length = 12 := e 10 6
  rw [hexE_split l h]
  unfold textI
  generalize hexE (l.take 4) = x0 at *
  generalize hexE ((l.drop 4).take 2) = x1 at *
  generalize hexE ((l.drop 6).take 2) = x2 at *
  generalize hexE ((l.drop 8).take 2) = x3 at *
  generalize hexE ((l.drop 10).take 6) = x4 at *
  refine ⟨⟨by simp [a0, a1, a2, a3, a4], ?_, ?_, ?_, ?_⟩, ?_⟩
  · rw [List.getElem?_append_right (by omega)]; simp [a0]
  · rw [List.getElem?_append_right (by omega), a0, List.getElem?_cons_succ, List.getElem?_append_right (by omega)]; simp [a1]
  · rw [List.getElem?_append_right (by omega), a0, List.getElem?_cons_succ, List.getElem?_append_right (by omega), a1, List.getElem?_cons_succ, List.getElem?_append_right (by omega)]; simp [a2]
  · rw [List.getElem?_append_right (by omega), a0, List.getElem?_cons_succ, List.getElem?_append_right (by omega), a1, List.getElem?_cons_succ, List.getElem?_append_right (by omega), a2, List.getElem?_cons_succ, List.getElem?_append_right (by omega)]; simp [a3]
  · have t0 : ∀ (x y : List UInt8) n, x.length = n → (x ++ y).take n = x := fun x y n hn => by rw [List.take_left' hn]
    have t1 : ∀ (x y : List UInt8) n k, x.length = n → (x ++ y).drop (n + k) = y.drop k := fun x y n k hn => by
      rw [← List.drop_drop, List.drop_left' hn]
    unfold cutI
    have d9 := t1 x0 (45 :: (x1 ++ 45 :: (x2 ++ 45 :: (x3 ++ 45 :: x4)))) 8 1 a0
    have d14 := t1 x0 (45 :: (x1 ++ 45 :: (x2 ++ 45 :: (x3 ++ 45 :: x4)))) 8 6 a0
    have d19 := t1 x0 (45 :: (x1 ++ 45 :: (x2 ++ 45 :: (x3 ++ 45 :: x4)))) 8 11 a0
    have d24 := t1 x0 (45 :: (x1 ++ 45 :: (x2 ++ 45 :: (x3 ++ 45 :: x4)))) 8 16 a0
    simp only [Nat.reduceAdd] at d9 d14 d19 d24
    rw [t0 _ _ 8 a0, d9, d14, d19, d24]
    simp only [List.drop_succ_cons, List.drop_zero]
    rw [t0 _ _ 4 a1, show 5 = 4 + 1 from rfl, t1 _ _ 4 1 a1, show 10 = 4 + 6 from rfl, t1 _ _ 4 6 a1, show 15 = 4 + 11 from rfl, t1 _ _ 4 11 a1]
    simp only [List.drop_succ_cons, List.drop_zero]
    rw [t0 _ _ 4 a2, show 5 = 4 + 1 from rfl, t1 _ _ 4 1 a2, show 10 = 4 + 6 from rfl, t1 _ _ 4 6 a2]
    simp only [List.drop_succ_cons, List.drop_zero]
    rw [t0 _ _ 4 a3, show 5 = 4 + 1 from rfl, t1 _ _ 4 1 a3]
    simp
theorem text_of_cut (s b : List UInt8) (h : signsI s) (hb : hexE b = cutI s) : b.length = 16 ∧ textI b = s := by
  have hl : b.length = 16 := by
    have h1 := congrArg List.length hb
    rw [hexE_len] at h1
    simp [cutI, h.1] at h1
    omega
  refine ⟨hl, ?_⟩
  rw [list36 s h]
  have hs := hexE_split b hl
  rw [hb] at hs
  unfold cutI at hs
  have e : ∀ i n, (hexE ((b.drop i).take n)).length = 2 * min n (16 - i) := fun i n => by rw [hexE_len]; simp [hl]
  have a0 : (hexE (b.take 4)).length = 8 := by have := e 0 4; simpa using this
  have a1 : (hexE ((b.drop 4).take 2)).length = 4 := e 4 2
  have a2 : (hexE ((b.drop 6).take 2)).length = 4 := e 6 2
  have a3 : (hexE ((b.drop 8).take 2)).length = 4 := e 8 2
  have h36 := h.1
  obtain ⟨e0, hs⟩ := List.append_inj hs (by simp [a0, h36])
  obtain ⟨e1, hs⟩ := List.append_inj hs (by simp [a1, h36])
  obtain ⟨e2, hs⟩ := List.append_inj hs (by simp [a2, h36])
  obtain ⟨e3, e4⟩ := List.append_inj hs (by simp [a3, h36])
  unfold textI
  rw [e0, e1, e2, e3, e4]
end
end Go.Proofs.YtdjlpmelmhhooaaGreatDoor
