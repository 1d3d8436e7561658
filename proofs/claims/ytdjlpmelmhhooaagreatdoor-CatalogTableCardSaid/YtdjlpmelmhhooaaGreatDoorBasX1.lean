/- Letters, plainly. -/
import Derived.Test.YtdjlpmelmhhooaaGreatDoorKit
import Derived.Lib.Bytealg
namespace Go.Proofs.YtdjlpmelmhhooaaGreatDoor
section
open Go

/-- The value of bits, the highest first. -/
def valB (l : List Nat) : Nat := l.foldl (fun n b => 2 * n + b) 0
def IsBits (l : List Nat) : Prop := ∀ b ∈ l, b < 2
theorem valB_acc (l : List Nat) : ∀ n, l.foldl (fun n b => 2 * n + b) n = n * 2 ^ l.length + valB l := by
  induction l with
  | nil => intro n; simp [valB]
  | cons b l ih =>
    intro n
    have h1 := ih (2 * n + b)
    have h2 := ih (2 * 0 + b)
    simp only [valB, List.foldl_cons, List.length_cons] at h1 h2 ⊢
    rw [h1, h2, Nat.pow_succ]
    generalize 2 ^ l.length = P
    rw [Nat.add_mul, Nat.add_mul]
    have e1 : 2 * n * P = n * (P * 2) := by rw [Nat.mul_comm 2 n, Nat.mul_assoc, Nat.mul_comm 2 P]
    have e2 : 2 * 0 * P = 0 := by simp
    omega
theorem valB_append (a b : List Nat) : valB (a ++ b) = valB a * 2 ^ b.length + valB b := by
  rw [valB, List.foldl_append, valB_acc]; rfl
theorem valB_nil : valB [] = 0 := rfl
theorem valB_one (b : Nat) : valB [b] = b := by simp [valB]
theorem valB_snoc (a : List Nat) (b : Nat) : valB (a ++ [b]) = 2 * valB a + b := by rw [valB_append, valB_one]; simp; omega
theorem valB_lt {l : List Nat} (h : IsBits l) : valB l < 2 ^ l.length := by
  induction l with
  | nil => simp [valB]
  | cons b l ih =>
    have h1 := ih (fun x hx => h x (by simp [hx]))
    have h2 := h b (by simp)
    rw [show b :: l = [b] ++ l from rfl, valB_append, valB_one, List.length_append, List.length_singleton, Nat.pow_add]
    generalize 2 ^ l.length = P at *
    have : b * P ≤ 1 * P := Nat.mul_le_mul_right _ (by omega)
    omega
theorem valB_zeros (n : Nat) : valB (List.replicate n 0) = 0 := by
  induction n with
  | zero => rfl
  | succ n ih => rw [List.replicate_succ', valB_snoc, ih]
theorem isBits_append {a b : List Nat} : IsBits (a ++ b) ↔ IsBits a ∧ IsBits b := by
  constructor
  · intro h; exact ⟨fun x hx => h x (by simp [hx]), fun x hx => h x (by simp [hx])⟩
  · rintro ⟨h1, h2⟩ x hx; rcases List.mem_append.1 hx with h | h; exact h1 x h; exact h2 x h
theorem isBits_take {l : List Nat} (h : IsBits l) (k : Nat) : IsBits (l.take k) := fun x hx => h x (List.mem_of_mem_take hx)
theorem isBits_drop {l : List Nat} (h : IsBits l) (k : Nat) : IsBits (l.drop k) := fun x hx => h x (List.mem_of_mem_drop hx)
theorem isBits_zeros (n : Nat) : IsBits (List.replicate n 0) := fun x hx => by rw [(List.mem_replicate.1 hx).2]; omega

/-- The k bits of a number. -/
def bitsK (k v : Nat) : List Nat := (List.range k).map fun j => v / 2 ^ (k - 1 - j) % 2
theorem bitsK_len (k v : Nat) : (bitsK k v).length = k := by simp [bitsK]
theorem bitsK_is (k v : Nat) : IsBits (bitsK k v) := by
  intro b hb
  simp only [bitsK, List.mem_map] at hb
  obtain ⟨j, _, rfl⟩ := hb
  omega
theorem bitsK_get (k v j : Nat) (h : j < k) : (bitsK k v)[j]? = some (v / 2 ^ (k - 1 - j) % 2) := by
  simp [bitsK, h]
theorem bitsK_succ (k v : Nat) : bitsK (k + 1) v = bitsK k (v / 2) ++ [v % 2] := by
  unfold bitsK
  rw [List.range_succ, List.map_append]
  congr 1
  · refine List.map_congr_left fun j hj => ?_
    have hj' : j < k := List.mem_range.1 hj
    rw [show k + 1 - 1 - j = (k - 1 - j) + 1 by omega, Nat.pow_succ, Nat.mul_comm, Nat.div_div_eq_div_mul]
  · simp
theorem valB_bitsK (k : Nat) : ∀ v, valB (bitsK k v) = v % 2 ^ k := by
  induction k with
  | zero => intro v; simp [bitsK, valB, Nat.mod_one]
  | succ k ih =>
    intro v
    rw [bitsK_succ, valB_snoc, ih, Nat.pow_succ, Nat.mul_comm (2 ^ k) 2, Nat.mod_mul]
    omega
theorem bitsK_valB_aux : ∀ (n : Nat) (l : List Nat), l.length = n → IsBits l → bitsK l.length (valB l) = l := by
  intro n
  induction n with
  | zero => intro l h _; rw [List.eq_nil_of_length_eq_zero h]; rfl
  | succ n ih =>
    intro l hl h
    rcases List.eq_nil_or_concat l with rfl | ⟨a, b, rfl⟩
    · simp at hl
    · rw [List.concat_eq_append] at hl h ⊢
      rw [isBits_append] at h
      have hb := h.2 b (by simp)
      rw [List.length_append, List.length_singleton, bitsK_succ, valB_snoc, show (2 * valB a + b) / 2 = valB a by omega, show (2 * valB a + b) % 2 = b by omega, ih a (by simp at hl; omega) h.1]
theorem bitsK_valB {l : List Nat} (h : IsBits l) : bitsK l.length (valB l) = l := bitsK_valB_aux _ l rfl h

/-- A text's bits. -/
def bitsOf (s : List UInt8) : List Nat := s.flatMap fun c => bitsK 8 c.toNat
theorem bitsOf_nil : bitsOf [] = [] := rfl
theorem bitsOf_cons (c : UInt8) (s : List UInt8) : bitsOf (c :: s) = bitsK 8 c.toNat ++ bitsOf s := rfl
theorem bitsOf_append (s t : List UInt8) : bitsOf (s ++ t) = bitsOf s ++ bitsOf t := by simp [bitsOf]
theorem bitsOf_len (s : List UInt8) : (bitsOf s).length = 8 * s.length := by
  induction s with
  | nil => rfl
  | cons c s ih => rw [bitsOf_cons, List.length_append, bitsK_len, ih, List.length_cons]; omega
theorem bitsOf_is (s : List UInt8) : IsBits (bitsOf s) := by
  induction s with
  | nil => intro x hx; simp [bitsOf] at hx
  | cons c s ih => rw [bitsOf_cons, isBits_append]; exact ⟨bitsK_is _ _, ih⟩
theorem bitsOf_drop (s : List UInt8) (i : Nat) : bitsOf (s.drop i) = (bitsOf s).drop (8 * i) := by
  induction i generalizing s with
  | zero => rfl
  | succ i ih =>
    cases s with
    | nil => simp [bitsOf]
    | cons c s =>
      rw [List.drop_succ_cons, ih, bitsOf_cons, show 8 * (i + 1) = (bitsK 8 c.toNat).length + 8 * i by rw [bitsK_len]; omega, List.drop_length_add_append]
theorem bitsOf_get (s : List UInt8) (i : Nat) (h : i / 8 < s.length) : (bitsOf s)[i]? = some (s[i / 8].toNat / 2 ^ (7 - i % 8) % 2) := by
  have e : (bitsOf s)[i]? = ((bitsOf s).drop (8 * (i / 8)))[i % 8]? := by rw [List.getElem?_drop]; congr 1; omega
  rw [e, ← bitsOf_drop, List.drop_eq_getElem_cons h, bitsOf_cons, List.getElem?_append_left (by rw [bitsK_len]; omega), bitsK_get _ _ _ (by omega)]

/-- Bits by groups of k, the last one filled up with noughts. -/
def digits (k : Nat) (l : List Nat) : List Nat :=
  if h : l = [] ∨ k = 0 then [] else valB (l.take k ++ List.replicate (k - l.length) 0) :: digits k (l.drop k)
termination_by l.length
decreasing_by
  simp only [not_or] at h
  have : l.length ≠ 0 := fun e => h.1 (List.eq_nil_of_length_eq_zero e)
  simp; omega
theorem digits_nil (k : Nat) : digits k [] = [] := by rw [digits]; simp
theorem digits_full {k : Nat} (hk : 0 < k) (a l : List Nat) (ha : a.length = k) : digits k (a ++ l) = valB a :: digits k l := by
  rw [digits, dif_neg (by simp only [not_or]; exact ⟨fun e => by simp at e; rw [e.1] at ha; simp at ha; omega, by omega⟩)]
  rw [List.take_left' ha, List.drop_left' ha, show k - (a ++ l).length = 0 by simp; omega]
  simp
theorem digits_last {k : Nat} {a : List Nat} (h0 : a ≠ []) (ha : a.length ≤ k) : digits k a = [valB a * 2 ^ (k - a.length)] := by
  have hl : a.length ≠ 0 := fun e => h0 (List.eq_nil_of_length_eq_zero e)
  rw [digits, dif_neg (by simp only [not_or]; exact ⟨h0, by omega⟩), List.take_of_length_le ha, List.drop_of_length_le ha, digits_nil, valB_append, valB_zeros, List.length_replicate, Nat.add_zero]
theorem digits_len {k : Nat} (hk : 0 < k) : ∀ (n : Nat) (l : List Nat), l.length ≤ n → (digits k l).length = (l.length + (k - 1)) / k := by
  intro n
  induction n with
  | zero => intro l h; have : l = [] := List.eq_nil_of_length_eq_zero (by omega); subst this; rw [digits_nil]; simp; exact (Nat.div_eq_of_lt (by omega)).symm
  | succ n ih =>
    intro l h
    by_cases h0 : l = []
    · subst h0; rw [digits_nil]; simp; exact (Nat.div_eq_of_lt (by omega)).symm
    · have hl : l.length ≠ 0 := fun e => h0 (List.eq_nil_of_length_eq_zero e)
      rw [digits, dif_neg (by simp only [not_or]; exact ⟨h0, by omega⟩), List.length_cons, ih _ (by simp; omega), List.length_drop]
      by_cases hlk : l.length ≤ k
      · rw [show l.length - k = 0 by omega, Nat.zero_add, Nat.div_eq_of_lt (by omega)]
        rw [show l.length + (k - 1) = (l.length - 1) + k by omega, Nat.add_div_right _ hk, Nat.div_eq_of_lt (by omega)]
      · rw [show l.length + (k - 1) = (l.length - k + (k - 1)) + k by omega, Nat.add_div_right _ hk]
theorem digits_lt {k : Nat} (hk : 0 < k) : ∀ (n : Nat) (l : List Nat), l.length ≤ n → IsBits l → ∀ d ∈ digits k l, d < 2 ^ k := by
  intro n
  induction n with
  | zero => intro l h _ d hd; have : l = [] := List.eq_nil_of_length_eq_zero (by omega); subst this; rw [digits_nil] at hd; cases hd
  | succ n ih =>
    intro l h hb d hd
    by_cases h0 : l = []
    · subst h0; rw [digits_nil] at hd; cases hd
    · have hl : l.length ≠ 0 := fun e => h0 (List.eq_nil_of_length_eq_zero e)
      rw [digits, dif_neg (by simp only [not_or]; exact ⟨h0, by omega⟩)] at hd
      rcases List.mem_cons.1 hd with rfl | hd
      · have := valB_lt (l := l.take k ++ List.replicate (k - l.length) 0) (isBits_append.2 ⟨isBits_take hb k, isBits_zeros _⟩)
        have e : (l.take k ++ List.replicate (k - l.length) 0).length = k := by simp; omega
        rwa [e] at this
      · exact ih _ (by simp; omega) (isBits_drop hb k) d hd
/-- Back: the digits' bits are the bits, with some noughts behind them. -/
theorem digits_bits {k : Nat} (hk : 0 < k) : ∀ (n : Nat) (l : List Nat), l.length ≤ n → IsBits l → ∃ z, z < k ∧ (digits k l).flatMap (bitsK k) = l ++ List.replicate z 0 := by
  intro n
  induction n with
  | zero => intro l h _; have : l = [] := List.eq_nil_of_length_eq_zero (by omega); subst this; exact ⟨0, hk, by rw [digits_nil]; simp⟩
  | succ n ih =>
    intro l h hb
    by_cases h0 : l = []
    · subst h0; exact ⟨0, hk, by rw [digits_nil]; simp⟩
    · have hl : l.length ≠ 0 := fun e => h0 (List.eq_nil_of_length_eq_zero e)
      by_cases hlk : l.length ≤ k
      · refine ⟨k - l.length, by omega, ?_⟩
        rw [digits_last h0 hlk]
        have h1 : IsBits (l ++ List.replicate (k - l.length) 0) := isBits_append.2 ⟨hb, isBits_zeros _⟩
        have h2 := bitsK_valB h1
        rw [valB_append, valB_zeros, List.length_append, List.length_replicate, Nat.add_zero, show l.length + (k - l.length) = k by omega] at h2
        simp [h2]
      · have hs : l = l.take k ++ l.drop k := (List.take_append_drop k l).symm
        have hlt : (l.take k).length = k := by simp; omega
        obtain ⟨z, hz, he⟩ := ih (l.drop k) (by simp; omega) (isBits_drop hb k)
        refine ⟨z, hz, ?_⟩
        have h2 := bitsK_valB (isBits_take hb k)
        rw [hlt] at h2
        conv => lhs; rw [hs, digits_full hk _ _ hlt, List.flatMap_cons, h2, he]
        rw [← List.append_assoc, List.take_append_drop]

/-- Bits by groups of 8, what is left dropped. -/
def bytesOf (l : List Nat) : List UInt8 :=
  if h : l.length < 8 then [] else UInt8.ofNat (valB (l.take 8)) :: bytesOf (l.drop 8)
termination_by l.length
decreasing_by simp; omega
theorem bytesOf_short {l : List Nat} (h : l.length < 8) : bytesOf l = [] := by rw [bytesOf, dif_pos h]
theorem bytesOf_full (a l : List Nat) (ha : a.length = 8) : bytesOf (a ++ l) = UInt8.ofNat (valB a) :: bytesOf l := by
  rw [bytesOf, dif_neg (by simp; omega), List.take_left' ha, List.drop_left' ha]
theorem bytesOf_bits (s : List UInt8) (z : List Nat) (hz : z.length < 8) : bytesOf (bitsOf s ++ z) = s := by
  induction s with
  | nil => exact bytesOf_short hz
  | cons c s ih =>
    rw [bitsOf_cons, List.append_assoc, bytesOf_full _ _ (bitsK_len _ _), ih, valB_bitsK]
    congr 1
    have := c.toNat_lt
    rw [show 2 ^ 8 = 256 from rfl, Nat.mod_eq_of_lt this, UInt8.ofNat_toNat]
theorem bytesOf_len : ∀ (n : Nat) (l : List Nat), l.length ≤ n → (bytesOf l).length * 8 ≤ l.length := by
  intro n
  induction n with
  | zero => intro l h; rw [bytesOf_short (by omega)]; simp
  | succ n ih =>
    intro l h
    by_cases h8 : l.length < 8
    · rw [bytesOf_short h8]; simp
    · rw [bytesOf, dif_neg h8, List.length_cons]
      have := ih (l.drop 8) (by simp; omega)
      simp at this; omega
end
section
open Go

def hexL : ByteArray := ⟨#[48, 49, 50, 51, 52, 53, 54, 55, 56, 57, 97, 98, 99, 100, 101, 102]⟩
def stdL : ByteArray := ⟨#[65, 66, 67, 68, 69, 70, 71, 72, 73, 74, 75, 76, 77, 78, 79, 80, 81, 82, 83, 84, 85, 86, 87, 88, 89, 90, 97, 98, 99, 100, 101, 102, 103, 104, 105, 106, 107, 108, 109, 110, 111, 112, 113, 114, 115, 116, 117, 118, 119, 120, 121, 122, 48, 49, 50, 51, 52, 53, 54, 55, 56, 57, 43, 47]⟩
def urlL : ByteArray := ⟨#[65, 66, 67, 68, 69, 70, 71, 72, 73, 74, 75, 76, 77, 78, 79, 80, 81, 82, 83, 84, 85, 86, 87, 88, 89, 90, 97, 98, 99, 100, 101, 102, 103, 104, 105, 106, 107, 108, 109, 110, 111, 112, 113, 114, 115, 116, 117, 118, 119, 120, 121, 122, 48, 49, 50, 51, 52, 53, 54, 55, 56, 57, 45, 95]⟩

structure Good (L : ByteArray) (k : Nat) (fill : Bool) : Prop where
  k46 : k = 4 ∨ k = 6
  size : L.size = 2 ^ k
  idx : ∀ d, d < 2 ^ k → Lib.indexByte L.data.toList (L.data.toList.getD d 0) = (d : Int)
  no61 : Lib.indexByte L.data.toList 61 = -1
  fill6 : fill = true → k = 6
set_option maxRecDepth 100000 in
theorem good_hex : Good hexL 4 false := ⟨.inl rfl, by decide, by decide +kernel, by decide +kernel, by decide⟩
set_option maxRecDepth 100000 in
theorem good_std : Good stdL 6 true := ⟨.inr rfl, by decide +kernel, by decide +kernel, by decide +kernel, by decide⟩
set_option maxRecDepth 100000 in
theorem good_url : Good urlL 6 false := ⟨.inr rfl, by decide +kernel, by decide +kernel, by decide +kernel, by decide⟩

/-- The letter of a digit. -/
def letter (L : ByteArray) (d : Nat) : UInt8 := L.data.toList.getD d 0
def letters (L : ByteArray) (D : List Nat) : List UInt8 := D.map (letter L)
theorem letters_append (L : ByteArray) (a b : List Nat) : letters L (a ++ b) = letters L a ++ letters L b := by simp [letters]
theorem letters_len (L : ByteArray) (D : List Nat) : (letters L D).length = D.length := by simp [letters]
def padN (fill : Bool) (m : Nat) : Nat := if fill then (4 - m % 4) % 4 else 0
def encD (L : ByteArray) (k : Nat) (fill : Bool) (D : List Nat) : List UInt8 := letters L D ++ List.replicate (padN fill D.length) 61
/-- A text by letters. -/
def enc (L : ByteArray) (k : Nat) (fill : Bool) (s : List UInt8) : List UInt8 := encD L k fill (digits k (bitsOf s))
theorem dig_len {k : Nat} (hk : 0 < k) (s : List UInt8) : (digits k (bitsOf s)).length = (8 * s.length + (k - 1)) / k := by
  rw [digits_len hk _ _ (Nat.le_refl _), bitsOf_len]
theorem enc_len {L : ByteArray} {k : Nat} {fill : Bool} (s : List UInt8) : (enc L k fill s).length = (digits k (bitsOf s)).length + padN fill (digits k (bitsOf s)).length := by
  rw [enc, encD, List.length_append, letters_len, List.length_replicate]
def sizeN (k : Nat) (fill : Bool) (n : Nat) : Nat := (8 * n + (k - 1)) / k + padN fill ((8 * n + (k - 1)) / k)
theorem enc_size {L : ByteArray} {k : Nat} {fill : Bool} (hk : 0 < k) (s : List UInt8) : (enc L k fill s).length = sizeN k fill s.length := by rw [enc_len, dig_len hk]; rfl
theorem digits_append {k : Nat} (hk : 0 < k) : ∀ (n : Nat) (a b : List Nat), a.length = k * n → digits k (a ++ b) = digits k a ++ digits k b := by
  intro n
  induction n with
  | zero => intro a b h; have : a = [] := List.eq_nil_of_length_eq_zero (by omega); subst this; rw [digits_nil]; rfl
  | succ n ih =>
    intro a b h
    rw [Nat.mul_succ] at h
    have hs : a = a.take k ++ a.drop k := (List.take_append_drop k a).symm
    have hl : (a.take k).length = k := by simp; omega
    rw [hs, List.append_assoc, digits_full hk _ _ hl, digits_full hk _ _ hl, ih (a.drop k) b (by simp; omega)]
    rfl
theorem enc_append {L : ByteArray} {k : Nat} {fill : Bool} (hG : Good L k fill) (s t : List UInt8) (hs : k = 4 ∨ s.length % 3 = 0) : enc L k fill (s ++ t) = enc L k fill s ++ enc L k fill t := by
  have hk : 0 < k := by rcases hG.k46 with h | h <;> omega
  have hl : ∃ n, (bitsOf s).length = k * n := by
    rw [bitsOf_len]
    rcases hG.k46 with h | h
    · exact ⟨2 * s.length, by rw [h]; omega⟩
    · rw [h] at hs ⊢; exact ⟨4 * (s.length / 3), by omega⟩
  obtain ⟨n, hn⟩ := hl
  have hd := digits_append hk n (bitsOf s) (bitsOf t) hn
  have hz : padN fill (digits k (bitsOf s)).length = 0 := by
    unfold padN
    split
    · rename_i hf
      have h6 := hG.fill6 hf
      rw [dig_len hk, h6]; rw [h6] at hs; omega
    · rfl
  have hp : padN fill (digits k (bitsOf s) ++ digits k (bitsOf t)).length = padN fill (digits k (bitsOf t)).length := by
    rw [List.length_append]
    unfold padN at hz ⊢
    split
    · rename_i hf; rw [if_pos hf] at hz; omega
    · rfl
  unfold enc encD
  rw [bitsOf_append, hd, hp, letters_append, hz]
  simp
theorem size_add {k : Nat} {fill : Bool} (hk : k = 4 ∨ k = 6) (hf : fill = true → k = 6) (n m : Nat) (h : k = 4 ∨ n % 3 = 0) : sizeN k fill (n + m) = sizeN k fill n + sizeN k fill m := by
  unfold sizeN padN
  rcases hk with rfl | rfl
  · cases fill
    · simp; omega
    · exact absurd (hf rfl) (by decide)
  · have h3 : n % 3 = 0 := h.resolve_left (by decide)
    cases fill
    · simp; omega
    · simp only [if_true]; omega

/-! ### Back -/
/-- The digits of letters; what fills up ends it. -/
def scanP (L : ByteArray) (fill : Bool) : List UInt8 → Option (List Nat)
  | [] => some []
  | c :: cs => if 0 ≤ Lib.indexByte L.data.toList c then (scanP L fill cs).map ((Lib.indexByte L.data.toList c).toNat :: ·) else if fill ∧ (cs = [] ∧ c = 61 ∨ c = 61 ∧ cs = [61]) then some [] else none
def outOf (k : Nat) (vs : List Nat) : List UInt8 := bytesOf (vs.flatMap (bitsK k))
def decP (L : ByteArray) (k : Nat) (fill : Bool) (t : List UInt8) : Option (List UInt8) :=
  match scanP L fill t with
  | none => none
  | some vs => if enc L k fill (outOf k vs) = t then some (outOf k vs) else none
theorem letter_idx {L : ByteArray} {k : Nat} {fill : Bool} (hG : Good L k fill) {d : Nat} (h : d < 2 ^ k) : Lib.indexByte L.data.toList (letter L d) = (d : Int) := hG.idx d h
theorem letter_not61 {L : ByteArray} {k : Nat} {fill : Bool} (hG : Good L k fill) {d : Nat} (h : d < 2 ^ k) : letter L d ≠ 61 := by
  intro e
  have := letter_idx hG h
  rw [e, hG.no61] at this
  omega
theorem scanP_letters {L : ByteArray} {k : Nat} {fill : Bool} (hG : Good L k fill) (pad : List UInt8) (hp : pad = [] ∨ fill = true ∧ (pad = [61] ∨ pad = [61, 61])) : ∀ D : List Nat, (∀ d ∈ D, d < 2 ^ k) → scanP L fill (letters L D ++ pad) = some D
  | [], _ => by
    rcases hp with rfl | ⟨hf, rfl | rfl⟩
    · rfl
    · simp [letters, scanP, hG.no61, hf]
    · simp [letters, scanP, hG.no61, hf]
  | d :: D, h => by
    have h1 := letter_idx hG (h d (by simp))
    have ih := scanP_letters hG pad hp D (fun x hx => h x (by simp [hx]))
    show scanP L fill (letter L d :: (letters L D ++ pad)) = _
    rw [scanP, h1, if_pos (by omega), ih]
    simp
theorem pad_of {L : ByteArray} {k : Nat} {fill : Bool} (hG : Good L k fill) (s : List UInt8) : List.replicate (padN fill (digits k (bitsOf s)).length) (61 : UInt8) = [] ∨ fill = true ∧ (List.replicate (padN fill (digits k (bitsOf s)).length) (61 : UInt8) = [61] ∨ List.replicate (padN fill (digits k (bitsOf s)).length) (61 : UInt8) = [61, 61]) := by
  cases hf : fill with
  | false => left; rfl
  | true =>
    have h6 := hG.fill6 hf
    have hl := dig_len (k := k) (by omega) s
    rw [h6] at hl ⊢
    have : padN true (digits 6 (bitsOf s)).length = 0 ∨ padN true (digits 6 (bitsOf s)).length = 1 ∨ padN true (digits 6 (bitsOf s)).length = 2 := by
      unfold padN; rw [if_pos rfl]; omega
    rcases this with h | h | h
    · left; rw [h]; rfl
    · right; exact ⟨rfl, .inl (by rw [h]; rfl)⟩
    · right; exact ⟨rfl, .inr (by rw [h]; rfl)⟩
theorem digits_good {L : ByteArray} {k : Nat} {fill : Bool} (hG : Good L k fill) (s : List UInt8) : ∀ d ∈ digits k (bitsOf s), d < 2 ^ k := by
  have hk : 0 < k := by rcases hG.k46 with h | h <;> omega
  exact digits_lt hk _ _ (Nat.le_refl _) (bitsOf_is s)
theorem out_back {L : ByteArray} {k : Nat} {fill : Bool} (hG : Good L k fill) (s : List UInt8) : outOf k (digits k (bitsOf s)) = s := by
  have hk : 0 < k := by rcases hG.k46 with h | h <;> omega
  have hk8 : k < 8 := by rcases hG.k46 with h | h <;> omega
  obtain ⟨z, hz, he⟩ := digits_bits hk _ _ (Nat.le_refl _) (bitsOf_is s)
  rw [outOf, he, bytesOf_bits _ _ (by simp; omega)]
theorem scanP_enc {L : ByteArray} {k : Nat} {fill : Bool} (hG : Good L k fill) (s : List UInt8) : scanP L fill (enc L k fill s) = some (digits k (bitsOf s)) :=
  scanP_letters hG _ (pad_of hG s) _ (digits_good hG s)
theorem decP_iff {L : ByteArray} {k : Nat} {fill : Bool} (hG : Good L k fill) (t o : List UInt8) : decP L k fill t = some o ↔ enc L k fill o = t := by
  constructor
  · intro h
    unfold decP at h
    split at h
    · cases h
    · split at h
      · rename_i he; cases h; exact he
      · cases h
  · rintro rfl
    rw [decP, scanP_enc hG]
    simp only [out_back hG, if_true]
theorem enc_inj {L : ByteArray} {k : Nat} {fill : Bool} (hG : Good L k fill) {s t : List UInt8} (h : enc L k fill s = enc L k fill t) : s = t := by
  have h1 := (decP_iff hG _ s).2 h
  have h2 := (decP_iff hG _ t).2 rfl
  rw [h1] at h2; exact Option.some.inj h2

/-! ### The document's way back -/
def stripN (t : List UInt8) : Nat → Nat
  | 0 => 0
  | n + 1 => if t[n]? = some 61 then stripN t n else n + 1
def scanA (L : ByteArray) : List UInt8 → Option (List Nat)
  | [] => some []
  | c :: cs => if 0 ≤ Lib.indexByte L.data.toList c then (scanA L cs).map ((Lib.indexByte L.data.toList c).toNat :: ·) else none
def headOf (fill : Bool) (t : List UInt8) : List UInt8 := t.take (if fill then stripN t t.length else t.length)
def decR (L : ByteArray) (k : Nat) (fill : Bool) (t : List UInt8) : Option (List UInt8) :=
  match scanA L (headOf fill t) with
  | none => none
  | some vs => if enc L k fill (outOf k vs) = t then some (outOf k vs) else none
theorem strip_pad (A : List UInt8) (hA : A.getLast? ≠ some 61) : ∀ m, stripN (A ++ List.replicate m 61) (A.length + m) = A.length := by
  have key : ∀ (m j : Nat), j ≤ m → stripN (A ++ List.replicate m 61) (A.length + j) = A.length := by
    intro m j
    induction j with
    | zero =>
      intro _
      cases hl : A.length with
      | zero => simp [stripN]
      | succ n =>
        rw [Nat.add_zero, stripN, if_neg]
        rw [List.getElem?_append_left (by omega)]
        rw [List.getLast?_eq_getElem?, hl] at hA
        exact hA
    | succ j ih =>
      intro hj
      rw [← Nat.add_assoc, stripN, if_pos, ih (by omega)]
      rw [List.getElem?_append_right (by omega), List.getElem?_replicate, if_pos (by omega)]
  exact fun m => key m m (Nat.le_refl _)
theorem scanA_letters {L : ByteArray} {k : Nat} {fill : Bool} (hG : Good L k fill) : ∀ D : List Nat, (∀ d ∈ D, d < 2 ^ k) → scanA L (letters L D) = some D
  | [], _ => rfl
  | d :: D, h => by
    have h1 := letter_idx hG (h d (by simp))
    have ih := scanA_letters hG D (fun x hx => h x (by simp [hx]))
    show scanA L (letter L d :: letters L D) = _
    rw [scanA, h1, if_pos (by omega), ih]
    simp
theorem head_enc {L : ByteArray} {k : Nat} {fill : Bool} (hG : Good L k fill) (s : List UInt8) : headOf fill (enc L k fill s) = letters L (digits k (bitsOf s)) := by
  cases hf : fill with
  | false => simp [headOf, enc, encD, padN]
  | true =>
    have hlast : (letters L (digits k (bitsOf s))).getLast? ≠ some 61 := by
      intro h
      have hm := List.mem_of_getLast? h
      simp only [letters, List.mem_map] at hm
      obtain ⟨d, hd, he⟩ := hm
      exact letter_not61 hG (digits_good hG s d hd) he
    unfold headOf enc encD
    rw [if_pos rfl, List.length_append, List.length_replicate, strip_pad _ hlast, List.take_left]
theorem decR_iff {L : ByteArray} {k : Nat} {fill : Bool} (hG : Good L k fill) (t o : List UInt8) : decR L k fill t = some o ↔ enc L k fill o = t := by
  constructor
  · intro h
    unfold decR at h
    split at h
    · cases h
    · split at h
      · rename_i he; cases h; exact he
      · cases h
  · rintro rfl
    rw [decR, head_enc hG, scanA_letters hG _ (digits_good hG _)]
    simp only [out_back hG, if_true]
theorem dec_same {L : ByteArray} {k : Nat} {fill : Bool} (hG : Good L k fill) (t : List UInt8) : decP L k fill t = decR L k fill t :=
  Option.ext fun o => (decP_iff hG t o).trans (decR_iff hG t o).symm
end
end Go.Proofs.YtdjlpmelmhhooaaGreatDoor
