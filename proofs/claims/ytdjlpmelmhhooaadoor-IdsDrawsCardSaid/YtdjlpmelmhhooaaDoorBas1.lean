/- Plain words on layer 2: texts by letters, and back; no program in sight. -/
import Derived.Test.YtdjlpmelmhhooaaDoorBas0
import Derived.Lib.Bytealg
namespace Go.Proofs.YtdjlpmelmhhooaaDoor
open Go

def hexL : ByteArray := ⟨#[48, 49, 50, 51, 52, 53, 54, 55, 56, 57, 97, 98, 99, 100, 101, 102]⟩
def stdL : ByteArray := ⟨#[65, 66, 67, 68, 69, 70, 71, 72, 73, 74, 75, 76, 77, 78, 79, 80, 81, 82, 83, 84, 85, 86, 87, 88, 89, 90, 97, 98, 99, 100, 101, 102, 103, 104, 105, 106, 107, 108, 109, 110, 111, 112, 113, 114, 115, 116, 117, 118, 119, 120, 121, 122, 48, 49, 50, 51, 52, 53, 54, 55, 56, 57, 43, 47]⟩
def urlL : ByteArray := ⟨#[65, 66, 67, 68, 69, 70, 71, 72, 73, 74, 75, 76, 77, 78, 79, 80, 81, 82, 83, 84, 85, 86, 87, 88, 89, 90, 97, 98, 99, 100, 101, 102, 103, 104, 105, 106, 107, 108, 109, 110, 111, 112, 113, 114, 115, 116, 117, 118, 119, 120, 121, 122, 48, 49, 50, 51, 52, 53, 54, 55, 56, 57, 45, 95]⟩

structure Good (L : ByteArray) (k : Nat) (fill : Bool) : Prop where
  k46 : k = 4 ∨ k = 6
  size : L.size = 2 ^ k
  idx : ∀ d, d < 2 ^ k → Lib.indexByte L.data.toList (L.data.toList.getD d 0) = (d : Int)
  no61 : Lib.indexByte L.data.toList 61 = -1
  fill6 : fill = true → k = 6
set_option maxRecDepth 100000 in
theorem good_hex : Good hexL 4 false := ⟨.inl rfl, by decide, by decide +kernel, by decide +kernel, by decide⟩
set_option maxRecDepth 100000 in
theorem good_std : Good stdL 6 true := ⟨.inr rfl, by decide +kernel, by decide +kernel, by decide +kernel, by decide⟩
set_option maxRecDepth 100000 in
theorem good_url : Good urlL 6 false := ⟨.inr rfl, by decide +kernel, by decide +kernel, by decide +kernel, by decide⟩

/-- The letter of a digit. -/
def letter (L : ByteArray) (d : Nat) : UInt8 := L.data.toList.getD d 0
def letters (L : ByteArray) (D : List Nat) : List UInt8 := D.map (letter L)
theorem letters_append (L : ByteArray) (a b : List Nat) : letters L (a ++ b) = letters L a ++ letters L b := by simp [letters]
theorem letters_len (L : ByteArray) (D : List Nat) : (letters L D).length = D.length := by simp [letters]
def padN (fill : Bool) (m : Nat) : Nat := if fill then (4 - m % 4) % 4 else 0
def encD (L : ByteArray) (k : Nat) (fill : Bool) (D : List Nat) : List UInt8 := letters L D ++ List.replicate (padN fill D.length) 61
/-- A text by letters. -/
def enc (L : ByteArray) (k : Nat) (fill : Bool) (s : List UInt8) : List UInt8 := encD L k fill (digits k (bitsOf s))
theorem dig_len {k : Nat} (hk : 0 < k) (s : List UInt8) : (digits k (bitsOf s)).length = (8 * s.length + (k - 1)) / k := by
  rw [digits_len hk _ _ (Nat.le_refl _), bitsOf_len]
theorem enc_len {L : ByteArray} {k : Nat} {fill : Bool} (s : List UInt8) : (enc L k fill s).length = (digits k (bitsOf s)).length + padN fill (digits k (bitsOf s)).length := by
  rw [enc, encD, List.length_append, letters_len, List.length_replicate]
def sizeN (k : Nat) (fill : Bool) (n : Nat) : Nat := (8 * n + (k - 1)) / k + padN fill ((8 * n + (k - 1)) / k)
theorem enc_size {L : ByteArray} {k : Nat} {fill : Bool} (hk : 0 < k) (s : List UInt8) : (enc L k fill s).length = sizeN k fill s.length := by rw [enc_len, dig_len hk]; rfl
theorem digits_append {k : Nat} (hk : 0 < k) : ∀ (n : Nat) (a b : List Nat), a.length = k * n → digits k (a ++ b) = digits k a ++ digits k b := by
  intro n
  induction n with
  | zero => intro a b h; have : a = [] := List.eq_nil_of_length_eq_zero (by omega); subst this; rw [digits_nil]; rfl
  | succ n ih =>
    intro a b h
    rw [Nat.mul_succ] at h
    have hs : a = a.take k ++ a.drop k := (List.take_append_drop k a).symm
    have hl : (a.take k).length = k := by simp; omega
    rw [hs, List.append_assoc, digits_full hk _ _ hl, digits_full hk _ _ hl, ih (a.drop k) b (by simp; omega)]
    rfl
theorem enc_append {L : ByteArray} {k : Nat} {fill : Bool} (hG : Good L k fill) (s t : List UInt8) (hs : k = 4 ∨ s.length % 3 = 0) : enc L k fill (s ++ t) = enc L k fill s ++ enc L k fill t := by
  have hk : 0 < k := by rcases hG.k46 with h | h <;> omega
  have hl : ∃ n, (bitsOf s).length = k * n := by
    rw [bitsOf_len]
    rcases hG.k46 with h | h
    · exact ⟨2 * s.length, by rw [h]; omega⟩
    · rw [h] at hs ⊢; exact ⟨4 * (s.length / 3), by omega⟩
  obtain ⟨n, hn⟩ := hl
  have hd := digits_append hk n (bitsOf s) (bitsOf t) hn
  have hz : padN fill (digits k (bitsOf s)).length = 0 := by
    unfold padN
    split
    · rename_i hf
      have h6 := hG.fill6 hf
      rw [dig_len hk, h6]; rw [h6] at hs; omega
    · rfl
  have hp : padN fill (digits k (bitsOf s) ++ digits k (bitsOf t)).length = padN fill (digits k (bitsOf t)).length := by
    rw [List.length_append]
    unfold padN at hz ⊢
    split
    · rename_i hf; rw [if_pos hf] at hz; omega
    · rfl
  unfold enc encD
  rw [bitsOf_append, hd, hp, letters_append, hz]
  simp
theorem size_add {k : Nat} {fill : Bool} (hk : k = 4 ∨ k = 6) (hf : fill = true → k = 6) (n m : Nat) (h : k = 4 ∨ n % 3 = 0) : sizeN k fill (n + m) = sizeN k fill n + sizeN k fill m := by
  unfold sizeN padN
  rcases hk with rfl | rfl
  · cases fill
    · simp; omega
    · exact absurd (hf rfl) (by decide)
  · have h3 : n % 3 = 0 := h.resolve_left (by decide)
    cases fill
    · simp; omega
    · simp only [if_true]; omega

/-! ### Back -/
/-- The digits of letters; what fills up ends it. -/
def scanP (L : ByteArray) (fill : Bool) : List UInt8 → Option (List Nat)
  | [] => some []
  | c :: cs => if 0 ≤ Lib.indexByte L.data.toList c then (scanP L fill cs).map ((Lib.indexByte L.data.toList c).toNat :: ·) else if fill ∧ (cs = [] ∧ c = 61 ∨ c = 61 ∧ cs = [61]) then some [] else none
def outOf (k : Nat) (vs : List Nat) : List UInt8 := bytesOf (vs.flatMap (bitsK k))
def decP (L : ByteArray) (k : Nat) (fill : Bool) (t : List UInt8) : Option (List UInt8) :=
  match scanP L fill t with
  | none => none
  | some vs => if enc L k fill (outOf k vs) = t then some (outOf k vs) else none
theorem letter_idx {L : ByteArray} {k : Nat} {fill : Bool} (hG : Good L k fill) {d : Nat} (h : d < 2 ^ k) : Lib.indexByte L.data.toList (letter L d) = (d : Int) := hG.idx d h
theorem letter_not61 {L : ByteArray} {k : Nat} {fill : Bool} (hG : Good L k fill) {d : Nat} (h : d < 2 ^ k) : letter L d ≠ 61 := by
  intro e
  have := letter_idx hG h
  rw [e, hG.no61] at this
  omega
theorem scanP_letters {L : ByteArray} {k : Nat} {fill : Bool} (hG : Good L k fill) (pad : List UInt8) (hp : pad = [] ∨ fill = true ∧ (pad = [61] ∨ pad = [61, 61])) : ∀ D : List Nat, (∀ d ∈ D, d < 2 ^ k) → scanP L fill (letters L D ++ pad) = some D
  | [], _ => by
    rcases hp with rfl | ⟨hf, rfl | rfl⟩
    · rfl
    · simp [letters, scanP, hG.no61, hf]
    · simp [letters, scanP, hG.no61, hf]
  | d :: D, h => by
    have h1 := letter_idx hG (h d (by simp))
    have ih := scanP_letters hG pad hp D (fun x hx => h x (by simp [hx]))
    show scanP L fill (letter L d :: (letters L D ++ pad)) = _
    rw [scanP, h1, if_pos (by omega), ih]
    simp
theorem pad_of {L : ByteArray} {k : Nat} {fill : Bool} (hG : Good L k fill) (s : List UInt8) : List.replicate (padN fill (digits k (bitsOf s)).length) (61 : UInt8) = [] ∨ fill = true ∧ (List.replicate (padN fill (digits k (bitsOf s)).length) (61 : UInt8) = [61] ∨ List.replicate (padN fill (digits k (bitsOf s)).length) (61 : UInt8) = [61, 61]) := by
  cases hf : fill with
  | false => left; rfl
  | true =>
    have h6 := hG.fill6 hf
    have hl := dig_len (k := k) (by omega) s
    rw [h6] at hl ⊢
    have : padN true (digits 6 (bitsOf s)).length = 0 ∨ padN true (digits 6 (bitsOf s)).length = 1 ∨ padN true (digits 6 (bitsOf s)).length = 2 := by
      unfold padN; rw [if_pos rfl]; omega
    rcases this with h | h | h
    · left; rw [h]; rfl
    · right; exact ⟨rfl, .inl (by rw [h]; rfl)⟩
    · right; exact ⟨rfl, .inr (by rw [h]; rfl)⟩
theorem digits_good {L : ByteArray} {k : Nat} {fill : Bool} (hG : Good L k fill) (s : List UInt8) : ∀ d ∈ digits k (bitsOf s), d < 2 ^ k := by
  have hk : 0 < k := by rcases hG.k46 with h | h <;> omega
  exact digits_lt hk _ _ (Nat.le_refl _) (bitsOf_is s)
theorem out_back {L : ByteArray} {k : Nat} {fill : Bool} (hG : Good L k fill) (s : List UInt8) : outOf k (digits k (bitsOf s)) = s := by
  have hk : 0 < k := by rcases hG.k46 with h | h <;> omega
  have hk8 : k < 8 := by rcases hG.k46 with h | h <;> omega
  obtain ⟨z, hz, he⟩ := digits_bits hk _ _ (Nat.le_refl _) (bitsOf_is s)
  rw [outOf, he, bytesOf_bits _ _ (by simp; omega)]
theorem scanP_enc {L : ByteArray} {k : Nat} {fill : Bool} (hG : Good L k fill) (s : List UInt8) : scanP L fill (enc L k fill s) = some (digits k (bitsOf s)) :=
  scanP_letters hG _ (pad_of hG s) _ (digits_good hG s)
theorem decP_iff {L : ByteArray} {k : Nat} {fill : Bool} (hG : Good L k fill) (t o : List UInt8) : decP L k fill t = some o ↔ enc L k fill o = t := by
  constructor
  · intro h
    unfold decP at h
    split at h
    · cases h
    · split at h
      · rename_i he; cases h; exact he
      · cases h
  · rintro rfl
    rw [decP, scanP_enc hG]
    simp only [out_back hG, if_true]
theorem enc_inj {L : ByteArray} {k : Nat} {fill : Bool} (hG : Good L k fill) {s t : List UInt8} (h : enc L k fill s = enc L k fill t) : s = t := by
  have h1 := (decP_iff hG _ s).2 h
  have h2 := (decP_iff hG _ t).2 rfl
  rw [h1] at h2; exact Option.some.inj h2

/-! ### The document's way back -/
def stripN (t : List UInt8) : Nat → Nat
  | 0 => 0
  | n + 1 => if t[n]? = some 61 then stripN t n else n + 1
def scanA (L : ByteArray) : List UInt8 → Option (List Nat)
  | [] => some []
  | c :: cs => if 0 ≤ Lib.indexByte L.data.toList c then (scanA L cs).map ((Lib.indexByte L.data.toList c).toNat :: ·) else none
def headOf (fill : Bool) (t : List UInt8) : List UInt8 := t.take (if fill then stripN t t.length else t.length)
def decR (L : ByteArray) (k : Nat) (fill : Bool) (t : List UInt8) : Option (List UInt8) :=
  match scanA L (headOf fill t) with
  | none => none
  | some vs => if enc L k fill (outOf k vs) = t then some (outOf k vs) else none
theorem strip_pad (A : List UInt8) (hA : A.getLast? ≠ some 61) : ∀ m, stripN (A ++ List.replicate m 61) (A.length + m) = A.length := by
  have key : ∀ (m j : Nat), j ≤ m → stripN (A ++ List.replicate m 61) (A.length + j) = A.length := by
    intro m j
    induction j with
    | zero =>
      intro _
      cases hl : A.length with
      | zero => simp [stripN]
      | succ n =>
        rw [Nat.add_zero, stripN, if_neg]
        rw [List.getElem?_append_left (by omega)]
        rw [List.getLast?_eq_getElem?, hl] at hA
        exact hA
    | succ j ih =>
      intro hj
      rw [← Nat.add_assoc, stripN, if_pos, ih (by omega)]
      rw [List.getElem?_append_right (by omega), List.getElem?_replicate, if_pos (by omega)]
  exact fun m => key m m (Nat.le_refl _)
theorem scanA_letters {L : ByteArray} {k : Nat} {fill : Bool} (hG : Good L k fill) : ∀ D : List Nat, (∀ d ∈ D, d < 2 ^ k) → scanA L (letters L D) = some D
  | [], _ => rfl
  | d :: D, h => by
    have h1 := letter_idx hG (h d (by simp))
    have ih := scanA_letters hG D (fun x hx => h x (by simp [hx]))
    show scanA L (letter L d :: letters L D) = _
    rw [scanA, h1, if_pos (by omega), ih]
    simp
theorem head_enc {L : ByteArray} {k : Nat} {fill : Bool} (hG : Good L k fill) (s : List UInt8) : headOf fill (enc L k fill s) = letters L (digits k (bitsOf s)) := by
  cases hf : fill with
  | false => simp [headOf, enc, encD, padN]
  | true =>
    have hlast : (letters L (digits k (bitsOf s))).getLast? ≠ some 61 := by
      intro h
      have hm := List.mem_of_getLast? h
      simp only [letters, List.mem_map] at hm
      obtain ⟨d, hd, he⟩ := hm
      exact letter_not61 hG (digits_good hG s d hd) he
    unfold headOf enc encD
    rw [if_pos rfl, List.length_append, List.length_replicate, strip_pad _ hlast, List.take_left]
theorem decR_iff {L : ByteArray} {k : Nat} {fill : Bool} (hG : Good L k fill) (t o : List UInt8) : decR L k fill t = some o ↔ enc L k fill o = t := by
  constructor
  · intro h
    unfold decR at h
    split at h
    · cases h
    · split at h
      · rename_i he; cases h; exact he
      · cases h
  · rintro rfl
    rw [decR, head_enc hG, scanA_letters hG _ (digits_good hG _)]
    simp only [out_back hG, if_true]
theorem dec_same {L : ByteArray} {k : Nat} {fill : Bool} (hG : Good L k fill) (t : List UInt8) : decP L k fill t = decR L k fill t :=
  Option.ext fun o => (decP_iff hG t o).trans (decR_iff hG t o).symm

end Go.Proofs.YtdjlpmelmhhooaaDoor
