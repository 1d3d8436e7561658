/- Plain words on layer 1: numbers as bytes; no program in sight. -/
import Derived.Test.YtbbjoahloghpkaaDoorKit
namespace Go.Proofs.YtbbjoahloghpkaaDoor
open Go

/-- The byte of weight 256^j. -/
def byteAt (n j : Nat) : UInt8 := UInt8.ofNat (n / 256 ^ j)
theorem byteAt_toNat (n j : Nat) : (byteAt n j).toNat = n / 256 ^ j % 256 := by simp [byteAt]
/-- A number's bytes, as many as s, the greatest first. -/
def beL (n s : Nat) : List UInt8 := (List.range s).map fun j => byteAt n (s - 1 - j)
def beS (n s : Nat) : ByteArray := ⟨(beL n s).toArray⟩
theorem beL_length (n s : Nat) : (beL n s).length = s := by simp [beL]
/-- How many of the bytes a size asks for. -/
def clip8 (z : Int) : Nat := if z < 0 then 0 else if 8 < z then 8 else z.toNat
theorem clip8_le (z : Int) : clip8 z ≤ 8 := by unfold clip8; split <;> (try split) <;> omega
theorem clip8_parts (z : Int) : ∃ m : Int, (if z < 0 then 0 else z) = m ∧ (if 8 < m then 8 else m) = ((clip8 z : Nat) : Int) := by
  refine ⟨_, rfl, ?_⟩
  unfold clip8
  by_cases h : z < 0
  · simp [h]
  · simp only [if_neg h]; by_cases h8 : 8 < z
    · simp [h8]
    · simp only [if_neg h8]; omega
theorem pow256 (j : Nat) : (2 : Nat) ^ (8 * j) = 256 ^ j := by rw [Nat.pow_mul]

/-- The cells when the i least bytes are there. -/
def putF (n s i j : Nat) : Value := .int .u8 (((if s - 1 - j < i then byteAt n (s - 1 - j) else 0) : UInt8).toNat : Int)
theorem putF_zero (n s : Nat) : (rowA s fun _ => .int .u8 0) = rowA s (putF n s 0) := rowA_ext fun i _ => by simp [putF]
theorem putF_set (n s i : Nat) (h : i < s) : (rowA s (putF n s i)).setIfInBounds (s - 1 - i) (.int .u8 ((n / 256 ^ i % 256 : Nat) : Int)) = rowA s (putF n s (i + 1)) := by
  rw [rowA_set]
  refine rowA_ext fun j hj => ?_
  by_cases e : j = s - 1 - i
  · subst e
    have : s - 1 - (s - 1 - i) = i := by omega
    simp [putF, this, byteAt]
  · rw [if_neg e]
    unfold putF
    by_cases e2 : s - 1 - j < i
    · rw [if_pos e2, if_pos (by omega)]
    · rw [if_neg e2, if_neg (by omega)]
theorem putF_all (n s : Nat) : rowA s (putF n s s) = rowA s fun j => .int .u8 ((byteAt n (s - 1 - j)).toNat : Int) :=
  rowA_ext fun j hj => by unfold putF; rw [if_pos (by omega)]
theorem put_byte (n i : Nat) : (n : Int) / 2 ^ (8 * i) % 256 = ((n / 256 ^ i % 256 : Nat) : Int) := by
  rw [← pow256]
  simp only [Int.natCast_emod, Int.natCast_ediv, Int.natCast_pow]
  rfl
theorem beS_size (n s : Nat) : (beS n s).size = s := by simp [beS, beL, ByteArray.size]

/-- A text's bytes as a number. -/
def getN (l : List UInt8) : Nat := l.foldl (fun n b => n * 256 + b.toNat) 0
theorem getN_snoc (l : List UInt8) (b : UInt8) : getN (l ++ [b]) = getN l * 256 + b.toNat := by simp [getN]
theorem getN_acc (l : List UInt8) : ∀ (n m : Nat), n < 256 ^ m → l.foldl (fun n b => n * 256 + b.toNat) n < 256 ^ (m + l.length) := by
  induction l with
  | nil => intro n m h; simpa using h
  | cons b l ih =>
    intro n m h
    have := ih (n * 256 + b.toNat) (m + 1) (by rw [Nat.pow_succ]; have := b.toNat_lt; omega)
    simpa [Nat.add_assoc, Nat.add_comm 1] using this
theorem getN_lt (l : List UInt8) : getN l < 256 ^ l.length := by
  have := getN_acc l 0 0 (by simp)
  simpa [getN] using this
theorem getN_take_lt (s : ByteArray) (k : Nat) (hk : k < 8) : getN (s.data.toList.take k) < 72057594037927936 := by
  have h := getN_lt (s.data.toList.take k)
  have h2 : (s.data.toList.take k).length ≤ 7 := by simp; omega
  have h3 : 256 ^ (s.data.toList.take k).length ≤ 256 ^ 7 := Nat.pow_le_pow_right (by omega) h2
  have h4 : (256 : Nat) ^ 7 = 72057594037927936 := by decide
  omega
theorem getN_lt8 (s : ByteArray) (h : s.size ≤ 8) : getN s.data.toList < 18446744073709551616 := by
  have h1 := getN_lt s.data.toList
  have h3 : 256 ^ s.data.toList.length ≤ 256 ^ 8 := Nat.pow_le_pow_right (by omega) (by simpa using h)
  have h4 : (256 : Nat) ^ 8 = 18446744073709551616 := by decide
  omega
theorem getN_step (s : ByteArray) (k : Nat) (h : k < s.size) : getN (s.data.toList.take (k + 1)) = getN (s.data.toList.take k) * 256 + s[k].toNat := by
  rw [List.take_succ_eq_append_getElem (by simpa using h), getN_snoc]; rfl
/-- The bytes put so far, the least behind. -/
theorem beL_succ (n s : Nat) : beL n (s + 1) = byteAt n s :: beL n s := by
  unfold beL
  rw [List.range_succ_eq_map, List.map_cons, List.map_map]
  simp only [Function.comp_def, Nat.succ_eq_add_one]
  congr 1
  exact List.map_congr_left fun j hj => by rw [List.mem_range] at hj; congr 1; omega
theorem or_u64 (n b : Nat) (hn : n < 72057594037927936) (hb : b < 256) : bits .or .u64 ((n : Int) * 256) (b : Int) = (((n * 256 + b : Nat)) : Int) := by
  have h := u64_or_nat (n * 256) b (by omega) (by omega)
  have e : n * 256 ||| b = n * 256 + b := by
    have := Nat.two_pow_add_eq_or_of_lt (i := 8) (b := b) (by omega) n
    rw [show (2 : Nat) ^ 8 = 256 by decide] at this
    rw [Nat.mul_comm]; exact this.symm
  rw [e] at h
  rw [← h]; simp
theorem beS_succ (n k : Nat) : (⟨#[UInt8.ofNat (n / 256 ^ k % 256)]⟩ : ByteArray) ++ beS n k = beS n (k + 1) := by
  apply ByteArray.ext
  rw [ByteArray.data_append]
  apply Array.ext'
  simp only [beS, beL_succ, Array.toList_append, List.cons_append, List.nil_append, byteAt]
  congr 1
  apply UInt8.toNat_inj.1
  simp
theorem clip8_lt {z : Int} {k : Nat} (h : k < clip8 z) : (k : Int) < z ∧ k < 8 := by unfold clip8 at h; split at h <;> (try split at h) <;> omega
theorem clip8_ge {z : Int} {k : Nat} (h : clip8 z ≤ k) : z ≤ k ∨ 8 ≤ k := by unfold clip8 at h; split at h <;> (try split at h) <;> omega

/-! ### The order of numbers and of their bytes -/
theorem div_split (a s : Nat) : a = a / 256 ^ s * 256 ^ s + a % 256 ^ s := by
  have := Nat.div_add_mod a (256 ^ s); rw [Nat.mul_comm]; exact this.symm
theorem byteAt_mod (a s j : Nat) (h : j < s) : byteAt (a % 256 ^ s) j = byteAt a j := by
  apply UInt8.toNat_inj.1
  rw [byteAt_toNat, byteAt_toNat]
  obtain ⟨d, rfl⟩ : ∃ d, s = j + 1 + d := ⟨s - j - 1, by omega⟩
  have e : 256 ^ (j + 1 + d) = 256 ^ j * (256 * 256 ^ d) := by rw [Nat.pow_add, Nat.pow_succ, Nat.mul_assoc]
  rw [e, Nat.mod_mul_right_div_self, Nat.mod_mul_right_mod]
theorem beL_mod (a s : Nat) : beL (a % 256 ^ s) s = beL a s := by
  unfold beL
  exact List.map_congr_left fun j hj => by rw [List.mem_range] at hj; exact byteAt_mod a s _ (by omega)
theorem byteAt_top (a s : Nat) (h : a < 256 ^ (s + 1)) : (byteAt a s).toNat = a / 256 ^ s := by
  rw [byteAt_toNat]
  apply Nat.mod_eq_of_lt
  rw [Nat.div_lt_iff_lt_mul (Nat.pow_pos (by omega))]
  rw [Nat.pow_succ] at h; omega
theorem bytesLess_be (s : Nat) : ∀ (a b : Nat), a < 256 ^ s → b < 256 ^ s → Op.bytesLess (beL a s) (beL b s) = decide (a < b) := by
  induction s with
  | zero => intro a b ha hb; simp only [Nat.pow_zero] at ha hb; rw [show beL a 0 = [] from rfl, show beL b 0 = [] from rfl]; symm; simp [Op.bytesLess]; omega
  | succ s ih =>
    intro a b ha hb
    have hp : 0 < 256 ^ s := Nat.pow_pos (by omega)
    rw [beL_succ, beL_succ]
    have hr := ih (a % 256 ^ s) (b % 256 ^ s) (Nat.mod_lt _ hp) (Nat.mod_lt _ hp)
    rw [beL_mod, beL_mod] at hr
    have h1 := byteAt_top a s ha
    have h2 := byteAt_top b s hb
    have ea := div_split a s
    have eb := div_split b s
    have hma := Nat.mod_lt a hp
    have hmb := Nat.mod_lt b hp
    simp only [Op.bytesLess, hr]
    rw [Bool.eq_iff_iff]
    simp only [Bool.or_eq_true, Bool.and_eq_true, decide_eq_true_iff, beq_iff_eq, UInt8.lt_iff_toNat_lt, ← UInt8.toNat_inj, h1, h2]
    generalize a / 256 ^ s = x at *
    generalize b / 256 ^ s = y at *
    generalize a % 256 ^ s = p at *
    generalize b % 256 ^ s = q at *
    generalize 256 ^ s = m at *
    have k1 : x < y → x * m + m ≤ y * m := fun h => by have := Nat.mul_le_mul_right m (show x + 1 ≤ y from h); rw [Nat.succ_mul] at this; exact this
    have k2 : y < x → y * m + m ≤ x * m := fun h => by have := Nat.mul_le_mul_right m (show y + 1 ≤ x from h); rw [Nat.succ_mul] at this; exact this
    rcases Nat.lt_trichotomy x y with h | h | h
    · have := k1 h; constructor
      · intro _; omega
      · intro _; exact .inl h
    · subst h; constructor
      · rintro (h | ⟨_, h⟩) <;> omega
      · intro _; exact .inr ⟨rfl, by omega⟩
    · have := k2 h; constructor
      · rintro (h | ⟨h, _⟩) <;> omega
      · intro _; omega

theorem be_inj (s : Nat) : ∀ (a b : Nat), a < 256 ^ s → b < 256 ^ s → beL a s = beL b s → a = b := by
  intro a b ha hb h
  have h1 := bytesLess_be s a b ha hb
  have h2 := bytesLess_be s b a hb ha
  have h3 := bytesLess_be s a a ha ha
  rw [← h] at h1 h2
  rw [h3] at h1 h2
  simp at h1 h2
  omega

theorem beS_toList (n s : Nat) : (beS n s).toList = beL n s := by rw [ByteArray.toList_eq]; rfl

theorem counted_inj {s t u v : ByteArray} (hs : s.size ≤ 300) (hu : u.size ≤ 300) (h : beL s.size 4 ++ s.data.toList ++ (beL t.size 4 ++ t.data.toList) = beL u.size 4 ++ u.data.toList ++ (beL v.size 4 ++ v.data.toList)) :
      s = u ∧ t = v := by
  have hl := congrArg (List.take 4) h
  have e : ∀ (n : Nat) (x y : List UInt8), (beL n 4 ++ x ++ y).take 4 = beL n 4 := fun n x y => by
    rw [List.append_assoc, List.take_append_of_le_length (by rw [beL_length]; omega), List.take_of_length_le (by rw [beL_length]; omega)]
  rw [e, e] at hl
  have hsz := be_inj 4 _ _ (by omega) (by omega) hl
  rw [hsz, List.append_assoc, List.append_assoc] at h
  have h2 := List.append_cancel_left h
  have h3 := List.append_inj h2 (by simpa using hsz)
  obtain ⟨h4, h5⟩ := h3
  have hsu : s = u := ByteArray.ext (Array.ext' h4)
  refine ⟨hsu, ?_⟩
  have h6 := List.append_inj h5 (by rw [beL_length, beL_length])
  exact ByteArray.ext (Array.ext' h6.2)
theorem getN_lt_len (l : List UInt8) : getN l < 256 ^ l.length := getN_lt l
theorem getN_cons_aux (l : List UInt8) : ∀ n, l.foldl (fun n b => n * 256 + b.toNat) n = n * 256 ^ l.length + getN l := by
  induction l with
  | nil => intro n; simp [getN]
  | cons b l ih =>
    intro n
    have h0 := ih (0 * 256 + b.toNat)
    have h1 := ih (n * 256 + b.toNat)
    simp only [List.foldl_cons, List.length_cons, getN] at *
    rw [h1, h0, Nat.pow_succ, Nat.add_mul, Nat.zero_mul, Nat.zero_add, Nat.mul_assoc, Nat.mul_comm 256, Nat.add_assoc]
theorem getN_cons (b : UInt8) (l : List UInt8) : getN (b :: l) = b.toNat * 256 ^ l.length + getN l := by
  have := getN_cons_aux l (0 * 256 + b.toNat)
  simpa [getN] using this
theorem beL_getN (l : List UInt8) : beL (getN l) l.length = l := by
  induction l with
  | nil => rfl
  | cons b l ih =>
    have hp : 0 < 256 ^ l.length := Nat.pow_pos (by omega)
    have hg := getN_lt l
    rw [List.length_cons, beL_succ, getN_cons]
    have e1 : byteAt (b.toNat * 256 ^ l.length + getN l) l.length = b := by
      apply UInt8.toNat_inj.1
      rw [byteAt_toNat, Nat.add_comm, Nat.add_mul_div_right _ _ hp, Nat.div_eq_of_lt hg, Nat.zero_add]
      exact Nat.mod_eq_of_lt b.toNat_lt
    have e2 : beL (b.toNat * 256 ^ l.length + getN l) l.length = l := by
      rw [← beL_mod, Nat.add_comm, Nat.add_mul_mod_self_right, Nat.mod_eq_of_lt hg, ih]
    rw [e1, e2]
theorem beS_getN {s : ByteArray} (h : s.size ≤ 8) : beS (getN s.data.toList) (clip8 (s.size : Int)) = s := by
  have hc : clip8 (s.size : Int) = s.data.toList.length := by unfold clip8; rw [if_neg (by omega), if_neg (by omega)]; simp
  rw [beS, hc, beL_getN]

end Go.Proofs.YtbbjoahloghpkaaDoor
