/- Octets: plain words; Put, Get, Add, CRC; the chapter's example. -/
import Derived.Test.YtdjlpmelmhhooaaGreatDoorKit
import Derived.Test.YtdjlpmelmhhooaaGreatDoorProg
namespace Go.Proofs.YtdjlpmelmhhooaaGreatDoor
section
open Go

/-- The byte of weight 256^j. -/
def byteAt (n j : Nat) : UInt8 := UInt8.ofNat (n / 256 ^ j)
theorem byteAt_toNat (n j : Nat) : (byteAt n j).toNat = n / 256 ^ j % 256 := by simp [byteAt]
/-- A number's bytes, as many as s, the greatest first. -/
def beL (n s : Nat) : List UInt8 := (List.range s).map fun j => byteAt n (s - 1 - j)
def beS (n s : Nat) : ByteArray := ⟨(beL n s).toArray⟩
theorem beL_length (n s : Nat) : (beL n s).length = s := by simp [beL]
/-- How many of the bytes a size asks for. -/
def clip8 (z : Int) : Nat := if z < 0 then 0 else if 8 < z then 8 else z.toNat
theorem clip8_le (z : Int) : clip8 z ≤ 8 := by unfold clip8; split <;> (try split) <;> omega
theorem clip8_parts (z : Int) : ∃ m : Int, (if z < 0 then 0 else z) = m ∧ (if 8 < m then 8 else m) = ((clip8 z : Nat) : Int) := by
  refine ⟨_, rfl, ?_⟩
  unfold clip8
  by_cases h : z < 0
  · simp [h]
  · simp only [if_neg h]; by_cases h8 : 8 < z
    · simp [h8]
    · simp only [if_neg h8]; omega
theorem pow256 (j : Nat) : (2 : Nat) ^ (8 * j) = 256 ^ j := by rw [Nat.pow_mul]

/-- The cells when the i least bytes are there. -/
def putF (n s i j : Nat) : Value := .int .u8 (((if s - 1 - j < i then byteAt n (s - 1 - j) else 0) : UInt8).toNat : Int)
theorem putF_zero (n s : Nat) : (rowA s fun _ => .int .u8 0) = rowA s (putF n s 0) := rowA_ext fun i _ => by simp [putF]
theorem putF_set (n s i : Nat) (h : i < s) : (rowA s (putF n s i)).setIfInBounds (s - 1 - i) (.int .u8 ((n / 256 ^ i % 256 : Nat) : Int)) = rowA s (putF n s (i + 1)) := by
  rw [rowA_set]
  refine rowA_ext fun j hj => ?_
  by_cases e : j = s - 1 - i
  · subst e
    have : s - 1 - (s - 1 - i) = i := by omega
    simp [putF, this, byteAt]
  · rw [if_neg e]
    unfold putF
    by_cases e2 : s - 1 - j < i
    · rw [if_pos e2, if_pos (by omega)]
    · rw [if_neg e2, if_neg (by omega)]
theorem putF_all (n s : Nat) : rowA s (putF n s s) = rowA s fun j => .int .u8 ((byteAt n (s - 1 - j)).toNat : Int) :=
  rowA_ext fun j hj => by unfold putF; rw [if_pos (by omega)]
theorem put_byte (n i : Nat) : (n : Int) / 2 ^ (8 * i) % 256 = ((n / 256 ^ i % 256 : Nat) : Int) := by
  rw [← pow256]
  simp only [Int.natCast_emod, Int.natCast_ediv, Int.natCast_pow]
  rfl
theorem beS_size (n s : Nat) : (beS n s).size = s := by simp [beS, beL, ByteArray.size]

/-- A text's bytes as a number. -/
def getN (l : List UInt8) : Nat := l.foldl (fun n b => n * 256 + b.toNat) 0
theorem getN_snoc (l : List UInt8) (b : UInt8) : getN (l ++ [b]) = getN l * 256 + b.toNat := by simp [getN]
theorem getN_acc (l : List UInt8) : ∀ (n m : Nat), n < 256 ^ m → l.foldl (fun n b => n * 256 + b.toNat) n < 256 ^ (m + l.length) := by
  induction l with
  | nil => intro n m h; simpa using h
  | cons b l ih =>
    intro n m h
    have := ih (n * 256 + b.toNat) (m + 1) (by rw [Nat.pow_succ]; have := b.toNat_lt; omega)
    simpa [Nat.add_assoc, Nat.add_comm 1] using this
theorem getN_lt (l : List UInt8) : getN l < 256 ^ l.length := by
  have := getN_acc l 0 0 (by simp)
  simpa [getN] using this
theorem getN_take_lt (s : ByteArray) (k : Nat) (hk : k < 8) : getN (s.data.toList.take k) < 72057594037927936 := by
  have h := getN_lt (s.data.toList.take k)
  have h2 : (s.data.toList.take k).length ≤ 7 := by simp; omega
  have h3 : 256 ^ (s.data.toList.take k).length ≤ 256 ^ 7 := Nat.pow_le_pow_right (by omega) h2
  have h4 : (256 : Nat) ^ 7 = 72057594037927936 := by decide
  omega
theorem getN_lt8 (s : ByteArray) (h : s.size ≤ 8) : getN s.data.toList < 18446744073709551616 := by
  have h1 := getN_lt s.data.toList
  have h3 : 256 ^ s.data.toList.length ≤ 256 ^ 8 := Nat.pow_le_pow_right (by omega) (by simpa using h)
  have h4 : (256 : Nat) ^ 8 = 18446744073709551616 := by decide
  omega
theorem getN_step (s : ByteArray) (k : Nat) (h : k < s.size) : getN (s.data.toList.take (k + 1)) = getN (s.data.toList.take k) * 256 + s[k].toNat := by
  rw [List.take_succ_eq_append_getElem (by simpa using h), getN_snoc]; rfl
/-- The bytes put so far, the least behind. -/
theorem beL_succ (n s : Nat) : beL n (s + 1) = byteAt n s :: beL n s := by
  unfold beL
  rw [List.range_succ_eq_map, List.map_cons, List.map_map]
  simp only [Function.comp_def, Nat.succ_eq_add_one]
  congr 1
  exact List.map_congr_left fun j hj => by rw [List.mem_range] at hj; congr 1; omega
theorem or_u64 (n b : Nat) (hn : n < 72057594037927936) (hb : b < 256) : bits .or .u64 ((n : Int) * 256) (b : Int) = (((n * 256 + b : Nat)) : Int) := by
  have h := u64_or_nat (n * 256) b (by omega) (by omega)
  have e : n * 256 ||| b = n * 256 + b := by
    have := Nat.two_pow_add_eq_or_of_lt (i := 8) (b := b) (by omega) n
    rw [show (2 : Nat) ^ 8 = 256 by decide] at this
    rw [Nat.mul_comm]; exact this.symm
  rw [e] at h
  rw [← h]; simp
theorem beS_succ (n k : Nat) : (⟨#[UInt8.ofNat (n / 256 ^ k % 256)]⟩ : ByteArray) ++ beS n k = beS n (k + 1) := by
  apply ByteArray.ext
  rw [ByteArray.data_append]
  apply Array.ext'
  simp only [beS, beL_succ, Array.toList_append, List.cons_append, List.nil_append, byteAt]
  congr 1
  apply UInt8.toNat_inj.1
  simp
theorem clip8_lt {z : Int} {k : Nat} (h : k < clip8 z) : (k : Int) < z ∧ k < 8 := by unfold clip8 at h; split at h <;> (try split at h) <;> omega
theorem clip8_ge {z : Int} {k : Nat} (h : clip8 z ≤ k) : z ≤ k ∨ 8 ≤ k := by unfold clip8 at h; split at h <;> (try split at h) <;> omega

/-! ### The order of numbers and of their bytes -/
theorem div_split (a s : Nat) : a = a / 256 ^ s * 256 ^ s + a % 256 ^ s := by
  have := Nat.div_add_mod a (256 ^ s); rw [Nat.mul_comm]; exact this.symm
theorem byteAt_mod (a s j : Nat) (h : j < s) : byteAt (a % 256 ^ s) j = byteAt a j := by
  apply UInt8.toNat_inj.1
  rw [byteAt_toNat, byteAt_toNat]
  obtain ⟨d, rfl⟩ : ∃ d, s = j + 1 + d := ⟨s - j - 1, by omega⟩
  have e : 256 ^ (j + 1 + d) = 256 ^ j * (256 * 256 ^ d) := by rw [Nat.pow_add, Nat.pow_succ, Nat.mul_assoc]
  rw [e, Nat.mod_mul_right_div_self, Nat.mod_mul_right_mod]
theorem beL_mod (a s : Nat) : beL (a % 256 ^ s) s = beL a s := by
  unfold beL
  exact List.map_congr_left fun j hj => by rw [List.mem_range] at hj; exact byteAt_mod a s _ (by omega)
theorem byteAt_top (a s : Nat) (h : a < 256 ^ (s + 1)) : (byteAt a s).toNat = a / 256 ^ s := by
  rw [byteAt_toNat]
  apply Nat.mod_eq_of_lt
  rw [Nat.div_lt_iff_lt_mul (Nat.pow_pos (by omega))]
  rw [Nat.pow_succ] at h; omega
theorem bytesLess_be (s : Nat) : ∀ (a b : Nat), a < 256 ^ s → b < 256 ^ s → Op.bytesLess (beL a s) (beL b s) = decide (a < b) := by
  induction s with
  | zero => intro a b ha hb; simp only [Nat.pow_zero] at ha hb; rw [show beL a 0 = [] from rfl, show beL b 0 = [] from rfl]; symm; simp [Op.bytesLess]; omega
  | succ s ih =>
    intro a b ha hb
    have hp : 0 < 256 ^ s := Nat.pow_pos (by omega)
    rw [beL_succ, beL_succ]
    have hr := ih (a % 256 ^ s) (b % 256 ^ s) (Nat.mod_lt _ hp) (Nat.mod_lt _ hp)
    rw [beL_mod, beL_mod] at hr
    have h1 := byteAt_top a s ha
    have h2 := byteAt_top b s hb
    have ea := div_split a s
    have eb := div_split b s
    have hma := Nat.mod_lt a hp
    have hmb := Nat.mod_lt b hp
    simp only [Op.bytesLess, hr]
    rw [Bool.eq_iff_iff]
    simp only [Bool.or_eq_true, Bool.and_eq_true, decide_eq_true_iff, beq_iff_eq, UInt8.lt_iff_toNat_lt, ← UInt8.toNat_inj, h1, h2]
    generalize a / 256 ^ s = x at *
    generalize b / 256 ^ s = y at *
    generalize a % 256 ^ s = p at *
    generalize b % 256 ^ s = q at *
    generalize 256 ^ s = m at *
    have k1 : x < y → x * m + m ≤ y * m := fun h => by have := Nat.mul_le_mul_right m (show x + 1 ≤ y from h); rw [Nat.succ_mul] at this; exact this
    have k2 : y < x → y * m + m ≤ x * m := fun h => by have := Nat.mul_le_mul_right m (show y + 1 ≤ x from h); rw [Nat.succ_mul] at this; exact this
    rcases Nat.lt_trichotomy x y with h | h | h
    · have := k1 h; constructor
      · intro _; omega
      · intro _; exact .inl h
    · subst h; constructor
      · rintro (h | ⟨_, h⟩) <;> omega
      · intro _; exact .inr ⟨rfl, by omega⟩
    · have := k2 h; constructor
      · rintro (h | ⟨h, _⟩) <;> omega
      · intro _; omega

theorem be_inj (s : Nat) : ∀ (a b : Nat), a < 256 ^ s → b < 256 ^ s → beL a s = beL b s → a = b := by
  intro a b ha hb h
  have h1 := bytesLess_be s a b ha hb
  have h2 := bytesLess_be s b a hb ha
  have h3 := bytesLess_be s a a ha ha
  rw [← h] at h1 h2
  rw [h3] at h1 h2
  simp at h1 h2
  omega

theorem beS_toList (n s : Nat) : (beS n s).toList = beL n s := by rw [ByteArray.toList_eq]; rfl

theorem counted_inj {s t u v : ByteArray} (hs : s.size ≤ 300) (hu : u.size ≤ 300) (h : beL s.size 4 ++ s.data.toList ++ (beL t.size 4 ++ t.data.toList) = beL u.size 4 ++ u.data.toList ++ (beL v.size 4 ++ v.data.toList)) :
      s = u ∧ t = v := by
  have hl := congrArg (List.take 4) h
  have e : ∀ (n : Nat) (x y : List UInt8), (beL n 4 ++ x ++ y).take 4 = beL n 4 := fun n x y => by
    rw [List.append_assoc, List.take_append_of_le_length (by rw [beL_length]; omega), List.take_of_length_le (by rw [beL_length]; omega)]
  rw [e, e] at hl
  have hsz := be_inj 4 _ _ (by omega) (by omega) hl
  rw [hsz, List.append_assoc, List.append_assoc] at h
  have h2 := List.append_cancel_left h
  have h3 := List.append_inj h2 (by simpa using hsz)
  obtain ⟨h4, h5⟩ := h3
  have hsu : s = u := ByteArray.ext (Array.ext' h4)
  refine ⟨hsu, ?_⟩
  have h6 := List.append_inj h5 (by rw [beL_length, beL_length])
  exact ByteArray.ext (Array.ext' h6.2)
theorem getN_lt_len (l : List UInt8) : getN l < 256 ^ l.length := getN_lt l
theorem getN_cons_aux (l : List UInt8) : ∀ n, l.foldl (fun n b => n * 256 + b.toNat) n = n * 256 ^ l.length + getN l := by
  induction l with
  | nil => intro n; simp [getN]
  | cons b l ih =>
    intro n
    have h0 := ih (0 * 256 + b.toNat)
    have h1 := ih (n * 256 + b.toNat)
    simp only [List.foldl_cons, List.length_cons, getN] at *
    rw [h1, h0, Nat.pow_succ, Nat.add_mul, Nat.zero_mul, Nat.zero_add, Nat.mul_assoc, Nat.mul_comm 256, Nat.add_assoc]
theorem getN_cons (b : UInt8) (l : List UInt8) : getN (b :: l) = b.toNat * 256 ^ l.length + getN l := by
  have := getN_cons_aux l (0 * 256 + b.toNat)
  simpa [getN] using this
theorem beL_getN (l : List UInt8) : beL (getN l) l.length = l := by
  induction l with
  | nil => rfl
  | cons b l ih =>
    have hp : 0 < 256 ^ l.length := Nat.pow_pos (by omega)
    have hg := getN_lt l
    rw [List.length_cons, beL_succ, getN_cons]
    have e1 : byteAt (b.toNat * 256 ^ l.length + getN l) l.length = b := by
      apply UInt8.toNat_inj.1
      rw [byteAt_toNat, Nat.add_comm, Nat.add_mul_div_right _ _ hp, Nat.div_eq_of_lt hg, Nat.zero_add]
      exact Nat.mod_eq_of_lt b.toNat_lt
    have e2 : beL (b.toNat * 256 ^ l.length + getN l) l.length = l := by
      rw [← beL_mod, Nat.add_comm, Nat.add_mul_mod_self_right, Nat.mod_eq_of_lt hg, ih]
    rw [e1, e2]
theorem beS_getN {s : ByteArray} (h : s.size ≤ 8) : beS (getN s.data.toList) (clip8 (s.size : Int)) = s := by
  have hc : clip8 (s.size : Int) = s.data.toList.length := by unfold clip8; rw [if_neg (by omega), if_neg (by omega)]; simp
  rw [beS, hc, beL_getN]
end
section
open Go Go.RowKit

theorem info_u8 : (Tryz.prog.info? 5).map (fun i => (i.zero, i.size, i.bytes)) = some (some (.int .u8 0), 1, 1) := by kernel_rfl

set_option maxHeartbeats 1000000 in
theorem put_any (n : Nat) (z : Int) (w : World) :
    Calls Tryz.prog 180 #[.int .u64 (n : Int), .int .i64 z] w fun e w' => e = .returned (.string (beS n (clip8 z))) ∧ Below w.heap.size w w' := by
  obtain ⟨m, hm1, hm2⟩ := clip8_parts z
  have hc8 := clip8_le z
  obtain ⟨c, hc⟩ : ∃ c, c = clip8 z := ⟨_, rfl⟩
  rw [← hc] at hm2 hc8 ⊢
  clear hc
  have hmk := fun w => run_make8 (P := Tryz.prog) 83 5 Tryz.underlying83 info_u8 c (by omega) w
  go_enter Tryz.func180, Tryz.ntmps180
  go_wp2
  clear hm1 hm2 hmk
  obtain ⟨w1, hw1⟩ : ∃ w1, w1 = w.alloc (.cells (rowA c fun _ => .int .u8 0) 5) := ⟨_, rfl⟩
  rw [← hw1]
  have hR : RowAt w1 w.heap.size 5 (rowA c (putF n c 0)) := by rw [hw1, ← putF_zero]; exact RowAt.new _ _ _
  have hB : Below w.heap.size w w1 := by rw [hw1]; exact (Below.refl _ w).alloc (Nat.le_refl _) _
  have HR := hid hR; have HB := hid hB; clear hR hB hw1
  go_loopw [14] (fun v wr => ∃ i : Nat, i ≤ c ∧ v = .int .i64 i ∧ Hid (RowAt wr w.heap.size 5 (rowA c (putF n c i))) ∧ Hid (Below w.heap.size w wr)) (fun v _ => c - (intOf v).toNat)
  case atStart => exact ⟨0, Nat.zero_le _, rfl, HR, HB⟩
  case round =>
    clear HR HB
    obtain ⟨i, hi, rfl, HR, HB⟩ := hrel
    by_cases hlt : i < c
    · have hc : wr.cell? ⟨w.heap.size, c - 1 - i, none⟩ = some (putF n c i (c - 1 - i)) := HR.out.cell (rowA_get _ _ _ (by omega))
      have hf : wr.frozen? ⟨w.heap.size, c - 1 - i, none⟩ = false := HR.out.free _
      go_wp2
      go_roundw
      case rel =>
        refine ⟨i + 1, by omega, by go_num, ?_, HB.out.setCell (Nat.le_refl _) _⟩
        rw [put_byte]
        exact (HR.out.set _ _).eqA (putF_set n c i hlt)
      case measure => simp [intOf]; omega
    · obtain rfl : i = c := by omega
      have hcv := conv_row (P := Tryz.prog) 83 9 5 Tryz.underlying83 Tryz.underlying5 Tryz.underlying9 i (HR.out.eqA (putF_all n i))
      go_wp2
      go_ret
      exact ⟨rfl, HB.out⟩
end
section
open Go

/-- One bit of a sum. -/
def stepN (n : Nat) : Nat := if n % 2 = 1 then (n / 2) ^^^ 3988292384 else n / 2
def iterN (n : Nat) : Nat → Nat
  | 0 => n
  | k + 1 => stepN (iterN n k)
/-- What a byte makes of a sum. -/
def tabN (i : Nat) : Nat := iterN i 8

theorem stepN_lt {n : Nat} (h : n < 4294967296) : stepN n < 4294967296 := by
  unfold stepN
  split
  · exact Nat.xor_lt_two_pow (n := 32) (by omega) (by omega)
  · omega
theorem iterN_lt {n : Nat} (h : n < 4294967296) : ∀ k, iterN n k < 4294967296
  | 0 => h
  | k + 1 => stepN_lt (iterN_lt h k)
theorem tabN_lt {i : Nat} (h : i < 256) : tabN i < 4294967296 := iterN_lt (by omega) 8

theorem and_one_u32 (n : Nat) (h : n < 4294967296) : bits .and .u32 (n : Int) 1 = ((n % 2 : Nat) : Int) := by
  have := u32_and_nat n 1 h (by decide)
  rw [show ((1 : Nat) : Int) = 1 from rfl] at this
  rw [this, Nat.and_one_is_mod]
theorem xor_poly_u32 (n : Nat) (h : n < 4294967296) : bits .xor .u32 (n : Int) 3988292384 = ((n ^^^ 3988292384 : Nat) : Int) :=
  u32_xor_nat n 3988292384 h (by decide)

/-- The table's cells when the first k are made. -/
def tabF (k i : Nat) : Value := if i < k then .int .u32 (tabN i : Nat) else .int .u32 0
def tabA (k : Nat) : Array Value := rowA 256 (tabF k)
theorem tabA_zero : tabA 0 = Array.replicate 256 (.int .u32 0) := by
  rw [rowA_rep]; exact rowA_ext (fun i _ => by simp [tabF])
theorem tabA_set (k : Nat) : (tabA k).setIfInBounds k (.int .u32 (tabN k : Nat)) = tabA (k + 1) := by
  unfold tabA
  rw [rowA_set]
  refine rowA_ext fun i _ => ?_
  unfold tabF
  by_cases e : i = k
  · rw [if_pos e, if_pos (by omega), e]
  · rw [if_neg e]
    by_cases e2 : i < k
    · rw [if_pos e2, if_pos (by omega)]
    · rw [if_neg e2, if_neg (by omega)]

/-- A sum goes on by one byte, by a text, by a row of texts. -/
def crcB (n : Nat) (b : UInt8) : Nat := tabN ((n % 256) ^^^ b.toNat) ^^^ (n / 256)
def crcS (n : Nat) (l : List UInt8) : Nat := l.foldl crcB n
def crcF (f : Nat → ByteArray) : Nat → Nat
  | 0 => 4294967295
  | k + 1 => crcS (crcF f k) (f k).data.toList
theorem crc_at {n : Nat} (b : UInt8) : (n % 256) ^^^ b.toNat < 256 := Nat.xor_lt_two_pow (n := 8) (by omega) (by have := b.toNat_lt; omega)
theorem crcB_lt {n : Nat} (h : n < 4294967296) (b : UInt8) : crcB n b < 4294967296 :=
  Nat.xor_lt_two_pow (n := 32) (tabN_lt (crc_at b)) (by omega)
theorem crcS_lt {n : Nat} (h : n < 4294967296) (l : List UInt8) : crcS n l < 4294967296 := by
  induction l generalizing n with
  | nil => exact h
  | cons b l ih => exact ih (crcB_lt h b)
theorem crcF_lt (f : Nat → ByteArray) : ∀ k, crcF f k < 4294967296
  | 0 => by unfold crcF; omega
  | k + 1 => crcS_lt (crcF_lt f k) _
theorem take_succ_bytes (s : ByteArray) (k : Nat) (h : k < s.size) : s.data.toList.take (k + 1) = s.data.toList.take k ++ [s[k]] := by
  rw [List.take_succ_eq_append_getElem (by simpa using h)]; rfl
theorem crcS_snoc (n : Nat) (s : ByteArray) (k : Nat) (h : k < s.size) : crcS n (s.data.toList.take (k + 1)) = crcB (crcS n (s.data.toList.take k)) s[k] := by
  rw [take_succ_bytes s k h]; unfold crcS; rw [List.foldl_append]; rfl
theorem crc_xor8 (n : Nat) (b : UInt8) : bits .xor .u8 ((n : Int) % 256) (b.toNat : Int) = (((n % 256) ^^^ b.toNat : Nat) : Int) := by
  have := u8_xor_nat (n % 256) b.toNat (by omega) b.toNat_lt
  simpa using this
theorem crc_xor32 (a n : Nat) (ha : a < 4294967296) (h : n < 4294967296) : bits .xor .u32 (a : Int) ((n : Int) / 256) = ((a ^^^ (n / 256) : Nat) : Int) := by
  have := u32_xor_nat a (n / 256) ha (by omega)
  simpa using this
theorem not_u32 (x : Nat) (h : x < 4294967296) : bits .xor .u32 IntKind.u32.max (x : Int) = ((4294967295 - x : Nat) : Int) := by
  have h1 := u32_xor_nat 4294967295 x (by decide) h
  have e : 4294967295 ^^^ x = 4294967295 - x := by
    apply Nat.eq_of_testBit_eq
    intro i
    have h2 := Nat.testBit_two_pow_sub_succ (n := 32) (x := x) (by omega) i
    have h3 := Nat.testBit_two_pow_sub_one 32 i
    rw [show (4294967295 : Nat) - x = 2 ^ 32 - (x + 1) by omega, Nat.testBit_xor, h2, show (4294967295 : Nat) = 2 ^ 32 - 1 by decide, h3]
    by_cases hi : i < 32
    · simp [hi]
    · have hx : x.testBit i = false := Nat.testBit_lt_two_pow (Nat.lt_of_lt_of_le h (by rw [show 4294967296 = 2 ^ 32 by decide]; exact Nat.pow_le_pow_right (by omega) (by omega)))
      simp [hi, hx]
  rw [← e, ← h1]; rfl

/-- The document's: a byte into the sum, then eight bits. -/
def rcrcB (n : Nat) (b : UInt8) : Nat := iterN (n ^^^ b.toNat) 8
def rcrcS (n : Nat) (l : List UInt8) : Nat := l.foldl rcrcB n
theorem rcrcB_lt {n : Nat} (h : n < 4294967296) (b : UInt8) : rcrcB n b < 4294967296 :=
  iterN_lt (Nat.xor_lt_two_pow (n := 32) (by omega) (by have := b.toNat_lt; omega)) 8
theorem rcrcS_lt {n : Nat} (h : n < 4294967296) (l : List UInt8) : rcrcS n l < 4294967296 := by
  induction l generalizing n with
  | nil => exact h
  | cons b l ih => exact ih (rcrcB_lt h b)
theorem rcrcS_snoc (n : Nat) (s : ByteArray) (k : Nat) (h : k < s.size) : rcrcS n (s.data.toList.take (k + 1)) = rcrcB (rcrcS n (s.data.toList.take k)) s[k] := by
  rw [take_succ_bytes s k h]; unfold rcrcS; rw [List.foldl_append]; rfl
end
section
open Go Go.RowKit

theorem step_any (n : Nat) (hn : n < 4294967296) (w : World) :
    Calls Tryz.prog 204 #[.int .u32 (n : Int)] w fun e w' => e = .returned (.int .u32 (stepN n : Nat)) ∧ w = w' := by
  have h1 := and_one_u32 n hn
  have h2 := xor_poly_u32 (n / 2) (by omega)
  have hm : n % 2 = 0 ∨ n % 2 = 1 := by omega
  rcases hm with hm | hm
  · have hb : ((bits .and .u32 (n : Int) 1) == 1) = false := by rw [h1, hm]; rfl
    have hs : stepN n = n / 2 := by unfold stepN; rw [if_neg (by omega)]
    have HS := hid hs; clear hs h1 h2 hm
    go_enter Tryz.func204, Tryz.ntmps204
    go_wp2
    go_ret
    exact ⟨by rw [HS.out]; simp, rfl⟩
  · have hb : ((bits .and .u32 (n : Int) 1) == 1) = true := by rw [h1, hm]; rfl
    have hs : stepN n = (n / 2) ^^^ 3988292384 := by unfold stepN; rw [if_pos hm]
    have HS := hid hs; have H2 := hid h2; clear hs h1 h2 hm
    go_enter Tryz.func204, Tryz.ntmps204
    go_wp2
    go_ret
    exact ⟨by rw [HS.out, ← H2.out]; simp, rfl⟩

theorem zero27 (w : World) : (zeroValue 210).run Tryz.prog w = .ok (.agg (tabA 0)) w := by kernel_rfl

set_option maxHeartbeats 1000000 in
theorem info27 : (Tryz.prog.info? 210).map (·.size) = some 256 := by kernel_rfl
theorem tab_one (k : Nat) : (tabA k).all (·.oneCell') = true := by
  rw [Array.all_eq_true]; intro i h; simp only [tabA, rowA, Array.getElem_ofFn, tabF]; split <;> rfl
theorem tab_size (k : Nat) : (tabA k).size = 256 := by simp [tabA, rowA_size]

set_option maxHeartbeats 2000000 in
set_option maxRecDepth 100000 in
theorem table_any (w : World) : Calls Tryz.prog 193 #[] w fun e w' => e = .returned (.agg (tabA 256)) ∧ Below w.heap.size w w' := by
  have hz := zero27
  go_enter Tryz.func193, Tryz.ntmps193
  go_wp2
  clear hz
  go_loopw [4] (fun v wr => ∃ k : Nat, k ≤ 256 ∧ v = .int .i64 k ∧ Hid (RowAt wr (w.heap.size + 1) 210 (tabA k)) ∧ Hid (RowAt wr w.heap.size 210 (tabA 0)) ∧ Hid (Below w.heap.size w wr)) (fun v _ => 256 - (intOf v).toNat)
  case atStart =>
    exact ⟨0, by omega, rfl, by have := RowAt.new (w.alloc (.cells (tabA 0) 210)) (tabA 0) 210; rwa [World.size_alloc] at this, (RowAt.new w (tabA 0) 210).alloc _, ((Below.refl _ w).alloc (Nat.le_refl _) _).alloc (by simp) _⟩
  case round =>
    obtain ⟨k, hk, rfl, h1, h0, hB⟩ := hrel
    by_cases hlt : k < 256
    · have hc : wr.cell? ⟨w.heap.size + 1, k, none⟩ = some (.int .u32 0) := h1.out.cell (by rw [tabA, rowA_get _ _ _ hlt]; simp [tabF])
      have hf : wr.frozen? ⟨w.heap.size + 1, k, none⟩ = false := h1.out.free k
      have he : IntKind.u32.wrap (k : Int) = (k : Int) := by rw [IntKind.wrap_u32]; omega
      have hd : decide ((k : Int) < 256) = true := by simp; omega
      go_wp2
      clear he
      go_loop [3, 9] (fun v j => ∃ m : Nat, m ≤ 8 ∧ j = .int .i64 m ∧ v = .int .u32 (iterN k m : Nat)) (fun _ j => 8 - (intOf j).toNat)
      case atStart => exact ⟨0, by omega, rfl, rfl⟩
      case round =>
        obtain ⟨m, hm, rfl, rfl⟩ := hrel
        by_cases hl8 : m < 8
        · have hq := iterN_lt (n := k) (by omega) m
          go_wp2_with (go_at_call 204; refine (step_any _ hq _).mono ?_; rintro e w' ⟨rfl, rfl⟩)
          go_round
          case rel => exact ⟨m + 1, by omega, by go_num, rfl⟩
          case measure => simp [intOf]; omega
        · obtain rfl : m = 8 := by omega
          go_wp2
          go_roundw
          case rel =>
            refine ⟨k + 1, by omega, by go_num, ?_, h0.out.other _ _ (by simp), hB.out.setCell (by simp) _⟩
            exact (h1.out.set k _).eqA (tabA_set k)
          case measure => simp [intOf]; omega
    · obtain rfl : k = 256 := by omega
      have h256 : wr.heap[w.heap.size + 1]? = some (.cells (tabA 256) 210 (0, 0)) := h1.out
      have h00 : wr.heap[w.heap.size]? = some (.cells (tabA 0) 210 (0, 0)) := h0.out
      have H256 := hid h256; have H00 := hid h00; clear h256 h00
      go_wp2_with (first | (refine wpList_load_row rfl 210 _ rfl (w.heap.size + 1) rfl 210 (tabA 256) (0, 0) _ H256.out Tryz.underlying210 rfl (by rw [info27, tab_size]) ?_) | (refine wpList_store_row rfl 210 _ _ rfl w.heap.size (tabA 256) rfl rfl 210 (tabA 0) H00.out (by rw [info27, tab_size]) (by rw [tab_size, tab_size]) (tab_one _) ?_))
      exact bodyPost_ret (results_cell_row rfl _ _ w.heap.size 210 (tabA 256) (0, 0) _ rfl (h0.out.setRow _) Tryz.underlying210 rfl (by rw [info27, tab_size])) rfl ⟨rfl, below_setRow hB.out (Nat.le_refl _) _⟩
end
section
open Go Go.RowKit

set_option maxHeartbeats 2000000 in
set_option maxRecDepth 100000 in
theorem crc_any (f : Nat → ByteArray) (b off len cap : Nat) (w : World) (hb : b < w.heap.size) (hl : len ≤ 1000000) (hs : ∀ i, i < len → (f i).size ≤ 1000000000)
    (hc : ∀ i, i < len → w.cell? ⟨b, off + i, none⟩ = some (.string (f i))) :
    Calls Tryz.prog 179 #[.slice (some ⟨b, off, none⟩) len cap] w fun e w' => e = .returned (.int .u32 (4294967295 - crcF f len : Nat)) ∧ Below w.heap.size w w' := by
  have HC := hid hc; have HS := hid hs; clear hc hs
  go_enter Tryz.func179, Tryz.ntmps179
  have hz := zero27
  go_wp2_with (first | (go_at_call 193; refine (table_any _).mono ?_; rintro e w1 ⟨rfl, hB1⟩) | (refine wpList_store_row rfl 210 _ _ rfl w1.heap.size (tabA 256) rfl rfl 210 (tabA 0) (RowAt.new _ _ _) (by rw [info27, tab_size]) (by rw [tab_size, tab_size]) (tab_one _) ?_))
  clear hz
  obtain ⟨w2, hw2⟩ : ∃ w2 : World, w2 = (w1.alloc (.cells (tabA 0) 210)).setRow w1.heap.size (tabA 256) := ⟨_, rfl⟩
  rw [← hw2]
  have hT : RowAt w2 w1.heap.size 210 (tabA 256) := by rw [hw2]; exact (RowAt.new _ _ _).setRow _
  have hB2 : Below w.heap.size w w2 := by rw [hw2]; exact below_setRow (hB1.alloc hB1.size _) hB1.size _
  clear hw2
  have HT := hid hT; have HB := hid hB2; clear hT hB2 hB1
  go_loop [4, 11] (fun n i => ∃ k : Nat, k ≤ len ∧ i = .int .i64 k ∧ n = .int .u32 (crcF f k : Nat)) (fun _ i => len - (intOf i).toNat)
  case atStart => exact ⟨0, Nat.zero_le _, rfl, rfl⟩
  case round =>
    obtain ⟨k, hk, rfl, rfl⟩ := hrel
    by_cases hlt : k < len
    · have hd : decide ((k : Int) < (len : Int)) = true := by simp; omega
      have hcell : w2.cell? ⟨b, off + k, none⟩ = some (.string (f k)) := (HB.out.cell (p := ⟨b, off + k, none⟩) hb).trans (HC.out k hlt)
      have hsz := HS.out k hlt
      have hF := crcF_lt f k
      have hF1 : Hid (crcF f (k + 1) = crcS (crcF f k) (f k).data.toList) := hid rfl
      obtain ⟨s, hs⟩ : ∃ s, s = f k := ⟨_, rfl⟩
      rw [← hs] at hcell hsz hF1
      obtain ⟨n0, hn0⟩ : ∃ n0, n0 = crcF f k := ⟨_, rfl⟩
      rw [← hn0] at hF hF1 ⊢
      clear hs hn0
      go_wp2
      go_loop [4, 17] (fun n i => ∃ m : Nat, m ≤ s.size ∧ i = .int .i64 m ∧ n = .int .u32 (crcS n0 (s.data.toList.take m) : Nat)) (fun _ i => s.size - (intOf i).toNat)
      case atStart => exact ⟨0, Nat.zero_le _, rfl, rfl⟩
      case round =>
        obtain ⟨m, hm, rfl, rfl⟩ := hrel
        by_cases hlm : m < s.size
        · have hq := crcS_lt hF (s.data.toList.take m)
          have hsn := hid (crcS_snoc n0 s m hlm)
          obtain ⟨q, hq0⟩ : ∃ q, q = crcS n0 (s.data.toList.take m) := ⟨_, rfl⟩
          rw [← hq0] at hq hsn ⊢
          clear hq0
          have h8 : IntKind.u8.wrap (q : Int) = ((q % 256 : Nat) : Int) := by rw [IntKind.wrap_u8]; omega
          have hx8 := crc_xor8 q s[m]
          have hat := crc_at (n := q) s[m]
          have hcT : w2.cell? ⟨w1.heap.size, (q % 256) ^^^ s[m].toNat, none⟩ = some (.int .u32 (tabN ((q % 256) ^^^ s[m].toNat) : Nat)) :=
            HT.out.cell (by rw [tabA, rowA_get _ _ _ hat]; simp only [tabF, if_pos hat])
          have hx32 := crc_xor32 (tabN ((q % 256) ^^^ s[m].toNat)) q (tabN_lt hat) hq
          go_wp2
          go_round
          case rel => exact ⟨m + 1, by omega, by go_num, by rw [hsn.out]; rfl⟩
          case measure => simp [intOf]; omega
        · obtain rfl : m = s.size := by omega
          have hall := hid (show s.data.toList.take s.size = s.data.toList from List.take_of_length_le (by simp))
          go_wp2
          go_round
          case rel => exact ⟨k + 1, by omega, by go_num, by rw [hall.out, hF1.out]⟩
          case measure => simp [intOf]; omega
    · obtain rfl : k = len := by omega
      go_wp2
      go_ret
      exact ⟨ret_int (not_u32 _ (crcF_lt f k)), HB.out⟩
end
section
open Go Go.RowKit

set_option maxHeartbeats 1000000 in
theorem get_any (s : ByteArray) (w : World) (h1 : 1 ≤ s.size) (h8 : s.size ≤ 8) :
    Calls Tryz.prog 199 #[.string s] w fun e w' => e = .returned (.tuple #[.int .u64 (getN s.data.toList : Nat), .int .i64 0]) ∧ w = w' := by
  have he := toList_empty h1
  have hd8 : decide ((8 : Int) < (s.size : Int)) = false := by simp; omega
  go_enter Tryz.func199, Tryz.ntmps199
  go_wp2
  go_loop [4, 15] (fun n i => ∃ k : Nat, k ≤ s.size ∧ i = .int .i64 k ∧ n = .int .u64 (getN (s.data.toList.take k) : Nat)) (fun _ i => s.size - (intOf i).toNat)
  case atStart => exact ⟨0, Nat.zero_le _, rfl, rfl⟩
  case round =>
    obtain ⟨k, hk, rfl, rfl⟩ := hrel
    by_cases hlt : k < s.size
    · have hq := getN_take_lt s k (by omega)
      have hst := hid (getN_step s k hlt)
      obtain ⟨q, hq0⟩ : ∃ q, q = getN (s.data.toList.take k) := ⟨_, rfl⟩
      rw [← hq0] at hq hst ⊢
      clear hq0
      have hb := byte_lt s[k]
      have hor := or_u64 q s[k].toNat hq s[k].toNat_lt
      go_wp2
      go_round
      case rel => exact ⟨k + 1, by omega, by go_num, by rw [hst.out]; go_num⟩
      case measure => simp [intOf]; omega
    · obtain rfl : k = s.size := by omega
      have hall := hid (show s.data.toList.take s.size = s.data.toList from List.take_of_length_le (by simp))
      go_wp2
      go_ret2
      exact ⟨ret_int2 (by rw [hall.out]) rfl, rfl⟩
end
section
open Go Go.RowKit
set_option linter.unusedSimpArgs false

theorem get_empty (s : ByteArray) (w : World) (h : s.size = 0) :
    Calls Tryz.prog 199 #[.string s] w fun e w' => e = .returned (.tuple #[.int .u64 0, .int .i64 3]) ∧ w = w' := by
  obtain rfl : s = ByteArray.empty := ByteArray.ext (Array.eq_empty_of_size_eq_zero h)
  go_enter Tryz.func199, Tryz.ntmps199
  go_wp2
  go_ret2
  exact ⟨rfl, rfl⟩
theorem get_long (s : ByteArray) (w : World) (h : 8 < s.size) :
    Calls Tryz.prog 199 #[.string s] w fun e w' => e = .returned (.tuple #[.int .u64 0, .int .i64 5]) ∧ w = w' := by
  have he := toList_empty (s := s) (by omega)
  have hd8 : decide ((8 : Int) < (s.size : Int)) = true := by simp; omega
  go_enter Tryz.func199, Tryz.ntmps199
  go_wp2
  go_ret2
  exact ⟨rfl, rfl⟩
end
section
open Go Go.RowKit
set_option linter.unusedSimpArgs false

end
section
open Go Go.RowKit
set_option linter.unusedSimpArgs false

end
section
open Go Go.RowKit
set_option linter.unusedSimpArgs false

def ex12 (i : Nat) : ByteArray := if i = 0 then ⟨#[49, 50, 51, 52]⟩ else ⟨#[53, 54, 55, 56, 57]⟩
theorem crc_ex : 4294967295 - crcF ex12 2 = 3421780262 := by kernel_rfl
theorem put_ex : beS 258 (clip8 2) = ⟨#[1, 2]⟩ := by kernel_rfl

set_option maxHeartbeats 1000000 in
theorem awake_any (w : World) : Calls Tryz.prog 166 #[] w fun e w' => e = .returned (.bool true) ∧ Below w.heap.size w w' := by
  go_enter Tryz.func166, Tryz.ntmps166
  go_wp2_with (first | (go_at_call 179; refine (crc_any ex12 w.heap.size 0 2 2 _ ?_ ?_ ?_ ?_).mono ?_) | (go_at_call 180; refine (put_any 258 2 _).mono ?_; rw [put_ex]))
  · simp
  · omega
  · intro i hi; unfold ex12; split <;> decide
  · exact lit_cells w _ _ 2 ex12 (fun i hi => by match i, hi with | 0, _ => rfl | 1, _ => rfl)
  · rw [crc_ex]
    rintro e w1 ⟨rfl, hB⟩
    have hB1 := ((Below.refl _ w).alloc (Nat.le_refl _) (.cells #[.string ⟨#[49, 50, 51, 52]⟩, .string ⟨#[53, 54, 55, 56, 57]⟩] 9)).trans (hB.mono (by simp))
    have HB := hid hB1; clear hB hB1
    go_wp2_with (go_at_call 180; refine (put_any 258 2 _).mono ?_; rw [put_ex]; rintro e w2 ⟨rfl, hB⟩)
    go_ret
    exact ⟨rfl, HB.out.trans (hB.mono HB.out.size)⟩
end
end Go.Proofs.YtdjlpmelmhhooaaGreatDoor
