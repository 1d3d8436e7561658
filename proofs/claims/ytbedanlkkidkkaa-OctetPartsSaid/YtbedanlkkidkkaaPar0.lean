/- Plain words on counted texts: a text cut, all parts, texts joined; no program in sight. -/
import Derived.Test.YtbedanlkkidkkaaOct0
namespace Go.Proofs.Ytbedanlkkidkkaa
open Go

theorem ba_ext {a b : ByteArray} (h : a.data.toList = b.data.toList) : a = b := ByteArray.ext (Array.ext' h)
theorem ba_len (s : ByteArray) : s.data.toList.length = s.size := by simp
theorem ba_append (a b : ByteArray) : (a ++ b).data.toList = a.data.toList ++ b.data.toList := by simp
/-- How many bytes a counted text says it has. -/
def sizeOfS (s : ByteArray) : Nat := getN (s.data.toList.take 4)
def cutS (s : ByteArray) : Option (ByteArray × ByteArray) :=
  if s.size < 4 then none else if s.size - 4 < sizeOfS s then none else some (s.extract 4 (4 + sizeOfS s), s.extract (4 + sizeOfS s) s.size)
theorem sizeOfS_lt (s : ByteArray) : sizeOfS s < 4294967296 := by
  have h := getN_lt (s.data.toList.take 4)
  have h4 : (s.data.toList.take 4).length ≤ 4 := by simp; omega
  exact Nat.lt_of_lt_of_le h (Nat.le_trans (Nat.pow_le_pow_right (by decide) h4) (by decide))
theorem cutS_short {s : ByteArray} (h : s.size < 4) : cutS s = none := by rw [cutS, if_pos h]
theorem cutS_over {s : ByteArray} (h : ¬ s.size < 4) (h2 : s.size - 4 < sizeOfS s) : cutS s = none := by rw [cutS, if_neg h, if_pos h2]
theorem cutS_yes {s : ByteArray} (h : ¬ s.size < 4) (h2 : ¬ s.size - 4 < sizeOfS s) : cutS s = some (s.extract 4 (4 + sizeOfS s), s.extract (4 + sizeOfS s) s.size) := by rw [cutS, if_neg h, if_neg h2]
theorem cutS_size {s p r : ByteArray} (h : cutS s = some (p, r)) : 4 ≤ s.size ∧ sizeOfS s ≤ s.size - 4 ∧ p = s.extract 4 (4 + sizeOfS s) ∧ r = s.extract (4 + sizeOfS s) s.size ∧ p.size = sizeOfS s ∧ r.size + (4 + sizeOfS s) = s.size := by
  rw [cutS] at h
  split at h
  · cases h
  · split at h
    · cases h
    · simp only [Option.some.injEq, Prod.mk.injEq] at h
      obtain ⟨rfl, rfl⟩ := h
      refine ⟨by omega, by omega, rfl, rfl, ?_, ?_⟩
      · rw [ByteArray.size_extract]; omega
      · rw [ByteArray.size_extract]; omega
/-- The text is the counted part with the rest behind it. -/
theorem cutS_back {s p r : ByteArray} (h : cutS s = some (p, r)) : beS p.size 4 ++ p ++ r = s := by
  obtain ⟨h4, hn, hp, hr, hps, hrs⟩ := cutS_size h
  have hb : beL p.size 4 = s.data.toList.take 4 := by
    have := beL_getN (s.data.toList.take 4)
    rw [show (s.data.toList.take 4).length = 4 by simp; omega] at this
    rw [hps]; exact this
  apply ba_ext
  rw [ba_append, ba_append]
  rw [show (beS p.size 4).data.toList = beL p.size 4 from rfl, hb, hp, hr, Lib.extract_data, Lib.extract_data]
  have e1 : s.size - (4 + sizeOfS s) = (s.data.toList.drop (4 + sizeOfS s)).length := by simp
  rw [e1, List.take_length, Nat.add_sub_cancel_left, List.append_assoc]
  have e2 : s.data.toList.drop (4 + sizeOfS s) = (s.data.toList.drop 4).drop (sizeOfS s) := by rw [List.drop_drop]
  rw [e2, List.take_append_drop, List.take_append_drop]
theorem cut_twice (s : ByteArray) (n : Nat) (hn : n ≤ s.size - 4) : (s.extract 4 s.size).extract 0 n = s.extract 4 (4 + n) ∧ (s.extract 4 s.size).extract n (s.size - 4) = s.extract (4 + n) s.size := by
  constructor
  · apply ba_ext
    simp only [Lib.extract_data, List.drop_zero, Nat.sub_zero, Nat.add_sub_cancel_left, List.take_take]
    rw [Nat.min_eq_left hn]
  · apply ba_ext
    simp only [Lib.extract_data]
    rw [List.take_of_length_le (l := s.data.toList.drop 4) (by simp), List.drop_drop, List.take_of_length_le (by simp; omega), List.take_of_length_le (by simp)]

def partsF : Nat → ByteArray → List ByteArray
  | 0, _ => []
  | k + 1, s => match cutS s with
    | none => []
    | some (p, r) => p :: partsF k r
def partsN (s : ByteArray) : List ByteArray := partsF s.size s
theorem partsF_none {k : Nat} {s : ByteArray} (h : cutS s = none) : partsF k s = [] := by
  cases k with
  | zero => rfl
  | succ k => rw [partsF, h]
theorem partsF_some {k : Nat} {s p r : ByteArray} (h : cutS s = some (p, r)) : partsF (k + 1) s = p :: partsF k r := by rw [partsF, h]
theorem partsF_len : ∀ (k : Nat) (s : ByteArray), (partsF k s).length * 4 ≤ s.size
  | 0, s => by simp [partsF]
  | k + 1, s => by
    rw [partsF]
    split
    · simp
    · rename_i p r h
      have := partsF_len k r
      have h2 := cutS_size h
      rw [List.length_cons]; omega
theorem partsN_none {s : ByteArray} (h : cutS s = none) : partsN s = [] := partsF_none h
theorem partsN_some {s p r : ByteArray} (h : cutS s = some (p, r)) : ∃ l, partsN s = p :: l := by
  have := cutS_size h
  obtain ⟨k, hk⟩ : ∃ k, s.size = k + 1 := ⟨s.size - 1, by omega⟩
  exact ⟨_, by rw [partsN, hk, partsF_some h]⟩
theorem partsF_mem : ∀ (k : Nat) (s : ByteArray), ∀ p ∈ partsF k s, p.size ≤ s.size
  | 0, s => by simp [partsF]
  | k + 1, s => by
    rw [partsF]
    split
    · simp
    · rename_i p r h
      have h2 := cutS_size h
      intro q hq
      rcases List.mem_cons.1 hq with rfl | hq
      · omega
      · have := partsF_mem k r q hq; omega

/-- Counted texts, one behind the other. -/
def joinS : List ByteArray → ByteArray
  | [] => ⟨#[]⟩
  | p :: l => beS p.size 4 ++ p ++ joinS l
theorem joinS_snoc (l : List ByteArray) (p : ByteArray) : joinS (l ++ [p]) = joinS l ++ (beS p.size 4 ++ p) := by
  induction l with
  | nil => apply ba_ext; simp [joinS]
  | cons q l ih => apply ba_ext; simp only [List.cons_append, joinS, ih, ba_append, List.append_assoc]
theorem joinS_size (l : List ByteArray) (h : ∀ p ∈ l, p.size ≤ 300) : (joinS l).size ≤ 304 * l.length := by
  induction l with
  | nil => simp [joinS, ByteArray.size]
  | cons q l ih =>
    have h1 := ih (fun p hp => h p (by simp [hp]))
    have h2 := h q (by simp)
    simp only [joinS, ByteArray.size_append, beS_size, List.length_cons]
    omega
theorem joinS_cut (p : ByteArray) (l : List ByteArray) (hp : p.size ≤ 300) : cutS (joinS (p :: l)) = some (p, joinS l) := by
  have hd : (joinS (p :: l)).data.toList = beL p.size 4 ++ (p.data.toList ++ (joinS l).data.toList) := by
    simp only [joinS, ba_append, List.append_assoc]; rfl
  have hl4 : (beL p.size 4).length = 4 := beL_length _ _
  have hn : sizeOfS (joinS (p :: l)) = p.size := by
    rw [sizeOfS, hd, List.take_left' hl4]
    exact be_inj 4 _ _ (by have := getN_lt (beL p.size 4); rw [hl4] at this; exact this) (Nat.lt_of_le_of_lt hp (by decide)) (by have := beL_getN (beL p.size 4); rw [hl4] at this; exact this)
  have hsz : (joinS (p :: l)).size = 4 + p.size + (joinS l).size := by
    simp only [joinS, ByteArray.size_append, beS_size]
  have hq : (p.data.toList).length = p.size := ba_len p
  rw [cutS_yes (by omega) (by omega), hn]
  congr 1
  refine Prod.ext (ba_ext ?_) (ba_ext ?_)
  · show ((joinS (p :: l)).extract 4 (4 + p.size)).data.toList = _
    rw [Lib.extract_data, hd, Nat.add_sub_cancel_left, List.drop_left' hl4, List.take_left' hq]
  · show ((joinS (p :: l)).extract (4 + p.size) (joinS (p :: l)).size).data.toList = _
    rw [Lib.extract_data, hd, List.take_of_length_le (by simp [hl4]; omega)]
    rw [← List.append_assoc, show 4 + p.size = (beL p.size 4 ++ p.data.toList).length by simp [hl4], List.drop_left]
theorem joinS_parts : ∀ (l : List ByteArray), (∀ p ∈ l, p.size ≤ 300) → ∀ k, l.length ≤ k → partsF k (joinS l) = l
  | [], _, k, _ => partsF_none (cutS_short (by simp [joinS, ByteArray.size]))
  | p :: l, h, k, hk => by
    obtain ⟨k, rfl⟩ : ∃ m, k = m + 1 := ⟨k - 1, by simp at hk; omega⟩
    rw [partsF_some (joinS_cut p l (h p (by simp))), joinS_parts l (fun q hq => h q (by simp [hq])) k (by simpa using hk)]
theorem joinS_len (l : List ByteArray) : l.length ≤ (joinS l).size := by
  induction l with
  | nil => simp
  | cons q l ih => simp only [joinS, ByteArray.size_append, beS_size, List.length_cons]; omega
theorem partsN_join (l : List ByteArray) (h : ∀ p ∈ l, p.size ≤ 300) : partsN (joinS l) = l := joinS_parts l h _ (joinS_len l)

end Go.Proofs.Ytbedanlkkidkkaa
