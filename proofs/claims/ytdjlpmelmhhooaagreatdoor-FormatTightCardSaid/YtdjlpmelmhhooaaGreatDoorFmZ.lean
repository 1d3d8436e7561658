/- Format: plain words of FormatTight. -/
import Derived.Test.YtdjlpmelmhhooaaGreatDoorFmT
namespace Go.Proofs.YtdjlpmelmhhooaaGreatDoor
open Go Go.RowKit

def onesL (n : Nat) : List UInt8 := List.replicate n 49
def onesS (n : Nat) : ByteArray := ⟨(onesL n).toArray⟩
theorem onesS_list (n : Nat) : (onesS n).data.toList = onesL n := by simp [onesS]
theorem onesS_size (n : Nat) : (onesS n).size = n := by show (onesL n).toArray.size = n; simp [onesL]
theorem onesS_next (n : Nat) : onesS n ++ ⟨#[49]⟩ = onesS (n + 1) := by
  refine ByteArray.ext (Array.ext' ?_)
  simp [onesS, onesL, ByteArray.data_append, List.replicate_succ']
theorem firstN_one (t : List UInt8) : firstN (49 :: t) = some (49, 1) := by
  simp [firstN, leadN, tailN, isPoint, sizeU]
theorem runesF_ones : ∀ (n at' : Nat), (runesF n at' (onesL n)).length = n ∧ allC (runesF n at' (onesL n)) = true ∧ endF n at' (onesL n) = at' + n
  | 0, at' => by simp [runesF, endF, allC]
  | n + 1, at' => by
    have e : onesL (n + 1) = 49 :: onesL n := rfl
    obtain ⟨h1, h2, h3⟩ := runesF_ones n (at' + 1)
    unfold runesF endF
    rw [e, firstN_one]
    simp only [List.drop_succ_cons, List.drop_zero, List.length_cons]
    refine ⟨by rw [h1], ?_, by rw [h3]; omega⟩
    unfold allC at h2 ⊢
    rw [List.all_cons, h2]
    show (okC 49 && true) = true
    decide
theorem shown_ones (n : Nat) : shownB (onesS n) = true ∧ (runesN (onesS n).data.toList).length = n := by
  obtain ⟨h1, h2, h3⟩ := runesF_ones n 0
  have hl : (onesL n).length = n := by simp [onesL]
  have e1 : runesN (onesL n) = runesF n 0 (onesL n) := by unfold runesN; rw [hl]
  have e2 : endN (onesL n) = n := by unfold endN; rw [hl, h3]; omega
  rw [onesS_list, e1]
  refine ⟨?_, h1⟩
  unfold shownB badN
  rw [onesS_list, e1, h2, e2, onesS_size, if_pos rfl]
  rfl
theorem isNum_ones (n : Nat) (h : n ≠ 0) : isNum (onesL n) = true := by
  obtain ⟨k, rfl⟩ := Nat.exists_eq_succ_of_ne_zero h
  unfold isNum isDig
  rw [Bool.and_eq_true]
  refine ⟨?_, rfl⟩
  rw [List.all_eq_true]
  intro x hx
  rw [List.eq_of_mem_replicate hx]
  decide
def tightB (a b n : Nat) : Bool := decide (a ≤ b) && (decide (a ≤ n) && decide (n ≤ b))
theorem tight_fits (K : Int) (hK : K = 1 ∨ K = 2 ∨ K = 8) (a b n : Nat) (ha : a < 60) (hb : b < 60) : fitsN K a b [] (onesS n) = tightB a b n := by
  have hc : cntB K = true := by rcases hK with rfl | rfl | rfl <;> rfl
  have h4 : K ≠ 4 := by omega
  unfold tightB
  by_cases hab : a ≤ b
  · have hchk : chkN K a b ([] : List ByteArray).length = 0 := by
      unfold chkN
      rw [if_neg (by omega), if_neg (by rintro (h | h | ⟨_, h⟩) <;> omega), if_neg (fun h => h4 h.1)]
    rw [fitsN_good hchk, decide_eq_true hab, Bool.true_and]
    have hin : inB (a : Int) (b : Int) (n : Int) = (decide (a ≤ n) && decide (n ≤ b)) := by
      unfold inB
      congr 1 <;> exact decide_eq_decide.2 (by omega)
    rcases hK with rfl | rfl | rfl
    · unfold kindB
      rw [if_pos rfl, onesS_size, hin, onesS_list]
      by_cases h0 : n = 0
      · simp [h0]
      · rw [isNum_ones n h0]; simp
    · unfold kindB
      rw [if_neg (by decide), if_pos rfl, (shown_ones n).1, (shown_ones n).2, hin]; simp
    · unfold kindB
      simp only [show ¬ ((8 : Int) = 1) by decide, show ¬ ((8 : Int) = 2) by decide, show ¬ ((8 : Int) = 3) by decide, show ¬ ((8 : Int) = 4) by decide, show ¬ ((8 : Int) = 5) by decide, show ¬ ((8 : Int) = 6) by decide, show ¬ ((8 : Int) = 7) by decide, if_false]
      rw [onesS_size, hin, onesS_list]
      by_cases h0 : n = 0
      · simp [h0]
      · rw [isNum_ones n h0]
        have hg : (onesL n).getD 0 0 = 49 := by
          obtain ⟨k, rfl⟩ := Nat.exists_eq_succ_of_ne_zero h0
          rfl
        rw [hg]; simp
  · have hchk : chkN K a b ([] : List ByteArray).length ≠ 0 := by
      unfold chkN
      rw [if_neg (by omega), if_pos (.inr (.inr ⟨hc, by omega⟩))]; decide
    rw [fitsN_bad hchk, decide_eq_false hab]; rfl
/-- In a text that is shown each byte is. -/
theorem tail_high : ∀ (k : Nat) (t : List UInt8) (r q : Nat), tailN t k r = some q → ∀ b ∈ t.take k, 128 ≤ b.toNat
  | 0, _, _, _, _ => by simp
  | k + 1, [], r, q, h => by simp
  | k + 1, c :: t, r, q, h => by
    unfold tailN at h
    split at h
    · rename_i hc
      intro b hb
      rw [List.take_succ_cons] at hb
      rcases List.mem_cons.1 hb with rfl | hb
      · omega
      · exact tail_high k t _ q h b hb
    · cases h
theorem first_bytes (l : List UInt8) (r n : Nat) (h : firstN l = some (r, n)) : ∀ b ∈ l.take n, 128 ≤ b.toNat ∨ b.toNat = r := by
  cases l with
  | nil => simp [firstN] at h
  | cons c t =>
    unfold firstN at h
    by_cases hz : (leadN c.toNat).1 = 0 ∨ (c :: t).length < (leadN c.toNat).1
    · simp only [if_pos hz] at h; cases h
    · simp only [if_neg hz] at h
      cases hq : tailN t ((leadN c.toNat).1 - 1) (leadN c.toNat).2 with
      | none => rw [hq] at h; cases h
      | some q =>
        rw [hq] at h
        simp only at h
        by_cases hcond : isPoint q = true ∧ sizeU q = (leadN c.toNat).1
        · rw [if_pos hcond] at h
          simp only [Option.some.injEq, Prod.mk.injEq] at h
          obtain ⟨rfl, rfl⟩ := h
          intro b hb
          have hp : 1 ≤ (leadN c.toNat).1 := by omega
          obtain ⟨k, hk⟩ : ∃ k, (leadN c.toNat).1 = k + 1 := ⟨(leadN c.toNat).1 - 1, by omega⟩
          rw [hk, List.take_succ_cons] at hb
          rw [hk] at hq
          rcases List.mem_cons.1 hb with rfl | hb
          · by_cases h128 : b.toNat < 128
            · right
              have hl1 : leadN b.toNat = (1, b.toNat) := by unfold leadN; rw [if_pos h128]
              rw [hl1] at hk hq
              obtain rfl : k = 0 := by simpa using hk.symm
              simpa [tailN] using hq
            · left; omega
          · left
            exact tail_high k t _ _ (by simpa using hq) b hb
        · rw [if_neg hcond] at h; cases h
theorem bytes_ok : ∀ (k at' : Nat) (l : List UInt8), endF k at' l = at' + l.length → allC (runesF k at' l) = true → ∀ b ∈ l, ¬ b.toNat < 32 ∧ b.toNat ≠ 127
  | 0, at', l, h, _ => by
    have : l.length = 0 := by unfold endF at h; omega
    rw [List.eq_nil_of_length_eq_zero this]; simp
  | k + 1, at', l, h, hc => by
    unfold endF at h
    unfold runesF at hc
    cases hf : firstN l with
    | none =>
      rw [hf] at h
      have : l.length = 0 := by simp only at h; omega
      rw [List.eq_nil_of_length_eq_zero this]; simp
    | some p =>
      obtain ⟨r, n⟩ := p
      rw [hf] at h hc
      simp only at h hc
      have hn := firstN_size hf
      have hl : (l.drop n).length = l.length - n := by simp
      have ih := bytes_ok k (at' + n) (l.drop n) (by rw [h, hl]; omega) (by unfold allC at hc ⊢; rw [List.all_cons, Bool.and_eq_true] at hc; exact hc.2)
      have hr : okC r = true := by unfold allC at hc; rw [List.all_cons, Bool.and_eq_true] at hc; exact hc.1
      have hr2 : ¬ r < 32 ∧ r ≠ 127 := by
        unfold okC at hr; simpa using hr
      intro b hb
      rw [← List.take_append_drop n l] at hb
      rcases List.mem_append.1 hb with hb | hb
      · rcases first_bytes l r n hf b hb with h1 | h1
        · omega
        · rw [h1]; exact hr2
      · exact ih b hb
theorem shown_bytes (s : ByteArray) (h : shownB s = true) : ∀ b ∈ s.data.toList, ¬ b.toNat < 32 ∧ b.toNat ≠ 127 := by
  unfold shownB at h
  rw [Bool.and_eq_true, decide_eq_true_eq] at h
  obtain ⟨h1, h2⟩ := h
  have hl : s.data.toList.length = s.size := by simp
  unfold badN at h2
  split at h2
  · rename_i he
    refine bytes_ok s.data.toList.length 0 s.data.toList ?_ h1
    unfold endN at he
    rw [he, hl]; omega
  · omega
theorem fits2_shown (s : ByteArray) (h : fitsN 2 0 4096 [] s = true) : shownB s = true := by
  unfold fitsN at h
  rw [Bool.and_eq_true] at h
  have := h.2
  simp [kindB] at this
  exact this.1
end Go.Proofs.YtdjlpmelmhhooaaGreatDoor
