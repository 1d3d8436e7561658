/- Format: what fits isn't longer than the longest; the walk of FormatLongest. -/
import Derived.Test.YtdjlpmelmhhooaaGreatDoorFmW
namespace Go.Proofs.YtdjlpmelmhhooaaGreatDoor
open Go Go.RowKit
set_option linter.unusedSimpArgs false
set_option linter.unusedVariables false

theorem endF_le : ∀ (k at' : Nat) (l : List UInt8), endF k at' l ≤ at' + 4 * (runesF k at' l).length
  | 0, at', l => by simp [endF, runesF]
  | k + 1, at', l => by
    unfold endF runesF
    cases h : firstN l with
    | none => simp
    | some p =>
      obtain ⟨r, n⟩ := p
      have h4 := (firstN_size h).2.2.1
      have ih := endF_le k (at' + n) (l.drop n)
      simp only [List.length_cons]
      omega
theorem shown_len (s : ByteArray) (h : shownB s = true) : s.size ≤ 4 * (runesN s.data.toList).length := by
  unfold shownB at h
  rw [Bool.and_eq_true, decide_eq_true_eq] at h
  have h2 := h.2
  unfold badN at h2
  split at h2
  · rename_i he
    rw [← he]
    have := endF_le s.data.toList.length 0 s.data.toList
    unfold endN runesN
    omega
  · omega
theorem inB_le {mn mx n : Int} (h : inB mn mx n = true) : mn ≤ n ∧ n ≤ mx := by
  unfold inB at h
  simpa using h
theorem fits_long (k mn mx : Int) (ss : List ByteArray) (s : ByteArray) (h : fitsN k mn mx ss s = true) : (s.size : Int) ≤ longN k mn mx ss := by
  unfold fitsN at h
  rw [Bool.and_eq_true, decide_eq_true_eq] at h
  obtain ⟨hc, h⟩ := h
  obtain ⟨h1, h2, h3, h4, h5, h6, h7⟩ := chkN_kind hc
  have hk : k = 1 ∨ k = 2 ∨ k = 3 ∨ k = 4 ∨ k = 5 ∨ k = 6 ∨ k = 7 ∨ k = 8 := by omega
  have hl : s.data.toList.length = s.size := by simp
  rcases hk with rfl | rfl | rfl | rfl | rfl | rfl | rfl | rfl
  · simp only [kindB, if_true, Bool.and_eq_true] at h
    have := (inB_le h.1).2
    simpa [longN] using this
  · simp [kindB] at h
    have h8 := (inB_le h.2).2
    have h9 := shown_len s h.1
    simp [longN]
    omega
  · simp [kindB, idB] at h
    cases hp : parseO s.data.toList with
    | none => rw [hp] at h; simp at h
    | some l =>
      obtain ⟨hl2, hs⟩ := (parseO_some _ _).1 hp
      have : s.size = 36 := by rw [← hl, hs, textI_len l hl2]
      simp [longN]; omega
  · simp [kindB] at h
    have := mostS_mem (memS_iff.1 h)
    simp [longN]; omega
  · simp [kindB] at h
    unfold cardN at h
    simp [longN]
    split at h
    · omega
    · split at h
      · omega
      · split at h
        · omega
        · omega
  · simp [kindB] at h
    unfold dateN at h
    simp [longN]
    split at h
    · omega
    · rename_i hn
      have : s.data.toList.length = 14 := by
        rw [not_or] at hn; omega
      omega
  · simp [kindB, proofB] at h
    cases hp : decP stdL 6 true s.data.toList with
    | none => rw [hp] at h; simp at h
    | some o =>
      rw [hp] at h
      simp at h
      have he := (decP_iff good_std _ _).1 hp
      have hz := enc_size (L := stdL) (k := 6) (fill := true) (by decide) o
      rw [he, sizeN_std, hl] at hz
      simp [longN]; omega
  · simp [kindB] at h
    have := (inB_le h.1).2
    simpa [longN] using this
end Go.Proofs.YtdjlpmelmhhooaaGreatDoor
