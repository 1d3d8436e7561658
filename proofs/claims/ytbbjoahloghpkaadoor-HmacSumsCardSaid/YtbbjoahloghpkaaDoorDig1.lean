/- digits.Is: a range over a text. -/
import Derived.Test.YtbbjoahloghpkaaDoorProg
import Derived.Test.YtbbjoahloghpkaaDoorDig0
import Derived.Laws.RangeAny
namespace Go.Proofs.YtbbjoahloghpkaaDoor
open Go Go.RowKit
set_option linter.unusedSimpArgs false

theorem toList_none : (⟨#[]⟩ : ByteArray).toList.isEmpty = true := by
  unfold ByteArray.toList
  unfold ByteArray.toList.loop
  rfl
theorem isDig_take_succ (l : List UInt8) (k : Nat) (h : k < l.length) : isDig (l.take (k + 1)) = (isDig (l.take k) && (decide (48 ≤ l[k].toNat) && decide (l[k].toNat ≤ 57))) := by
  unfold isDig
  rw [List.take_succ_eq_append_getElem h, List.all_append]
  simp
theorem isDig_of_bad (l : List UInt8) (k : Nat) (h : k < l.length) (hb : l[k].toNat < 48 ∨ 57 < l[k].toNat) : isDig l = false := by
  rw [Bool.eq_false_iff]
  intro hd
  have := isDig_get hd h
  omega
theorem isNum_bad {l : List UInt8} (h : isDig l = false) : isNum l = false := by simp [isNum, h]

set_option maxRecDepth 100000 in
set_option maxHeartbeats 4000000 in
theorem is_any (s : ByteArray) (hs : s.size ≤ 140737488351232) (w : World) : Calls Tryd.prog 43 #[.string s] w fun e w' => e = .returned (.bool (isNum s.data.toList)) ∧ Below w.heap.size w w' := by
  go_enter Tryd.func43, Tryd.ntmps43
  go_wp2
  go_loopw [4] (fun _ wr => ∃ pos, pos ≤ s.size ∧ Hid (isDig (s.data.toList.take pos) = true) ∧ wr = w.iter s pos) (fun _ wr => s.size - wr.iterPos w.heap.size)
  case atStart => exact ⟨0, Nat.zero_le _, hid (by simp [isDig]), rfl⟩
  case round =>
    obtain ⟨pos, hpos, hd, rfl⟩ := hrel
    by_cases hp : pos < s.size
    · have hl : pos < s.data.toList.length := by simpa using hp
      have hget : s.data.toList[pos] = s[pos] := rfl
      by_cases hhi : 128 ≤ s[pos].toNat
      · have hnext := fun ty => run_next_any (P := Tryd.prog) w s pos ty hp
        obtain ⟨hdh, _⟩ := decode_high s pos hp hhi
        have hle := decode_le s pos
        have hbad := hid (isNum_bad (isDig_of_bad _ pos hl (.inr (by rw [hget]; omega))))
        obtain ⟨r, hr⟩ : ∃ r, r = (Utf8.decode s pos).1 := ⟨_, rfl⟩
        obtain ⟨st, hst⟩ : ∃ r, r = (Utf8.decode s pos).2 := ⟨_, rfl⟩
        rw [← hr] at hdh hle hnext
        rw [← hst] at hnext
        clear hr hst hget hhi hl
        have h1 : decide ((r : Int) < 48) = false := decide_eq_false (by omega)
        have h1' : ¬ (r : Int) < 48 := by omega
        have h2 : decide ((57 : Int) < (r : Int)) = true := decide_eq_true (by omega)
        have h2' : (57 : Int) < (r : Int) := by omega
        go_wp2
        go_ret
        exact ⟨ret_bool hbad.out.symm, (Below.refl _ _).alloc (Nat.le_refl _) _⟩
      · have hnext := fun ty => run_next_ascii (P := Tryd.prog) w s pos ty hp (by omega)
        obtain ⟨r, hr⟩ : ∃ r, r = s[pos].toNat := ⟨_, rfl⟩
        simp only [← hr] at hnext
        have hr0 := hr
        by_cases h1' : (r : Int) < 48
        · have hbad := hid (isNum_bad (isDig_of_bad _ pos hl (.inl (by rw [hget]; omega))))
          clear hget hr hr0 hhi
          have h1 : decide ((r : Int) < 48) = true := decide_eq_true (by omega)
          go_wp2
          go_ret
          exact ⟨ret_bool hbad.out.symm, (Below.refl _ _).alloc (Nat.le_refl _) _⟩
        · by_cases h2' : (57 : Int) < (r : Int)
          · have hbad := hid (isNum_bad (isDig_of_bad _ pos hl (.inr (by rw [hget]; omega))))
            clear hget hr hr0 hhi
            have h1 : decide ((r : Int) < 48) = false := decide_eq_false (by omega)
            have h2 : decide ((57 : Int) < (r : Int)) = true := decide_eq_true (by omega)
            go_wp2
            go_ret
            exact ⟨ret_bool hbad.out.symm, (Below.refl _ _).alloc (Nat.le_refl _) _⟩
          · have hgood := hid (show isDig (s.data.toList.take (pos + 1)) = true by
              rw [isDig_take_succ _ _ hl, hd.out, hget]; simp; omega)
            clear hget hr hr0 hhi
            have h1 : decide ((r : Int) < 48) = false := decide_eq_false (by omega)
            have h2 : decide ((57 : Int) < (r : Int)) = false := decide_eq_false (by omega)
            go_wp2
            go_roundw
            case rel => exact ⟨pos + 1, by omega, hgood, rfl⟩
            case measure => simp only [World.iterPos_iter]; omega
    · have hnext := fun ty => run_next_end (P := Tryd.prog) w s pos ty hp
      obtain rfl : pos = s.size := by omega
      have hfin := hd.out
      rw [List.take_of_length_le (by simp)] at hfin
      replace hfin := hid hfin
      go_wp2
      go_ret
      refine ⟨ret_bool ?_, (Below.refl _ _).alloc (Nat.le_refl _) _⟩
      rw [isNum, hfin.out, Bool.true_and]
      by_cases h0 : 1 ≤ s.size
      · rw [toList_empty h0]
        have h1 : s.data.toList.length = s.size := by simp
        cases h2 : s.data.toList with
        | nil => rw [h2] at h1; simp at h1; omega
        | cons a l => rfl
      · have h7 : s.data = #[] := by
          apply Array.eq_empty_of_size_eq_zero
          have h1 : s.data.size = s.size := rfl
          omega
        cases s; simp only at h7; subst h7
        have h8 : (⟨#[]⟩ : ByteArray).toList.isEmpty = true := toList_none
        rw [h8]; rfl
end Go.Proofs.YtbbjoahloghpkaaDoor
