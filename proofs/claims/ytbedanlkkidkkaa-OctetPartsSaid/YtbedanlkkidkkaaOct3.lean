/- awake; the laws OctetOrder, OctetNumbers, OctetSums. -/
import Derived.Test.YtbedanlkkidkkaaOct2
namespace Go.Proofs.Ytbedanlkkidkkaa
open Go Go.RowKit
set_option linter.unusedSimpArgs false

def ex12 (i : Nat) : ByteArray := if i = 0 then ⟨#[49, 50, 51, 52]⟩ else ⟨#[53, 54, 55, 56, 57]⟩
theorem crc_ex : 4294967295 - crcF ex12 2 = 3421780262 := by kernel_rfl
theorem put_ex : beS 258 (clip8 2) = ⟨#[1, 2]⟩ := by kernel_rfl

set_option maxHeartbeats 1000000 in
theorem awake_any (w : World) : Calls Try.prog 7 #[] w fun e w' => e = .returned (.bool true) ∧ Below w.heap.size w w' := by
  go_enter Try.func7, Try.ntmps7
  go_wp2_with (first | (go_at_call 9; refine (crc_any ex12 w.heap.size 0 2 2 _ ?_ ?_ ?_ ?_).mono ?_) | (go_at_call 11; refine (put_any 258 2 _).mono ?_; rw [put_ex]))
  · simp
  · omega
  · intro i hi; unfold ex12; split <;> decide
  · exact lit_cells w _ _ 2 ex12 (fun i hi => by match i, hi with | 0, _ => rfl | 1, _ => rfl)
  · rw [crc_ex]
    rintro e w1 ⟨rfl, hB⟩
    have hB1 := ((Below.refl _ w).alloc (Nat.le_refl _) (.cells #[.string ⟨#[49, 50, 51, 52]⟩, .string ⟨#[53, 54, 55, 56, 57]⟩] 9)).trans (hB.mono (by simp))
    have HB := hid hB1; clear hB hB1
    go_wp2_with (go_at_call 11; refine (put_any 258 2 _).mono ?_; rw [put_ex]; rintro e w2 ⟨rfl, hB⟩)
    go_ret
    exact ⟨rfl, HB.out.trans (hB.mono HB.out.size)⟩

theorem toList_beq {s t : ByteArray} : (s.toList == t.toList) = decide (s = t) := by
  rw [ByteArray.toList_eq, ByteArray.toList_eq, Bool.eq_iff_iff, beq_iff_eq, decide_eq_true_iff]
  constructor
  · intro h; exact ByteArray.ext (Array.ext' h)
  · rintro rfl; rfl

theorem counted_beq {s t u v : ByteArray} (hs : s.size ≤ 300) (hu : u.size ≤ 300) :
    ((beS s.size 4 ++ s ++ (beS t.size 4 ++ t)).toList == (beS u.size 4 ++ u ++ (beS v.size 4 ++ v)).toList) = (decide (s = u) && decide (t = v)) := by
  rw [Bool.eq_iff_iff, beq_iff_eq, Bool.and_eq_true, decide_eq_true_iff, decide_eq_true_iff]
  constructor
  · intro h
    rw [ByteArray.toList_eq, ByteArray.toList_eq] at h
    simp only [ByteArray.data_append, Array.toList_append] at h
    exact counted_inj hs hu h
  · rintro ⟨rfl, rfl⟩; rfl

set_option maxHeartbeats 4000000 in
theorem octetOrder_core (a b : Nat) (s t u v : ByteArray) (ha : a < 18446744073709551616) (hb : b < 18446744073709551616) (h1 : s.size ≤ 300) (h2 : t.size ≤ 300) (h3 : u.size ≤ 300) (h4 : v.size ≤ 300) (w : World) :
    Calls Try.prog 4 #[.int .u64 a, .int .u64 b, .string s, .string t, .string u, .string v] w fun e w' => e = .returned (.bool true) ∧ Below w.heap.size w w' := by
  have hlt := bytesLess_be 8 a b (by simpa using ha) (by simpa using hb)
  rw [← beS_toList, ← beS_toList] at hlt
  have hmx := run_max4 (P := Try.prog) #[3, 3, 3, 3] 3 .i64 s.size t.size u.size v.size
  have hm : decide (300 < mx4 s.size t.size u.size v.size) = false := by unfold mx4; simp; omega
  have q1 : (beS s.size 4 ++ s).size ≤ 304 := by rw [ByteArray.size_append, beS_size]; omega
  have q2 : (beS t.size 4 ++ t).size ≤ 304 := by rw [ByteArray.size_append, beS_size]; omega
  have q3 : (beS u.size 4 ++ u).size ≤ 304 := by rw [ByteArray.size_append, beS_size]; omega
  have q4 : (beS v.size 4 ++ v).size ≤ 304 := by rw [ByteArray.size_append, beS_size]; omega
  have hX := counted_beq (s := s) (t := t) (u := u) (v := v) h1 h3
  have hsu := toList_beq (s := s) (t := u)
  have htv := toList_beq (s := t) (t := v)
  obtain ⟨sb, hsb⟩ : ∃ x, x = decide (s = u) := ⟨_, rfl⟩
  obtain ⟨tb, htb⟩ : ∃ x, x = decide (t = v) := ⟨_, rfl⟩
  rw [← hsb, ← htb] at hX
  rw [← hsb] at hsu
  rw [← htb] at htv
  clear hsb htb
  by_cases hab : a < b
  · have hd : decide ((a : Int) < (b : Int)) = true := by simp; omega
    rw [decide_eq_true hab] at hlt
    cases sb <;> cases tb
    all_goals
      simp only [Bool.and_true, Bool.and_false, Bool.true_and, Bool.false_and] at hX
      go_enter Try.func4, Try.ntmps4
      go_wp2_with (first | (go_at_call 7; refine (awake_any _).mono ?_; rintro e w1 ⟨rfl, hB1⟩) | (go_at_call 11; refine (put_any _ 8 _).mono ?_; rw [show clip8 8 = 8 by decide]; rintro e w2 ⟨rfl, hB2⟩) | (go_at_call 12; refine (counted_any _ _ (by omega)).mono ?_; rintro e w3 ⟨rfl, hB3⟩))
      go_ret
      exact ⟨rfl, by repeat (first | assumption | apply below_cat)⟩
  · have hd : decide ((a : Int) < (b : Int)) = false := by simp; omega
    rw [decide_eq_false hab] at hlt
    cases sb <;> cases tb
    all_goals
      simp only [Bool.and_true, Bool.and_false, Bool.true_and, Bool.false_and] at hX
      go_enter Try.func4, Try.ntmps4
      go_wp2_with (first | (go_at_call 7; refine (awake_any _).mono ?_; rintro e w1 ⟨rfl, hB1⟩) | (go_at_call 11; refine (put_any _ 8 _).mono ?_; rw [show clip8 8 = 8 by decide]; rintro e w2 ⟨rfl, hB2⟩) | (go_at_call 12; refine (counted_any _ _ (by omega)).mono ?_; rintro e w3 ⟨rfl, hB3⟩))
      go_ret
      exact ⟨rfl, by repeat (first | assumption | apply below_cat)⟩

theorem octetOrder_big (a b : Int) (s t u v : ByteArray) (_hs : s.size ≤ 140737488351232) (_ht : t.size ≤ 140737488351232) (_hu : u.size ≤ 140737488351232) (_hv : v.size ≤ 140737488351232)
    (hm : decide (300 < mx4 s.size t.size u.size v.size) = true) (w : World) :
    Calls Try.prog 4 #[.int .u64 a, .int .u64 b, .string s, .string t, .string u, .string v] w fun e w' => e = .returned (.bool true) ∧ Below w.heap.size w w' := by
  have hmx := run_max4 (P := Try.prog) #[3, 3, 3, 3] 3 .i64 s.size t.size u.size v.size
  go_enter Try.func4, Try.ntmps4
  go_wp2_with (go_at_call 7; refine (awake_any _).mono ?_; rintro e w1 ⟨rfl, hB1⟩)
  go_ret
  exact ⟨rfl, hB1⟩

theorem octetOrder_walk (a b : Int) (s t u v : ByteArray) (wa : (Lit.int .u64 a).wf = true) (wb : (Lit.int .u64 b).wf = true) (hs : s.size ≤ 140737488351232) (ht : t.size ≤ 140737488351232) (hu : u.size ≤ 140737488351232) (hv : v.size ≤ 140737488351232) (w : World) :
    Calls Try.prog 4 #[.int .u64 a, .int .u64 b, .string s, .string t, .string u, .string v] w fun e w' => e = .returned (.bool true) ∧ Below w.heap.size w w' := by
  obtain ⟨a, rfl, ha⟩ := u64_of_wf wa
  obtain ⟨b, rfl, hb⟩ := u64_of_wf wb
  by_cases hall : s.size ≤ 300 ∧ t.size ≤ 300 ∧ u.size ≤ 300 ∧ v.size ≤ 300
  · exact octetOrder_core a b s t u v ha hb hall.1 hall.2.1 hall.2.2.1 hall.2.2.2 w
  · exact octetOrder_big a b s t u v hs ht hu hv (by unfold mx4; simp; omega) w

end Go.Proofs.Ytbedanlkkidkkaa
