/- Dates: plain words. -/
import Derived.Test.YtdjlpmelmhhooaaGreatDoorDgB
import Derived.Lib.Atoi
namespace Go.Proofs.YtdjlpmelmhhooaaGreatDoor
open Go

def valF (v : Nat) (l : List UInt8) : Nat := l.foldl (fun v c => v * 10 + (c.toNat - 48)) v
def datePart (l : List UInt8) (a n : Nat) : Nat := valF 0 ((l.drop a).take n)
def dateBad (l : List UInt8) : Bool := decide (datePart l 6 2 < 1) || (decide (daysN (datePart l 0 4 : Nat) (datePart l 4 2 : Nat) < datePart l 6 2) || (decide (23 < datePart l 8 2) || (decide (59 < datePart l 10 2) || decide (59 < datePart l 12 2))))
def dateN (l : List UInt8) : Nat := if l.length ≠ 14 ∨ isNum l = false then 4 else if dateBad l then 7 else 0
theorem decFrom_dig : ∀ (l : List UInt8) (a : Nat), isDig l = true → Lib.decFrom a l = some (valF a l)
  | [], a, _ => rfl
  | c :: l, a, h => by
    have h1 : isDig l = true := by
      unfold isDig at h ⊢; rw [List.all_cons] at h; exact (Bool.and_eq_true_iff.1 h).2
    have h2 := isDig_get h (i := 0) (by simp)
    simp only [List.getElem_cons_zero] at h2
    simp only [Lib.decFrom, Lib.digitVal, if_pos h2]
    exact decFrom_dig l _ h1
theorem atoi_dig (l : List UInt8) (h : isDig l = true) (hne : l ≠ []) : Lib.atoi l = some ((valF 0 l : Nat) : Int) := by
  cases l with
  | nil => exact absurd rfl hne
  | cons c l =>
    have h2 := isDig_get h (i := 0) (by simp)
    simp only [List.getElem_cons_zero] at h2
    have e1 : (c == 45) = false := by rw [beq_eq_false_iff_ne]; rintro rfl; simp at h2
    have e2 : (c == 43) = false := by rw [beq_eq_false_iff_ne]; rintro rfl; simp at h2
    simp only [Lib.atoi, e1, e2, Bool.false_eq_true, if_false, Lib.decNat, List.isEmpty_cons, decFrom_dig _ _ h, Option.map_some]
theorem isDig_part {l : List UInt8} (h : isDig l = true) (a n : Nat) : isDig ((l.drop a).take n) = true := by
  unfold isDig at *
  rw [List.all_eq_true] at *
  exact fun x hx => h x (List.mem_of_mem_drop (List.mem_of_mem_take hx))
theorem valF_lt {l : List UInt8} (h : isDig l = true) : valF 0 l < 10 ^ l.length := by
  have := Lib.decFrom_lt l 0 _ (decFrom_dig l 0 h)
  simpa using this
theorem datePart_lt {l : List UInt8} (h : isDig l = true) (a n : Nat) (hl : a + n ≤ l.length) : datePart l a n < 10 ^ n := by
  have := valF_lt (isDig_part h a n)
  rw [List.length_take, List.length_drop, Nat.min_eq_left (by omega)] at this
  exact this
/-- The cell of a month's days. -/
def monthN (k : Nat) : Nat := [31, 28, 31, 30, 31, 30, 31, 31, 30, 31, 30, 31].getD k 0
theorem days_month (y : Int) (m : Nat) (hm : m < 12) (h0 : 0 ≤ y) (h1 : y ≤ 9999) : daysN y ((m : Int) + 1) = monthN m + (if decide (m = 1) && leapN y then 1 else 0) := by
  have hb : ¬ (y < 0 ∨ 9999 < y) := by omega
  unfold daysN
  rw [if_neg hb]
  have : m = 0 ∨ m = 1 ∨ m = 2 ∨ m = 3 ∨ m = 4 ∨ m = 5 ∨ m = 6 ∨ m = 7 ∨ m = 8 ∨ m = 9 ∨ m = 10 ∨ m = 11 := by omega
  rcases this with rfl | rfl | rfl | rfl | rfl | rfl | rfl | rfl | rfl | rfl | rfl | rfl
  all_goals simp [monthN]
  cases leapN y <;> simp
theorem days_none (y m : Int) (h : y < 0 ∨ 9999 < y ∨ m < 1 ∨ 12 < m) : daysN y m = 0 := by
  unfold daysN
  by_cases hb : y < 0 ∨ 9999 < y
  · rw [if_pos hb]
  · rw [if_neg hb, if_neg (by omega), if_neg (by omega), if_neg (by omega)]
end Go.Proofs.YtdjlpmelmhhooaaGreatDoor
