/- The document's Days. -/
import Derived.Test.YtdjlpmelmhhooaaGreatDoorDig9
import Derived.Maps.AppendAt
import Derived.OwnWalk
namespace Go.Proofs.YtdjlpmelmhhooaaGreatDoor
open Go Go.RowKit
set_option linter.unusedSimpArgs false

set_option maxRecDepth 100000 in
set_option maxHeartbeats 8000000 in
theorem refDays_any (y m : Int) (w : World) : Calls Tryz.prog 107 #[.int .i64 y, .int .i64 m] w fun e w' => e = .returned (.int .i64 (daysN y m : Nat)) ∧ Below w.heap.size w w' := by
  go_enter Tryz.func107, Tryz.ntmps107
  by_cases h0' : y < 0
  · have hD := hid (days_none y m (by omega))
    have h0 : decide (y < 0) = true := decide_eq_true h0'
    go_wp2
    go_ret
    exact ⟨by rw [hD.out]; rfl, Below.refl _ _⟩
  have h0 : decide (y < 0) = false := decide_eq_false h0'
  by_cases h1' : 9999 < y
  · have hD := hid (days_none y m (by omega))
    have h1 : decide (9999 < y) = true := decide_eq_true h1'
    go_wp2
    go_ret
    exact ⟨by rw [hD.out]; rfl, Below.refl _ _⟩
  have h1 : decide (9999 < y) = false := decide_eq_false h1'
  by_cases h2' : m < 1
  · have hD := hid (days_none y m (by omega))
    have h2 : decide (m < 1) = true := decide_eq_true h2'
    go_wp2
    go_ret
    exact ⟨by rw [hD.out]; rfl, Below.refl _ _⟩
  have h2 : decide (m < 1) = false := decide_eq_false h2'
  by_cases h3' : 12 < m
  · have hD := hid (days_none y m (by omega))
    have h3 : decide (12 < m) = true := decide_eq_true h3'
    go_wp2
    go_ret
    exact ⟨by rw [hD.out]; rfl, Below.refl _ _⟩
  have h3 : decide (12 < m) = false := decide_eq_false h3'
  obtain ⟨n, rfl⟩ : ∃ n : Nat, y = (n : Int) := ⟨y.toNat, by omega⟩
  have hb : ¬ ((n : Int) < 0 ∨ 9999 < (n : Int)) := by omega
  obtain ⟨D, hD⟩ : ∃ D, D = daysN (n : Int) m := ⟨_, rfl⟩
  rw [← hD]
  unfold daysN at hD
  rw [if_neg hb] at hD
  clear hb
  have hmm : m = 1 ∨ m = 2 ∨ m = 3 ∨ m = 4 ∨ m = 5 ∨ m = 6 ∨ m = 7 ∨ m = 8 ∨ m = 9 ∨ m = 10 ∨ m = 11 ∨ m = 12 := by omega
  clear h2 h2' h3 h3'
  have cell : ∀ (A : Array Value) (j : Nat) (v : Value), A[j]? = some v → (w.alloc (.cells A 3)).cell? ⟨w.heap.size, j, none⟩ = some v := fun A j v h => (RowAt.new w A 3).cell h
  rcases hmm with rfl | rfl | rfl | rfl | rfl | rfl | rfl | rfl | rfl | rfl | rfl | rfl
  case inr.inl =>
    have hL : D = if leapN (n : Int) then 29 else 28 := by simpa using hD
    clear hD
    by_cases a : (n : Int) % 4 = 0
    · have a' : ((n : Int) % 4 == 0) = true := by rw [beq_iff_eq]; exact a
      by_cases b : (n : Int) % 100 = 0
      · have b' : ((n : Int) % 100 != 0) = false := by rw [b]; rfl
        by_cases c : (n : Int) % 400 = 0
        · have c' : ((n : Int) % 400 == 0) = true := by rw [beq_iff_eq]; exact c
          obtain rfl : D = 29 := by rw [hL]; simp [leapN, a, b, c]
          clear hL a b c
          go_wp2
          go_ret
          exact ⟨rfl, below_al (Below.refl _ _) _⟩
        · have c' : ((n : Int) % 400 == 0) = false := by rw [beq_eq_false_iff_ne]; exact c
          obtain rfl : D = 28 := by rw [hL]; simp [leapN, a, b, c]
          clear hL a b c
          go_wp2
          go_ret
          exact ⟨rfl, below_al (Below.refl _ _) _⟩
      · have b' : ((n : Int) % 100 != 0) = true := by rw [bne_iff_ne]; exact b
        obtain rfl : D = 29 := by rw [hL]; simp [leapN, a, b]
        clear hL a b
        go_wp2
        go_ret
        exact ⟨rfl, below_al (Below.refl _ _) _⟩
    · have a' : ((n : Int) % 4 == 0) = false := by rw [beq_eq_false_iff_ne]; exact a
      have c' : ((n : Int) % 400 == 0) = false := by rw [beq_eq_false_iff_ne]; omega
      obtain rfl : D = 28 := by rw [hL]; simp [leapN, a]
      clear hL a
      go_wp2
      go_ret
      exact ⟨rfl, below_al (Below.refl _ _) _⟩
  all_goals
    simp at hD
    subst hD
    go_wp2
    go_ret
    exact ⟨rfl, below_al (Below.refl _ _) _⟩
end Go.Proofs.YtdjlpmelmhhooaaGreatDoor
