/- Plain words on layer 3: digits, sums of weights; no program in sight. -/
import Derived.Test.YtbbjoahloghpkaaDoorKit
namespace Go.Proofs.YtbbjoahloghpkaaDoor
open Go

/-- Are they digits? -/
def isDig (l : List UInt8) : Bool := l.all fun c => decide (48 ≤ c.toNat) && decide (c.toNat ≤ 57)
def isNum (l : List UInt8) : Bool := isDig l && !l.isEmpty
theorem isDig_get {l : List UInt8} (h : isDig l = true) {i : Nat} (hi : i < l.length) : 48 ≤ l[i].toNat ∧ l[i].toNat ≤ 57 := by
  have := (List.all_eq_true.1 h) l[i] (List.getElem_mem hi)
  simpa using this
/-- A digit's weight. -/
def weightN (c : UInt8) (d : Bool) : Nat := if d then (if 10 ≤ (c.toNat - 48) * 2 then (c.toNat - 48) * 2 - 9 else (c.toNat - 48) * 2) else c.toNat - 48
/-- The weights of digits, the first of the row first; each second one doubled. -/
def weightsN : Bool → List UInt8 → List Nat
  | _, [] => []
  | d, c :: l => weightN c d :: weightsN (!d) l
def luhnSum (d : Bool) (l : List UInt8) : Nat := (weightsN d l.reverse).sum
def luhnN (l : List UInt8) : Bool := isNum l && decide (luhnSum false l % 10 = 0)
theorem weightN_le (c : UInt8) (h : c.toNat ≤ 57) (d : Bool) : weightN c d ≤ 9 := by
  unfold weightN
  split
  · split <;> omega
  · omega
theorem weightsN_le : ∀ (l : List UInt8) (d : Bool), isDig l = true → (weightsN d l).sum ≤ 9 * l.length
  | [], _, _ => by simp [weightsN]
  | c :: l, d, h => by
    have h1 : isDig l = true := by
      unfold isDig at h ⊢; rw [List.all_cons] at h; exact (Bool.and_eq_true_iff.1 h).2
    have h2 := (isDig_get h (i := 0) (by simp)).2
    have ih := weightsN_le l (!d) h1
    have h3 := weightN_le c (by simpa using h2) d
    simp only [weightsN, List.sum_cons, List.length_cons]
    omega
theorem isDig_reverse {l : List UInt8} (h : isDig l = true) : isDig l.reverse = true := by
  unfold isDig at *
  rw [List.all_eq_true] at *
  exact fun x hx => h x (List.mem_reverse.1 hx)
end Go.Proofs.YtbbjoahloghpkaaDoor
