/- Tries, plainly. -/
import Derived.Test.YtbbjoahloghpkaaDoorOtp6
namespace Go.Proofs.YtbbjoahloghpkaaDoor
open Go Go.RowKit
set_option linter.unusedSimpArgs false
set_option linter.unusedVariables false

def lastO (s : OSt) (pre : List (ByteArray × OSt)) : OSt := ((pre.getLast?).map (·.2)).getD s
theorem lastO_nil (s : OSt) : lastO s [] = s := rfl
theorem lastO_snoc (s : OSt) (pre : List (ByteArray × OSt)) (x : ByteArray × OSt) : lastO s (pre ++ [x]) = x.2 := by simp [lastO]
theorem lastO_cons (s : OSt) (p : ByteArray × OSt) (pre : List (ByteArray × OSt)) : lastO s (p :: pre) = lastO p.2 pre := by
  unfold lastO
  rw [List.getLast?_cons]
  cases pre.getLast? <;> rfl
theorem runO_len (code : ByteArray) : ∀ (ss : List ByteArray) (s : OSt), (runO code s ss).length = ss.length
  | [], _ => rfl
  | _ :: l, _ => by simp [runO, runO_len code l]
theorem runO_split (code : ByteArray) : ∀ (ss : List ByteArray) (s : OSt) (pre : List (ByteArray × OSt)) (x : ByteArray × OSt) (post : List (ByteArray × OSt)), runO code s ss = pre ++ x :: post →
    ss[pre.length]? = some x.1 ∧ x.2 = ((lastO s pre).enter (decide (code = x.1)) 0).1
  | [], _, pre, x, post, h => by simp [runO] at h
  | y :: l, s, [], x, post, h => by
    simp only [runO, List.nil_append, List.cons.injEq] at h
    rw [← h.1]
    exact ⟨rfl, rfl⟩
  | y :: l, s, p :: pre, x, post, h => by
    simp only [runO, List.cons_append, List.cons.injEq] at h
    obtain ⟨rfl, h⟩ := h
    have := runO_split code l _ pre x post h
    rw [lastO_cons]
    simpa using this

/-- What is known behind some tries. -/
structure TI (n : Nat) (u : OSt) (wrong : Nat) (right : Bool) : Prop where
  tries : u.tries = (n : Int) - (wrong : Int)
  le : wrong ≤ n
  two : u.over = 2 ↔ wrong = n
  one : u.over = 1 ↔ right = true
  dl : u.dl = 5
theorem TI.start (n : Nat) (h : 1 ≤ n) : TI n ⟨n, 5, 0⟩ 0 false := ⟨by simp, Nat.zero_le _, ⟨fun h2 => by simp at h2, fun h2 => by omega⟩, by simp, rfl⟩
theorem TI.over {n : Nat} {u : OSt} {wrong : Nat} {right : Bool} (h : TI n u wrong right) (ho : u.over ≠ 0) (b : Bool) : (u.enter b 0).1 = u := by
  have hl : u.late 0 = false := by simp [OSt.late, ho]
  unfold OSt.enter
  rw [hl]
  simp [ho]
theorem TI.same {n : Nat} {u : OSt} {wrong : Nat} {right : Bool} (h : TI n u wrong right) (ho : u.over = 0) : (u.enter true 0).1 = ⟨u.tries, 5, 1⟩ ∧ TI n ⟨u.tries, 5, 1⟩ wrong true := by
  have hl : u.late 0 = false := by simp [OSt.late, h.dl]
  refine ⟨?_, ⟨h.tries, h.le, ?_, by simp, rfl⟩⟩
  · unfold OSt.enter
    rw [hl]
    simp [ho, h.dl]
  · have := h.two
    rw [ho] at this
    constructor
    · intro h2; cases h2
    · intro h2; have := this.2 h2; cases this
theorem TI.wrong {n : Nat} {u : OSt} {wrong : Nat} {right : Bool} (h : TI n u wrong right) (ho : u.over = 0) :
    ∃ o : Int, (u.enter false 0).1 = ⟨(n : Int) - ((wrong + 1 : Nat) : Int), 5, o⟩ ∧ TI n ⟨(n : Int) - ((wrong + 1 : Nat) : Int), 5, o⟩ (wrong + 1) right := by
  have hl : u.late 0 = false := by simp [OSt.late, h.dl]
  have h2 := h.two
  have h1 := h.one
  rw [ho] at h2 h1
  have hne : wrong ≠ n := fun e => by have := h2.2 e; cases this
  have hle := h.le
  have hr : right = false := by
    cases right
    · rfl
    · have := h1.2 rfl; cases this
  subst hr
  by_cases hp : 0 < u.tries - 1
  · refine ⟨0, ?_, ⟨rfl, by omega, ?_, by simp, rfl⟩⟩
    · unfold OSt.enter
      rw [hl]
      simp [ho, hp, h.dl, h.tries]
      rw [h.tries] at hp
      rw [if_pos (by omega)]
      simp; omega
    · rw [h.tries] at hp
      constructor
      · intro h3; cases h3
      · intro h3; omega
  · refine ⟨2, ?_, ⟨rfl, by omega, ?_, by simp, rfl⟩⟩
    · unfold OSt.enter
      rw [hl]
      simp [ho, h.dl, h.tries]
      rw [h.tries] at hp
      rw [if_neg (by omega)]
      simp; omega
    · rw [h.tries] at hp
      constructor
      · intro _; omega
      · intro _; rfl
end Go.Proofs.YtbbjoahloghpkaaDoor
