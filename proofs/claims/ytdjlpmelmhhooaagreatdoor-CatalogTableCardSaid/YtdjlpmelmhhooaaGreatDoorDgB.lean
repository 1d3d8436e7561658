/- digits.Text, Days; the chapter's example; bytes out of a text; the law DigitsCards. -/
import Derived.Test.YtdjlpmelmhhooaaGreatDoorDgA
import Derived.Test.YtdjlpmelmhhooaaGreatDoorShfX
import Derived.Test.YtdjlpmelmhhooaaGreatDoorLibA
namespace Go.Proofs.YtdjlpmelmhhooaaGreatDoor
section
open Go Go.RowKit
set_option linter.unusedSimpArgs false

def padD (d : List UInt8) (width : Int) : List UInt8 := List.replicate ((min (max width 0) 40).toNat - d.length) 48 ++ d
theorem repeat_zero (k : Nat) : Lib.repeatL [48] k = List.replicate k 48 := by
  induction k with
  | zero => rfl
  | succ k ih => rw [Lib.repeatL, ih, List.replicate_succ]; rfl

set_option maxRecDepth 100000 in
set_option maxHeartbeats 4000000 in
theorem text_of (n : Nat) (width : Int) (d : ByteArray) (hd : d.size ≤ 100) (w : World)
    (hF : Calls Tryz.prog 148 #[.int .u64 (n : Nat), .int .i64 10] w fun e w' => e = .returned (.string d) ∧ Below w.heap.size w w') :
    Calls Tryz.prog 125 #[.int .u64 (n : Nat), .int .i64 width] w fun e w' => e = .returned (.string ⟨(padD d.data.toList width).toArray⟩) ∧ Below w.heap.size w w' := by
  replace hF := hid hF
  have hmx := fun ts t w => run_mx2 (P := Tryz.prog) ts t .i64 width 0 w
  have hmn := fun ts t w => run_mn2 (P := Tryz.prog) ts t .i64 (max width 0) 40 w
  obtain ⟨m, hm⟩ : ∃ m : Nat, min (max width 0) 40 = (m : Int) := ⟨(min (max width 0) 40).toNat, by omega⟩
  have hm40 : m ≤ 40 := by omega
  have hmx2 := fun ts t w => run_mx2 (P := Tryz.prog) ts t .i64 ((m : Int) - (d.size : Int)) 0 w
  obtain ⟨k, hk⟩ : ∃ k : Nat, k = m - d.size := ⟨_, rfl⟩
  have hkk : max ((m : Int) - (d.size : Int)) 0 = (k : Int) := by omega
  have hpad : padD d.data.toList width = List.replicate k 48 ++ d.data.toList := by
    rw [padD, hm, hk]; simp
  have cR := fun w => repeat_any ⟨#[48]⟩ k w (by omega) (by show 1 * k ≤ _; omega)
  rw [hm] at hmn
  rw [hkk] at hmx2
  rw [show (⟨#[48]⟩ : ByteArray).data.toList = [48] from rfl, repeat_zero] at cR
  have hz : (⟨(List.replicate k (48 : UInt8)).toArray⟩ : ByteArray).size = k := by show (List.replicate k (48 : UInt8)).toArray.size = k; simp
  obtain ⟨z, hzz⟩ : ∃ z : ByteArray, z = ⟨(List.replicate k (48 : UInt8)).toArray⟩ := ⟨_, rfl⟩
  rw [← hzz] at cR hz
  have hpad2 : (⟨(padD d.data.toList width).toArray⟩ : ByteArray) = z ++ d := by
    rw [hpad, hzz]; apply ByteArray.ext; simp
  replace cR := hid cR
  replace hpad2 := hid hpad2
  have hcat : ¬ 9223372036854775807 < k + d.size := by omega
  clear hm hkk hpad hzz hk
  go_enter Tryz.func125, Tryz.ntmps125
  go_wp2_with (first
    | (go_at_call 148; refine hF.out.mono ?_; rintro e w1 ⟨rfl, hB1⟩)
    | (go_at_call 86; refine (cR.out _).mono ?_; rintro e w2 ⟨rfl, hB2⟩))
  go_ret
  exact ⟨by rw [hpad2.out]; rfl, below_cat hB2 hB1⟩

def leapN (y : Int) : Bool := decide (y % 4 = 0) && (decide (y % 100 ≠ 0) || decide (y % 400 = 0))
def daysN (y m : Int) : Nat :=
  if y < 0 ∨ 9999 < y then 0 else if m = 1 ∨ m = 3 ∨ m = 5 ∨ m = 7 ∨ m = 8 ∨ m = 10 ∨ m = 12 then 31 else if m = 4 ∨ m = 6 ∨ m = 9 ∨ m = 11 then 30 else if m = 2 then (if leapN y then 29 else 28) else 0

set_option maxRecDepth 100000 in
set_option maxHeartbeats 4000000 in
theorem leap_any (y : Int) (h0 : 0 ≤ y) (h1 : y ≤ 9999) (w : World) : Calls Tryz.prog 133 #[.int .i64 y] w fun e w' => e = .returned (.bool (leapN y)) ∧ w = w' := by
  go_enter Tryz.func133, Tryz.ntmps133
  obtain ⟨n, rfl⟩ : ∃ n : Nat, y = (n : Int) := ⟨y.toNat, by omega⟩
  by_cases a : (n : Int) % 4 = 0
  · have a' : ((n : Int) % 4 == 0) = true := by rw [beq_iff_eq]; exact a
    by_cases b : (n : Int) % 100 = 0
    · have b' : ((n : Int) % 100 != 0) = false := by rw [b]; rfl
      have hl : leapN (n : Int) = ((n : Int) % 400 == 0) := by simp [leapN, a, b]; rfl
      replace hl := hid hl
      go_wp2
      go_ret
      exact ⟨ret_bool hl.out.symm, rfl⟩
    · have b' : ((n : Int) % 100 != 0) = true := by rw [bne_iff_ne]; exact b
      have hl : leapN (n : Int) = true := by simp [leapN, a, b]
      replace hl := hid hl
      go_wp2
      go_ret
      exact ⟨ret_bool hl.out.symm, rfl⟩
  · have a' : ((n : Int) % 4 == 0) = false := by rw [beq_eq_false_iff_ne]; exact a
    have hl : leapN (n : Int) = false := by simp [leapN, a]
    replace hl := hid hl
    go_wp2
    go_ret
    exact ⟨ret_bool hl.out.symm, rfl⟩

set_option maxRecDepth 100000 in
set_option maxHeartbeats 8000000 in
theorem days_any (y m : Int) (w : World) : Calls Tryz.prog 103 #[.int .i64 y, .int .i64 m] w fun e w' => e = .returned (.int .i64 (daysN y m : Nat)) ∧ w = w' := by
  go_enter Tryz.func103, Tryz.ntmps103
  by_cases h0' : y < 0
  · have hD := hid (show daysN y m = 0 by simp [daysN, h0'])
    have h0 : decide (y < 0) = true := decide_eq_true h0'
    go_wp2
    go_ret
    exact ⟨by rw [hD.out]; rfl, rfl⟩
  have h0 : decide (y < 0) = false := decide_eq_false h0'
  by_cases h1' : 9999 < y
  · have hD := hid (show daysN y m = 0 by simp [daysN, h1'])
    have h1 : decide (9999 < y) = true := decide_eq_true h1'
    go_wp2
    go_ret
    exact ⟨by rw [hD.out]; rfl, rfl⟩
  have h1 : decide (9999 < y) = false := decide_eq_false h1'
  have cL := fun w => leap_any y (by omega) (by omega) w
  have hD0 : daysN y m = if m = 1 ∨ m = 3 ∨ m = 5 ∨ m = 7 ∨ m = 8 ∨ m = 10 ∨ m = 12 then 31 else if m = 4 ∨ m = 6 ∨ m = 9 ∨ m = 11 then 30 else if m = 2 then (if leapN y then 29 else 28) else 0 := by simp [daysN, h0', h1']
  obtain ⟨g, hg⟩ : ∃ g, g = leapN y := ⟨_, rfl⟩
  rw [← hg] at hD0
  simp only [← hg] at cL
  obtain ⟨D, hDD⟩ : ∃ D, D = daysN y m := ⟨_, rfl⟩
  rw [← hDD] at hD0 ⊢
  clear hg hDD
  replace cL := hid cL
  by_cases hm : m = 1 ∨ m = 2 ∨ m = 3 ∨ m = 4 ∨ m = 5 ∨ m = 6 ∨ m = 7 ∨ m = 8 ∨ m = 9 ∨ m = 10 ∨ m = 11 ∨ m = 12
  · rcases hm with rfl | rfl | rfl | rfl | rfl | rfl | rfl | rfl | rfl | rfl | rfl | rfl
    case inr.inl =>
      cases g
      · obtain rfl : D = 28 := by simpa using hD0
        clear hD0
        go_wp2_with (go_at_call 133; refine (cL.out _).mono ?_; rintro e w1 ⟨rfl, rfl⟩)
        go_ret
        exact ⟨rfl, rfl⟩
      · obtain rfl : D = 29 := by simpa using hD0
        clear hD0
        go_wp2_with (go_at_call 133; refine (cL.out _).mono ?_; rintro e w1 ⟨rfl, rfl⟩)
        go_ret
        exact ⟨rfl, rfl⟩
    all_goals
      simp at hD0
      subst hD0
      go_wp2
      go_ret
      exact ⟨rfl, rfl⟩
  · have e1 : (m == 1) = false := by rw [beq_eq_false_iff_ne]; omega
    have e2 : (m == 2) = false := by rw [beq_eq_false_iff_ne]; omega
    have e3 : (m == 3) = false := by rw [beq_eq_false_iff_ne]; omega
    have e4 : (m == 4) = false := by rw [beq_eq_false_iff_ne]; omega
    have e5 : (m == 5) = false := by rw [beq_eq_false_iff_ne]; omega
    have e6 : (m == 6) = false := by rw [beq_eq_false_iff_ne]; omega
    have e7 : (m == 7) = false := by rw [beq_eq_false_iff_ne]; omega
    have e8 : (m == 8) = false := by rw [beq_eq_false_iff_ne]; omega
    have e9 : (m == 9) = false := by rw [beq_eq_false_iff_ne]; omega
    have e10 : (m == 10) = false := by rw [beq_eq_false_iff_ne]; omega
    have e11 : (m == 11) = false := by rw [beq_eq_false_iff_ne]; omega
    have e12 : (m == 12) = false := by rw [beq_eq_false_iff_ne]; omega
    obtain rfl : D = 0 := by
      rw [hD0, if_neg (by omega), if_neg (by omega), if_neg (by omega)]
    clear hD0 hm
    go_wp2
    go_ret
    exact ⟨rfl, rfl⟩

set_option maxRecDepth 100000 in
set_option maxHeartbeats 4000000 in
theorem small_seven (w : World) : Calls Tryz.prog 171 #[.int .i64 7] w fun e w' => e = .returned (.string ⟨#[55]⟩) ∧ w = w' := by
  go_enter Tryz.func171, Tryz.ntmps171
  go_wp2
  go_ret
  exact ⟨by rfl, rfl⟩
set_option maxRecDepth 100000 in
set_option maxHeartbeats 4000000 in
theorem format_seven_in (w : World) : Calls Tryz.prog 160 #[.int .u64 (7 : Nat), .int .i64 10] w fun e w' => e = .returned (.string ⟨#[55]⟩) ∧ w = w' := by
  have c := hid small_seven
  go_enter Tryz.func160, Tryz.ntmps160
  go_wp2_with (go_at_call 171; refine (c.out _).mono ?_; rintro e w1 ⟨rfl, rfl⟩)
  go_ret
  exact ⟨rfl, rfl⟩
theorem format_seven (w : World) : Calls Tryz.prog 148 #[.int .u64 (7 : Nat), .int .i64 10] w fun e w' => e = .returned (.string ⟨#[55]⟩) ∧ Below w.heap.size w w' := by
  have c := hid format_seven_in
  go_enter Tryz.func148, Tryz.ntmps148
  go_wp2_with (go_at_call 160; refine (c.out _).mono ?_; rintro e w1 ⟨rfl, rfl⟩)
  go_ret
  exact ⟨rfl, Below.refl _ _⟩

def cardS : ByteArray := ⟨#[52, 49, 49, 49, 49, 49, 49, 49, 49, 49, 49, 49, 49, 49, 49, 49]⟩
theorem cardS_ok : cardN cardS.data.toList = 0 := by decide +kernel
theorem days_ex : daysN 2024 2 = 29 := by decide +kernel
theorem text_ex : (⟨(padD (⟨#[55]⟩ : ByteArray).data.toList 3).toArray⟩ : ByteArray) = ⟨#[48, 48, 55]⟩ := by rfl

set_option maxRecDepth 100000 in
set_option maxHeartbeats 4000000 in
theorem digAwake_any (w : World) : Calls Tryz.prog 97 #[] w fun e w' => e = .returned (.bool true) ∧ Below w.heap.size w w' := by
  have c1 := fun w => card_any cardS (by decide) w
  have c2 := fun w => text_of 7 3 ⟨#[55]⟩ (by decide) w (format_seven w)
  have c3 := fun w => days_any 2024 2 w
  rw [cardS_ok] at c1
  rw [days_ex] at c3
  rw [text_ex] at c2
  replace c1 := hid c1
  replace c2 := hid c2
  replace c3 := hid c3
  go_enter Tryz.func97, Tryz.ntmps97
  go_wp2_with (first
    | (go_at_call 63; refine (c1.out _).mono ?_; rintro e w1 ⟨rfl, hB1⟩)
    | (go_at_call 125; refine (c2.out _).mono ?_; rintro e w2 ⟨rfl, hB2⟩)
    | (go_at_call 103; refine (c3.out _).mono ?_; rintro e w3 ⟨rfl, rfl⟩))
  go_ret
  exact ⟨rfl, below_cat hB2 hB1⟩
end
section
open Go Go.RowKit
set_option linter.unusedSimpArgs false

theorem BytesE.set {w : World} {e : TypeId} {base g n c : Nat} {l : List UInt8} (h : BytesE w e base (.slice (some ⟨g, 0, none⟩) n c) l) (i : Nat) (hi : i < l.length) (b : UInt8) :
    BytesE (w.setCell ⟨g, i, none⟩ (.int .u8 (b.toNat : Nat))) e base (.slice (some ⟨g, 0, none⟩) n c) (l.set i b) := by
  obtain ⟨g', cap, A, h1, h2, h3, h4, h5, h6, h7⟩ := h.is
  simp only [Value.slice.injEq, Option.some.injEq, Addr.mk.injEq, and_true] at h1
  obtain ⟨rfl, rfl, rfl⟩ := h1
  refine ⟨⟨g, c, A.setIfInBounds i (.int .u8 (b.toNat : Nat)), by simp, h2, h3.set _ _, by simpa using h4, h5, by simpa using h6, ?_⟩⟩
  rw [List.length_set, Array.toList_setIfInBounds, List.take_set, h7]
  simp [Lib.byteCells]
theorem BytesE.cell {w : World} {e : TypeId} {base g n c : Nat} {l : List UInt8} (h : BytesE w e base (.slice (some ⟨g, 0, none⟩) n c) l) (i : Nat) (hi : i < l.length) :
    w.cell? ⟨g, i, none⟩ = some (.int .u8 (l[i].toNat : Nat)) ∧ w.frozen? ⟨g, i, none⟩ = false := by
  obtain ⟨g', cap, A, h1, h2, h3, h4, h5, h6, h7⟩ := h.is
  simp only [Value.slice.injEq, Option.some.injEq, Addr.mk.injEq, and_true] at h1
  obtain ⟨rfl, rfl, rfl⟩ := h1
  refine ⟨h3.cell ?_, h3.free (by omega)⟩
  have h8 : (A.toList.take l.length)[i]? = some (.int .u8 (l[i].toNat : Nat)) := by rw [h7]; simp [Lib.byteCells, hi]
  rw [List.getElem?_take, if_pos hi] at h8
  simpa using h8
/-- '[]byte(t)', in whatever world: where it lies, and the world behind it. -/
theorem bytesF {P : Program} (src dst e : TypeId) (s : ByteArray) {u : TypeDesc} (hs : P.underlying src = some u) (hd : P.underlying dst = some (.slice e)) (he : P.underlying e = some (.int .u8)) (hm : s.size ≤ maxLen) :
    ∃ (g c : World → Nat) (F : World → World), ∀ W, (convert src dst (.string s)).run P W = .ok (.slice (some ⟨g W, 0, none⟩) s.size (c W)) (F W) ∧ BytesE (F W) e W.heap.size (.slice (some ⟨g W, 0, none⟩) s.size (c W)) s.data.toList ∧ Below W.heap.size W (F W) ∧ W.heap.size ≤ g W := by
  have h : ∀ W : World, ∃ q : Nat × Nat × World, (convert src dst (.string s)).run P W = .ok (.slice (some ⟨q.1, 0, none⟩) s.size q.2.1) q.2.2 ∧ BytesE q.2.2 e W.heap.size (.slice (some ⟨q.1, 0, none⟩) s.size q.2.1) s.data.toList ∧ Below W.heap.size W q.2.2 ∧ W.heap.size ≤ q.1 := by
    intro W
    obtain ⟨v, W', h1, h2, h3⟩ := bytesE_of (P := P) W src dst e s hs hd he hm
    obtain ⟨g, c, rfl, hg⟩ := h2.shape
    have hl : s.data.toList.length = s.size := by simp
    rw [hl] at h1 h2
    exact ⟨(g, c, W'), h1, h2, h3, hg⟩
  exact ⟨fun W => (Classical.choose (h W)).1, fun W => (Classical.choose (h W)).2.1, fun W => (Classical.choose (h W)).2.2, fun W => Classical.choose_spec (h W)⟩

end
end Go.Proofs.YtdjlpmelmhhooaaGreatDoor
