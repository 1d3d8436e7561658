/- digits.Text, Days; the chapter's example; bytes out of a text; the law DigitsCards. -/
import Derived.Test.YtbbjoahloghpkaaDoorDgA
import Derived.Test.YtbbjoahloghpkaaDoorShfX
import Derived.Test.YtbbjoahloghpkaaDoorLibA
namespace Go.Proofs.YtbbjoahloghpkaaDoor
section
open Go Go.RowKit
set_option linter.unusedSimpArgs false

def padD (d : List UInt8) (width : Int) : List UInt8 := List.replicate ((min (max width 0) 40).toNat - d.length) 48 ++ d
theorem repeat_zero (k : Nat) : Lib.repeatL [48] k = List.replicate k 48 := by
  induction k with
  | zero => rfl
  | succ k ih => rw [Lib.repeatL, ih, List.replicate_succ]; rfl

set_option maxRecDepth 100000 in
set_option maxHeartbeats 4000000 in
theorem text_of (n : Nat) (width : Int) (d : ByteArray) (hd : d.size ≤ 100) (w : World)
    (hF : Calls Tryd.prog 68 #[.int .u64 (n : Nat), .int .i64 10] w fun e w' => e = .returned (.string d) ∧ Below w.heap.size w w') :
    Calls Tryd.prog 42 #[.int .u64 (n : Nat), .int .i64 width] w fun e w' => e = .returned (.string ⟨(padD d.data.toList width).toArray⟩) ∧ Below w.heap.size w w' := by
  replace hF := hid hF
  have hmx := fun ts t w => run_mx2 (P := Tryd.prog) ts t .i64 width 0 w
  have hmn := fun ts t w => run_mn2 (P := Tryd.prog) ts t .i64 (max width 0) 40 w
  obtain ⟨m, hm⟩ : ∃ m : Nat, min (max width 0) 40 = (m : Int) := ⟨(min (max width 0) 40).toNat, by omega⟩
  have hm40 : m ≤ 40 := by omega
  have hmx2 := fun ts t w => run_mx2 (P := Tryd.prog) ts t .i64 ((m : Int) - (d.size : Int)) 0 w
  obtain ⟨k, hk⟩ : ∃ k : Nat, k = m - d.size := ⟨_, rfl⟩
  have hkk : max ((m : Int) - (d.size : Int)) 0 = (k : Int) := by omega
  have hpad : padD d.data.toList width = List.replicate k 48 ++ d.data.toList := by
    rw [padD, hm, hk]; simp
  have cR := fun w => repeat_any ⟨#[48]⟩ k w (by omega) (by show 1 * k ≤ _; omega)
  rw [hm] at hmn
  rw [hkk] at hmx2
  rw [show (⟨#[48]⟩ : ByteArray).data.toList = [48] from rfl, repeat_zero] at cR
  have hz : (⟨(List.replicate k (48 : UInt8)).toArray⟩ : ByteArray).size = k := by show (List.replicate k (48 : UInt8)).toArray.size = k; simp
  obtain ⟨z, hzz⟩ : ∃ z : ByteArray, z = ⟨(List.replicate k (48 : UInt8)).toArray⟩ := ⟨_, rfl⟩
  rw [← hzz] at cR hz
  have hpad2 : (⟨(padD d.data.toList width).toArray⟩ : ByteArray) = z ++ d := by
    rw [hpad, hzz]; apply ByteArray.ext; simp
  replace cR := hid cR
  replace hpad2 := hid hpad2
  have hcat : ¬ 9223372036854775807 < k + d.size := by omega
  clear hm hkk hpad hzz hk
  go_enter Tryd.func42, Tryd.ntmps42
  go_wp2_with (first
    | (go_at_call 68; refine hF.out.mono ?_; rintro e w1 ⟨rfl, hB1⟩)
    | (go_at_call 23; refine (cR.out _).mono ?_; rintro e w2 ⟨rfl, hB2⟩))
  go_ret
  exact ⟨by rw [hpad2.out]; rfl, below_cat hB2 hB1⟩

def leapN (y : Int) : Bool := decide (y % 4 = 0) && (decide (y % 100 ≠ 0) || decide (y % 400 = 0))
def daysN (y m : Int) : Nat :=
  if y < 0 ∨ 9999 < y then 0 else if m = 1 ∨ m = 3 ∨ m = 5 ∨ m = 7 ∨ m = 8 ∨ m = 10 ∨ m = 12 then 31 else if m = 4 ∨ m = 6 ∨ m = 9 ∨ m = 11 then 30 else if m = 2 then (if leapN y then 29 else 28) else 0

set_option maxRecDepth 100000 in
set_option maxHeartbeats 4000000 in
theorem leap_any (y : Int) (h0 : 0 ≤ y) (h1 : y ≤ 9999) (w : World) : Calls Tryd.prog 47 #[.int .i64 y] w fun e w' => e = .returned (.bool (leapN y)) ∧ w = w' := by
  go_enter Tryd.func47, Tryd.ntmps47
  obtain ⟨n, rfl⟩ : ∃ n : Nat, y = (n : Int) := ⟨y.toNat, by omega⟩
  by_cases a : (n : Int) % 4 = 0
  · have a' : ((n : Int) % 4 == 0) = true := by rw [beq_iff_eq]; exact a
    by_cases b : (n : Int) % 100 = 0
    · have b' : ((n : Int) % 100 != 0) = false := by rw [b]; rfl
      have hl : leapN (n : Int) = ((n : Int) % 400 == 0) := by simp [leapN, a, b]; rfl
      replace hl := hid hl
      go_wp2
      go_ret
      exact ⟨ret_bool hl.out.symm, rfl⟩
    · have b' : ((n : Int) % 100 != 0) = true := by rw [bne_iff_ne]; exact b
      have hl : leapN (n : Int) = true := by simp [leapN, a, b]
      replace hl := hid hl
      go_wp2
      go_ret
      exact ⟨ret_bool hl.out.symm, rfl⟩
  · have a' : ((n : Int) % 4 == 0) = false := by rw [beq_eq_false_iff_ne]; exact a
    have hl : leapN (n : Int) = false := by simp [leapN, a]
    replace hl := hid hl
    go_wp2
    go_ret
    exact ⟨ret_bool hl.out.symm, rfl⟩

set_option maxRecDepth 100000 in
set_option maxHeartbeats 8000000 in
theorem days_any (y m : Int) (w : World) : Calls Tryd.prog 20 #[.int .i64 y, .int .i64 m] w fun e w' => e = .returned (.int .i64 (daysN y m : Nat)) ∧ w = w' := by
  go_enter Tryd.func20, Tryd.ntmps20
  by_cases h0' : y < 0
  · have hD := hid (show daysN y m = 0 by simp [daysN, h0'])
    have h0 : decide (y < 0) = true := decide_eq_true h0'
    go_wp2
    go_ret
    exact ⟨by rw [hD.out]; rfl, rfl⟩
  have h0 : decide (y < 0) = false := decide_eq_false h0'
  by_cases h1' : 9999 < y
  · have hD := hid (show daysN y m = 0 by simp [daysN, h1'])
    have h1 : decide (9999 < y) = true := decide_eq_true h1'
    go_wp2
    go_ret
    exact ⟨by rw [hD.out]; rfl, rfl⟩
  have h1 : decide (9999 < y) = false := decide_eq_false h1'
  have cL := fun w => leap_any y (by omega) (by omega) w
  have hD0 : daysN y m = if m = 1 ∨ m = 3 ∨ m = 5 ∨ m = 7 ∨ m = 8 ∨ m = 10 ∨ m = 12 then 31 else if m = 4 ∨ m = 6 ∨ m = 9 ∨ m = 11 then 30 else if m = 2 then (if leapN y then 29 else 28) else 0 := by simp [daysN, h0', h1']
  obtain ⟨g, hg⟩ : ∃ g, g = leapN y := ⟨_, rfl⟩
  rw [← hg] at hD0
  simp only [← hg] at cL
  obtain ⟨D, hDD⟩ : ∃ D, D = daysN y m := ⟨_, rfl⟩
  rw [← hDD] at hD0 ⊢
  clear hg hDD
  replace cL := hid cL
  by_cases hm : m = 1 ∨ m = 2 ∨ m = 3 ∨ m = 4 ∨ m = 5 ∨ m = 6 ∨ m = 7 ∨ m = 8 ∨ m = 9 ∨ m = 10 ∨ m = 11 ∨ m = 12
  · rcases hm with rfl | rfl | rfl | rfl | rfl | rfl | rfl | rfl | rfl | rfl | rfl | rfl
    case inr.inl =>
      cases g
      · obtain rfl : D = 28 := by simpa using hD0
        clear hD0
        go_wp2_with (go_at_call 47; refine (cL.out _).mono ?_; rintro e w1 ⟨rfl, rfl⟩)
        go_ret
        exact ⟨rfl, rfl⟩
      · obtain rfl : D = 29 := by simpa using hD0
        clear hD0
        go_wp2_with (go_at_call 47; refine (cL.out _).mono ?_; rintro e w1 ⟨rfl, rfl⟩)
        go_ret
        exact ⟨rfl, rfl⟩
    all_goals
      simp at hD0
      subst hD0
      go_wp2
      go_ret
      exact ⟨rfl, rfl⟩
  · have e1 : (m == 1) = false := by rw [beq_eq_false_iff_ne]; omega
    have e2 : (m == 2) = false := by rw [beq_eq_false_iff_ne]; omega
    have e3 : (m == 3) = false := by rw [beq_eq_false_iff_ne]; omega
    have e4 : (m == 4) = false := by rw [beq_eq_false_iff_ne]; omega
    have e5 : (m == 5) = false := by rw [beq_eq_false_iff_ne]; omega
    have e6 : (m == 6) = false := by rw [beq_eq_false_iff_ne]; omega
    have e7 : (m == 7) = false := by rw [beq_eq_false_iff_ne]; omega
    have e8 : (m == 8) = false := by rw [beq_eq_false_iff_ne]; omega
    have e9 : (m == 9) = false := by rw [beq_eq_false_iff_ne]; omega
    have e10 : (m == 10) = false := by rw [beq_eq_false_iff_ne]; omega
    have e11 : (m == 11) = false := by rw [beq_eq_false_iff_ne]; omega
    have e12 : (m == 12) = false := by rw [beq_eq_false_iff_ne]; omega
    obtain rfl : D = 0 := by
      rw [hD0, if_neg (by omega), if_neg (by omega), if_neg (by omega)]
    clear hD0 hm
    go_wp2
    go_ret
    exact ⟨rfl, rfl⟩

set_option maxRecDepth 100000 in
set_option maxHeartbeats 4000000 in
theorem small_seven (w : World) : Calls Tryd.prog 92 #[.int .i64 7] w fun e w' => e = .returned (.string ⟨#[55]⟩) ∧ w = w' := by
  go_enter Tryd.func92, Tryd.ntmps92
  go_wp2
  go_ret
  exact ⟨by rfl, rfl⟩
set_option maxRecDepth 100000 in
set_option maxHeartbeats 4000000 in
theorem format_seven_in (w : World) : Calls Tryd.prog 83 #[.int .u64 (7 : Nat), .int .i64 10] w fun e w' => e = .returned (.string ⟨#[55]⟩) ∧ w = w' := by
  have c := hid small_seven
  go_enter Tryd.func83, Tryd.ntmps83
  go_wp2_with (go_at_call 92; refine (c.out _).mono ?_; rintro e w1 ⟨rfl, rfl⟩)
  go_ret
  exact ⟨rfl, rfl⟩
theorem format_seven (w : World) : Calls Tryd.prog 68 #[.int .u64 (7 : Nat), .int .i64 10] w fun e w' => e = .returned (.string ⟨#[55]⟩) ∧ Below w.heap.size w w' := by
  have c := hid format_seven_in
  go_enter Tryd.func68, Tryd.ntmps68
  go_wp2_with (go_at_call 83; refine (c.out _).mono ?_; rintro e w1 ⟨rfl, rfl⟩)
  go_ret
  exact ⟨rfl, Below.refl _ _⟩

def cardS : ByteArray := ⟨#[52, 49, 49, 49, 49, 49, 49, 49, 49, 49, 49, 49, 49, 49, 49, 49]⟩
theorem cardS_ok : cardN cardS.data.toList = 0 := by decide +kernel
theorem days_ex : daysN 2024 2 = 29 := by decide +kernel
theorem text_ex : (⟨(padD (⟨#[55]⟩ : ByteArray).data.toList 3).toArray⟩ : ByteArray) = ⟨#[48, 48, 55]⟩ := by rfl

set_option maxRecDepth 100000 in
set_option maxHeartbeats 4000000 in
theorem digAwake_any (w : World) : Calls Tryd.prog 11 #[] w fun e w' => e = .returned (.bool true) ∧ Below w.heap.size w w' := by
  have c1 := fun w => card_any cardS (by decide) w
  have c2 := fun w => text_of 7 3 ⟨#[55]⟩ (by decide) w (format_seven w)
  have c3 := fun w => days_any 2024 2 w
  rw [cardS_ok] at c1
  rw [days_ex] at c3
  rw [text_ex] at c2
  replace c1 := hid c1
  replace c2 := hid c2
  replace c3 := hid c3
  go_enter Tryd.func11, Tryd.ntmps11
  go_wp2_with (first
    | (go_at_call 15; refine (c1.out _).mono ?_; rintro e w1 ⟨rfl, hB1⟩)
    | (go_at_call 42; refine (c2.out _).mono ?_; rintro e w2 ⟨rfl, hB2⟩)
    | (go_at_call 20; refine (c3.out _).mono ?_; rintro e w3 ⟨rfl, rfl⟩))
  go_ret
  exact ⟨rfl, below_cat hB2 hB1⟩
end
section
open Go Go.RowKit
set_option linter.unusedSimpArgs false

theorem BytesE.set {w : World} {e : TypeId} {base g n c : Nat} {l : List UInt8} (h : BytesE w e base (.slice (some ⟨g, 0, none⟩) n c) l) (i : Nat) (hi : i < l.length) (b : UInt8) :
    BytesE (w.setCell ⟨g, i, none⟩ (.int .u8 (b.toNat : Nat))) e base (.slice (some ⟨g, 0, none⟩) n c) (l.set i b) := by
  obtain ⟨g', cap, A, h1, h2, h3, h4, h5, h6, h7⟩ := h.is
  simp only [Value.slice.injEq, Option.some.injEq, Addr.mk.injEq, and_true] at h1
  obtain ⟨rfl, rfl, rfl⟩ := h1
  refine ⟨⟨g, c, A.setIfInBounds i (.int .u8 (b.toNat : Nat)), by simp, h2, h3.set _ _, by simpa using h4, h5, by simpa using h6, ?_⟩⟩
  rw [List.length_set, Array.toList_setIfInBounds, List.take_set, h7]
  simp [Lib.byteCells]
theorem BytesE.cell {w : World} {e : TypeId} {base g n c : Nat} {l : List UInt8} (h : BytesE w e base (.slice (some ⟨g, 0, none⟩) n c) l) (i : Nat) (hi : i < l.length) :
    w.cell? ⟨g, i, none⟩ = some (.int .u8 (l[i].toNat : Nat)) ∧ w.frozen? ⟨g, i, none⟩ = false := by
  obtain ⟨g', cap, A, h1, h2, h3, h4, h5, h6, h7⟩ := h.is
  simp only [Value.slice.injEq, Option.some.injEq, Addr.mk.injEq, and_true] at h1
  obtain ⟨rfl, rfl, rfl⟩ := h1
  refine ⟨h3.cell ?_, h3.free (by omega)⟩
  have h8 : (A.toList.take l.length)[i]? = some (.int .u8 (l[i].toNat : Nat)) := by rw [h7]; simp [Lib.byteCells, hi]
  rw [List.getElem?_take, if_pos hi] at h8
  simpa using h8
/-- '[]byte(t)', in whatever world: where it lies, and the world behind it. -/
theorem bytesF {P : Program} (src dst e : TypeId) (s : ByteArray) {u : TypeDesc} (hs : P.underlying src = some u) (hd : P.underlying dst = some (.slice e)) (he : P.underlying e = some (.int .u8)) (hm : s.size ≤ maxLen) :
    ∃ (g c : World → Nat) (F : World → World), ∀ W, (convert src dst (.string s)).run P W = .ok (.slice (some ⟨g W, 0, none⟩) s.size (c W)) (F W) ∧ BytesE (F W) e W.heap.size (.slice (some ⟨g W, 0, none⟩) s.size (c W)) s.data.toList ∧ Below W.heap.size W (F W) ∧ W.heap.size ≤ g W := by
  have h : ∀ W : World, ∃ q : Nat × Nat × World, (convert src dst (.string s)).run P W = .ok (.slice (some ⟨q.1, 0, none⟩) s.size q.2.1) q.2.2 ∧ BytesE q.2.2 e W.heap.size (.slice (some ⟨q.1, 0, none⟩) s.size q.2.1) s.data.toList ∧ Below W.heap.size W q.2.2 ∧ W.heap.size ≤ q.1 := by
    intro W
    obtain ⟨v, W', h1, h2, h3⟩ := bytesE_of (P := P) W src dst e s hs hd he hm
    obtain ⟨g, c, rfl, hg⟩ := h2.shape
    have hl : s.data.toList.length = s.size := by simp
    rw [hl] at h1 h2
    exact ⟨(g, c, W'), h1, h2, h3, hg⟩
  exact ⟨fun W => (Classical.choose (h W)).1, fun W => (Classical.choose (h W)).2.1, fun W => (Classical.choose (h W)).2.2, fun W => Classical.choose_spec (h W)⟩

set_option maxRecDepth 100000 in
set_option maxHeartbeats 4000000 in
theorem cards_big (s : ByteArray) (x y : Int) (hs : s.size ≤ 140737488351232) (hbig : ¬ s.size ≤ 100) (w : World) :
    Calls Tryd.prog 3 #[.string s, .int .u8 x, .int .u8 y] w fun e w' => e = .returned (.bool true) ∧ Below w.heap.size w w' := by
  have cA := hid digAwake_any
  have h1 : (100 : Int) < (s.size : Int) := by omega
  have h1' : decide ((100 : Int) < (s.size : Int)) = true := decide_eq_true h1
  go_enter Tryd.func3, Tryd.ntmps3
  go_wp2_with (go_at_call 11; refine (cA.out _).mono ?_; rintro e w1 ⟨rfl, hB1⟩)
  go_ret
  exact ⟨rfl, hB1⟩

set_option maxRecDepth 100000 in
set_option maxHeartbeats 8000000 in
theorem cards_bad (s : ByteArray) (x y : Int) (hs : s.size ≤ 140737488351232) (hsm : s.size ≤ 100) (hbad : isNum s.data.toList = false) (w : World) :
    Calls Tryd.prog 3 #[.string s, .int .u8 x, .int .u8 y] w fun e w' => e = .returned (.bool true) ∧ Below w.heap.size w w' := by
  have cA := hid digAwake_any
  have cC := fun w => check_any s hs w
  have cL := fun w => luhn_any s hs w
  have cRL := fun w => refLuhn_any s hs w
  have cK := fun w => card_any s hs w
  have cRK := fun w => refCard_any s hs w
  have cI := fun w => refIs_any s hs w
  simp only [hbad, Bool.false_eq_true, if_false] at cC cI
  obtain ⟨g, hg⟩ : ∃ g, g = luhnN s.data.toList := ⟨_, rfl⟩
  obtain ⟨k, hk⟩ : ∃ k, k = cardN s.data.toList := ⟨_, rfl⟩
  simp only [← hg] at cL cRL
  simp only [← hk] at cK cRK
  replace cC := hid cC
  replace cL := hid cL
  replace cRL := hid cRL
  replace cK := hid cK
  replace cRK := hid cRK
  replace cI := hid cI
  have h1 : ¬ (100 : Int) < (s.size : Int) := by omega
  have h1' : decide ((100 : Int) < (s.size : Int)) = false := decide_eq_false h1
  clear hbad hg hk
  go_enter Tryd.func3, Tryd.ntmps3
  go_wp2_with (first
    | (go_at_call 11; refine (cA.out _).mono ?_; rintro e w1 ⟨rfl, hB1⟩)
    | (go_at_call 12; refine (cC.out _).mono ?_; rintro e w2 ⟨rfl, hB2⟩)
    | (go_at_call 13; refine (cL.out _).mono ?_; rintro e w3 ⟨rfl, hB3⟩)
    | (go_at_call 14; refine (cRL.out _).mono ?_; rintro e w4 ⟨rfl, rfl⟩)
    | (go_at_call 15; refine (cK.out _).mono ?_; rintro e w5 ⟨rfl, hB5⟩)
    | (go_at_call 16; refine (cRK.out _).mono ?_; rintro e w6 ⟨rfl, rfl⟩)
    | (go_at_call 17; refine (cI.out _).mono ?_; rintro e w7 ⟨rfl, rfl⟩))
  go_ret
  exact ⟨rfl, below_cat hB5 (below_cat hB3 (below_cat hB2 hB1))⟩

set_option maxRecDepth 100000 in
set_option maxHeartbeats 8000000 in
theorem cards_good (s : ByteArray) (x y : Int) (hs : s.size ≤ 140737488351232) (hx : (Lit.int .u8 x).wf = true) (hy : (Lit.int .u8 y).wf = true) (hsm : s.size ≤ 100) (hgood : isNum s.data.toList = true) (w : World) :
    Calls Tryd.prog 3 #[.string s, .int .u8 x, .int .u8 y] w fun e w' => e = .returned (.bool true) ∧ Below w.heap.size w w' := by
  have cA := hid digAwake_any
  have cC := fun w => check_any s hs w
  have cL := fun w => luhn_any s hs w
  have cRL := fun w => refLuhn_any s hs w
  have cK := fun w => card_any s hs w
  have cRK := fun w => refCard_any s hs w
  have cI := fun w => refIs_any s hs w
  simp only [hgood, if_true] at cC cI
  obtain ⟨g, hg⟩ : ∃ g, g = luhnN s.data.toList := ⟨_, rfl⟩
  obtain ⟨k, hk⟩ : ∃ k, k = cardN s.data.toList := ⟨_, rfl⟩
  simp only [← hg] at cL cRL
  simp only [← hk] at cK cRK
  clear hg hk
  -- the text with its check digit
  have hcr := check_right s.data.toList hgood
  have hcle := checkN_le s.data.toList
  obtain ⟨d, hd⟩ : ∃ d, d = checkN s.data.toList := ⟨_, rfl⟩
  rw [← hd] at hcr hcle
  simp only [← hd] at cC
  have hlen : s.data.toList.length = s.size := by simp
  obtain ⟨one, hone⟩ : ∃ z : ByteArray, z = ⟨#[UInt8.ofNat d]⟩ := ⟨_, rfl⟩
  have hone1 : one.size = 1 := by rw [hone]; rfl
  have hcv := fun w => conv_one (P := Tryd.prog) 29 9 5 Tryd.underlying29 Tryd.underlying5 Tryd.underlying9 (d : Int) w
  simp only [Int.toNat_natCast] at hcv
  simp only [← hone] at hcv
  have hTd : (s ++ one).data.toList = s.data.toList ++ [UInt8.ofNat d] := by rw [hone]; simp
  obtain ⟨N, hN⟩ : ∃ N, N = s.size + 1 := ⟨_, rfl⟩
  have hTs : (s ++ one).size = N := by rw [ByteArray.size_append, hone1, hN]
  obtain ⟨T, hT⟩ : ∃ T, T = s ++ one := ⟨_, rfl⟩
  rw [← hT] at hTd hTs
  rw [← hTd] at hcr
  have cRT := fun w => refLuhn_any T (by omega) w
  have cLT := fun w => luhn_any T (by omega) w
  simp only [hcr] at cRT cLT
  -- the digit turned
  obtain ⟨hx0, hx1⟩ := bounds_u8 hx
  obtain ⟨hy0, hy1⟩ := bounds_u8 hy
  obtain ⟨x, rfl⟩ : ∃ xn : Nat, x = (xn : Int) := ⟨x.toNat, by omega⟩
  obtain ⟨y, rfl⟩ : ∃ yn : Nat, y = (yn : Int) := ⟨y.toNat, by omega⟩
  have hx2 : x ≤ 255 := by omega
  have hy2 : y ≤ 255 := by omega
  obtain ⟨i, hi⟩ : ∃ i : Nat, (x : Int) % (N : Int) = (i : Int) := ⟨((x : Int) % (N : Int)).toNat, by have := Int.emod_nonneg (x : Int) (b := (N : Int)) (by omega); omega⟩
  have hilt : i < T.size := by have := Int.emod_lt_of_pos (x : Int) (b := (N : Int)) (by omega); omega
  obtain ⟨q, hq⟩ : ∃ q : Nat, (y : Int) % 10 = (q : Int) := ⟨y % 10, by omega⟩
  have hq9 : q < 10 := by omega
  have hTl : T.data.toList.length = T.size := by simp
  have hil : i < T.data.toList.length := by rw [hTl]; exact hilt
  have hturn := turn_law T.data.toList hcr i hil q hq9
  have hdg := isDig_get (isNum_dig (by unfold luhnN at hcr; exact (Bool.and_eq_true_iff.1 hcr).1)) hil
  obtain ⟨gF, cF, F, hF⟩ := bytesF (P := Tryd.prog) 9 29 5 T Tryd.underlying9 Tryd.underlying29 Tryd.underlying5 (by unfold maxLen; omega)
  have hF1 := fun W => (hF W).1
  have hF2 := fun W => ((hF W).2.1.cell i hil).1
  have hF3 := fun W => ((hF W).2.1.cell i hil).2
  obtain ⟨c, hc⟩ : ∃ c, c = T.data.toList[i].toNat := ⟨_, rfl⟩
  obtain ⟨m, hm⟩ : ∃ m, m = turnC T.data.toList[i] q := ⟨_, rfl⟩
  rw [← hm] at hturn
  rw [← hc] at hdg
  simp only [← hc] at hF2
  have hmc : m = 48 + (c - 48 + q) % 10 := by rw [hm, hc]; rfl
  have hmn : (UInt8.ofNat m).toNat = m := by simp; omega
  have hF4 : ∀ W X, Below ((F W).setCell ⟨gF W, i, none⟩ (.int .u8 (m : Nat))).heap.size ((F W).setCell ⟨gF W, i, none⟩ (.int .u8 (m : Nat))) X → (convert 29 9 (.slice (some ⟨gF W, 0, none⟩) T.size (cF W))).run Tryd.prog X = .ok (.string ⟨(T.data.toList.set i (UInt8.ofNat m)).toArray⟩) X := by
    intro W X hX
    have h1 := (hF W).2.1.set i hil (UInt8.ofNat m)
    rw [hmn] at h1
    exact (h1.below hX).string _ _ Tryd.underlying29 Tryd.underlying5 Tryd.underlying9
  have hF5 := fun W => (hF W).2.2
  obtain ⟨B, hB⟩ : ∃ B : ByteArray, B = ⟨(T.data.toList.set i (UInt8.ofNat m)).toArray⟩ := ⟨_, rfl⟩
  rw [← hB] at hF4
  have hBs : B.size ≤ 140737488351232 := by
    rw [hB]; show (T.data.toList.set i (UInt8.ofNat m)).toArray.size ≤ _
    simp; omega
  have cLB := fun w => luhn_any B hBs w
  have hBd : B.data.toList = T.data.toList.set i (UInt8.ofNat m) := by rw [hB]
  rw [hBd] at cLB
  simp only [hturn] at cLB
  have hqe : ((q : Int) == 0) = decide (q = 0) := by rw [Bool.eq_iff_iff]; simp
  obtain ⟨hc1, hc2⟩ := hdg
  obtain ⟨n, hn⟩ : ∃ n, n = c - 48 := ⟨_, rfl⟩
  have hsub : (c : Int) - 48 = (n : Int) := by omega
  have hn9 : n ≤ 9 := by omega
  have hmod : (48 : Int) + ((n : Int) + (q : Int)) % 10 = (m : Int) := by omega
  have hTz : ((N : Int) == 0) = false := by rw [beq_eq_false_iff_ne]; omega
  have hTz' : ¬ ((N : Int) = 0) := by omega
  have hNl : N ≤ 101 := by omega
  have hiN : i < N := by omega
  simp only [hTs] at hF1 hF2 hF3 hF4 hF hF5
  have hcat : ¬ 9223372036854775807 < s.size + one.size := by omega
  replace cC := hid cC
  replace cL := hid cL
  replace cRL := hid cRL
  replace cK := hid cK
  replace cRK := hid cRK
  replace cI := hid cI
  replace cRT := hid cRT
  replace cLT := hid cLT
  replace cLB := hid cLB
  replace hF := hid hF
  replace hF4 := hid hF4
  replace hF5 := hid hF5
  replace hT := hid hT
  have hT' := hT.out.symm
  have h1 : ¬ (100 : Int) < (s.size : Int) := by omega
  have h1' : decide ((100 : Int) < (s.size : Int)) = false := decide_eq_false h1
  clear hcr hcle hone hTd hd hturn hc hm hmc hmn hBd hB hn hTl hil hlen hgood hx hy hx0 hx1 hy0 hy1 hilt hN
  go_enter Tryd.func3, Tryd.ntmps3
  go_wp2_with (first
    | (go_at_call 11; refine (cA.out _).mono ?_; rintro e w1 ⟨rfl, hB1⟩)
    | (go_at_call 12; refine (cC.out _).mono ?_; rintro e w2 ⟨rfl, hB2⟩)
    | (go_at_call 13; with_reducible refine (cL.out _).mono ?_; rintro e w3 ⟨rfl, hB3⟩)
    | (go_at_call 14; with_reducible refine (cRL.out _).mono ?_; rintro e w4 ⟨rfl, rfl⟩)
    | (go_at_call 15; refine (cK.out _).mono ?_; rintro e w5 ⟨rfl, hB5⟩)
    | (go_at_call 16; refine (cRK.out _).mono ?_; rintro e w6 ⟨rfl, rfl⟩)
    | (go_at_call 17; refine (cI.out _).mono ?_; rintro e w7 ⟨rfl, rfl⟩)
    | (go_at_call 14; with_reducible refine (cRT.out _).mono ?_; rintro e w8 ⟨rfl, rfl⟩)
    | (go_at_call 13; with_reducible refine (cLT.out _).mono ?_; rintro e w9 ⟨rfl, hB9⟩; have hcv9 := hF4.out _ _ hB9; replace hB9 := hid hB9)
    | (go_at_call 13; with_reducible refine (cLB.out _).mono ?_; rintro e w10 ⟨rfl, hB10⟩))
  go_ret
  have b0 : Below w.heap.size w (w5.alloc (.cells #[.int .u8 (d : Int)] 5)) := below_al (below_cat hB5 (below_cat hB3 (below_cat hB2 hB1))) _
  obtain ⟨b1, b2⟩ := hF5.out (w5.alloc (.cells #[.int .u8 (d : Int)] 5))
  have b3 := (below_cat b1 b0).setCell (p := ⟨gF (w5.alloc (.cells #[.int .u8 (d : Int)] 5)), i, none⟩) (Nat.le_trans b0.size b2) (.int .u8 (m : Nat))
  exact ⟨rfl, below_cat hB10 (below_cat hB9.out b3)⟩
theorem digitsCards_walk (a0 : ByteArray) (a1 a2 : Int) (w0 : a0.size ≤ 140737488351232) (w1 : (Lit.int .u8 a1).wf = true) (w2 : (Lit.int .u8 a2).wf = true) (w : World) :
    Calls Tryd.prog 3 #[.string a0, .int .u8 a1, .int .u8 a2] w fun e w' => e = .returned (.bool true) ∧ Below w.heap.size w w' := by
  by_cases h : a0.size ≤ 100
  · cases hg : isNum a0.data.toList
    · exact cards_bad a0 a1 a2 w0 h hg w
    · exact cards_good a0 a1 a2 w0 w1 w2 h hg w
  · exact cards_big a0 a1 a2 w0 h w
end
end Go.Proofs.YtbbjoahloghpkaaDoor
