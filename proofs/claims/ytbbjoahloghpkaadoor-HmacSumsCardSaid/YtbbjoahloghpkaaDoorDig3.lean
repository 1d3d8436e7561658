/- digits.Luhn, Check, Card. -/
import Derived.Test.YtbbjoahloghpkaaDoorDig2
namespace Go.Proofs.YtbbjoahloghpkaaDoor
open Go Go.RowKit
set_option linter.unusedSimpArgs false

theorem isNum_dig {l : List UInt8} (h : isNum l = true) : isDig l = true := by unfold isNum at h; exact (Bool.and_eq_true_iff.1 h).1
def checkN (l : List UInt8) : Nat := 48 + (10 - luhnSum true l % 10) % 10
def cardN (l : List UInt8) : Nat := if !isNum l then 4 else if l.length < 13 then 3 else if 19 < l.length then 5 else if !luhnN l then 25 else 0

theorem wsum_any (s : ByteArray) (hs : s.size ≤ 140737488351232) (hd : isDig s.data.toList = true) (d : Bool) (w : World) :
    Calls Tryd.prog 44 #[.func (.func 69) #[] #[.pointer (some ⟨w.heap.size, 0, none⟩), .pointer (some ⟨w.heap.size + 1, 0, none⟩)]] ((w.alloc (.cells #[.string s] 9)).alloc (.cells #[.bool d] 4)) fun e w' =>
      e = .returned (.int .i64 (luhnSum d s.data.toList : Nat)) ∧ Below w.heap.size w w' := by
  refine (dsum_any s hs hd d w.heap.size (w.heap.size + 1) (by omega) w.heap.size (Nat.le_refl _) (by omega) _ ((RowAt.new w _ _).alloc _) (by have := RowAt.new (w.alloc (.cells #[.string s] 9)) #[.bool d] 4; rwa [World.size_alloc] at this)).mono ?_
  rintro e w' ⟨rfl, hB⟩
  exact ⟨rfl, (below_al (below_al (Below.refl _ _) _) _).trans hB⟩

set_option maxRecDepth 100000 in
set_option maxHeartbeats 4000000 in
theorem luhn_any (s : ByteArray) (hs : s.size ≤ 140737488351232) (w : World) : Calls Tryd.prog 13 #[.string s] w fun e w' => e = .returned (.bool (luhnN s.data.toList)) ∧ Below w.heap.size w w' := by
  have cI := fun w => is_any s hs w
  go_enter Tryd.func13, Tryd.ntmps13
  cases h : isNum s.data.toList with
  | false =>
    simp only [h] at cI
    have hl : luhnN s.data.toList = false := by simp [luhnN, h]
    replace cI := hid cI
    replace hl := hid hl
    clear h
    go_wp2_with (go_at_call 43; refine (cI.out _).mono ?_; rintro e w1 ⟨rfl, hB1⟩)
    go_ret
    exact ⟨ret_bool hl.out.symm, hB1⟩
  | true =>
    simp only [h] at cI
    have hl : luhnN s.data.toList = decide (luhnSum false s.data.toList % 10 = 0) := by simp [luhnN, h]
    have cS := fun w => wsum_any s hs (isNum_dig h) false w
    have cW := fun w => weights_make s false w
    obtain ⟨m, hm⟩ : ∃ m, m = luhnSum false s.data.toList := ⟨_, rfl⟩
    rw [← hm] at hl cS
    replace cI := hid cI
    replace hl := hid hl
    replace cS := hid cS
    replace cW := hid cW
    clear h hm
    go_wp2_with (first
      | (go_at_call 43; refine (cI.out _).mono ?_; rintro e w1 ⟨rfl, hB1⟩)
      | (go_at_call 45; refine (cW.out _).mono ?_; rintro e w2 ⟨rfl, rfl⟩)
      | (go_at_call 44; refine (cS.out _).mono ?_; rintro e w3 ⟨rfl, hB3⟩))
    go_ret
    refine ⟨ret_bool ?_, hB1.trans (hB3.mono hB1.size)⟩
    rw [hl.out, Bool.eq_iff_iff]
    simp
    omega

set_option maxRecDepth 100000 in
set_option maxHeartbeats 4000000 in
theorem check_any (s : ByteArray) (hs : s.size ≤ 140737488351232) (w : World) : Calls Tryd.prog 12 #[.string s] w fun e w' =>
    e = .returned (if isNum s.data.toList then .tuple #[.int .u8 (checkN s.data.toList : Nat), .int .i64 0] else .tuple #[.int .u8 0, .int .i64 4]) ∧ Below w.heap.size w w' := by
  have cI := fun w => is_any s hs w
  go_enter Tryd.func12, Tryd.ntmps12
  cases h : isNum s.data.toList with
  | false =>
    simp only [h] at cI
    replace cI := hid cI
    clear h
    go_wp2_with (go_at_call 43; refine (cI.out _).mono ?_; rintro e w1 ⟨rfl, hB1⟩)
    go_ret2
    exact ⟨rfl, hB1⟩
  | true =>
    simp only [h] at cI
    have hl : checkN s.data.toList = 48 + (10 - luhnSum true s.data.toList % 10) % 10 := rfl
    have cS := fun w => wsum_any s hs (isNum_dig h) true w
    have cW := fun w => weights_make s true w
    obtain ⟨m, hm⟩ : ∃ m, m = luhnSum true s.data.toList := ⟨_, rfl⟩
    rw [← hm] at hl cS
    have hr : ((10 : Int) - (m : Int) % 10) % 10 = (((10 - m % 10) % 10 : Nat) : Int) := by omega
    have hr2 : (((10 : Int) - (m : Int) % 10) % 10) % 256 = (((10 - m % 10) % 10 : Nat) : Int) := by omega
    replace cI := hid cI
    replace hl := hid hl
    replace cS := hid cS
    replace cW := hid cW
    clear h hm
    go_wp2_with (first
      | (go_at_call 43; refine (cI.out _).mono ?_; rintro e w1 ⟨rfl, hB1⟩)
      | (go_at_call 45; refine (cW.out _).mono ?_; rintro e w2 ⟨rfl, rfl⟩)
      | (go_at_call 44; refine (cS.out _).mono ?_; rintro e w3 ⟨rfl, hB3⟩))
    go_ret2
    refine ⟨?_, hB1.trans (hB3.mono hB1.size)⟩
    rw [hl.out]
    refine Eq.trans (b := Ending.returned (.tuple #[.int .u8 (48 + ((10 - m % 10 : Nat) : Int) % 10), .int .i64 0])) rfl ?_
    exact ret_int2 (by omega) rfl

set_option maxRecDepth 100000 in
set_option maxHeartbeats 4000000 in
theorem card_any (s : ByteArray) (hs : s.size ≤ 140737488351232) (w : World) : Calls Tryd.prog 15 #[.string s] w fun e w' => e = .returned (.int .i64 (cardN s.data.toList : Nat)) ∧ Below w.heap.size w w' := by
  have cI := fun w => is_any s hs w
  have cL := fun w => luhn_any s hs w
  have hlen : s.data.toList.length = s.size := by simp
  have hN : cardN s.data.toList = if !isNum s.data.toList then 4 else if s.size < 13 then 3 else if 19 < s.size then 5 else if !luhnN s.data.toList then 25 else 0 := by rw [cardN, hlen]
  obtain ⟨b, hb⟩ : ∃ b, b = isNum s.data.toList := ⟨_, rfl⟩
  obtain ⟨g, hg⟩ : ∃ b, b = luhnN s.data.toList := ⟨_, rfl⟩
  simp only [← hb] at cI hN
  simp only [← hg] at cL hN
  clear hb hg hlen
  go_enter Tryd.func15, Tryd.ntmps15
  cases b
  · have hN' := hid (show cardN s.data.toList = 4 by rw [hN]; rfl)
    replace cI := hid cI
    clear hN cL
    go_wp2_with (go_at_call 43; refine (cI.out _).mono ?_; rintro e w1 ⟨rfl, hB1⟩)
    go_ret
    exact ⟨by rw [hN'.out]; rfl, hB1⟩
  · by_cases h1 : s.size < 13
    · have hN' := hid (show cardN s.data.toList = 3 by rw [hN]; simp [h1])
      have h1' : (s.size : Int) < 13 := by omega
      have h1b : decide ((s.size : Int) < 13) = true := decide_eq_true h1'
      replace cI := hid cI
      clear hN cL
      go_wp2_with (go_at_call 43; refine (cI.out _).mono ?_; rintro e w1 ⟨rfl, hB1⟩)
      go_ret
      exact ⟨by rw [hN'.out]; rfl, hB1⟩
    · have h1' : ¬ (s.size : Int) < 13 := by omega
      have h1b : decide ((s.size : Int) < 13) = false := decide_eq_false h1'
      by_cases h2 : 19 < s.size
      · have hN' := hid (show cardN s.data.toList = 5 by rw [hN]; simp [h1, h2])
        have h2' : (19 : Int) < (s.size : Int) := by omega
        have h2b : decide ((19 : Int) < (s.size : Int)) = true := decide_eq_true h2'
        replace cI := hid cI
        clear hN cL
        go_wp2_with (go_at_call 43; refine (cI.out _).mono ?_; rintro e w1 ⟨rfl, hB1⟩)
        go_ret
        exact ⟨by rw [hN'.out]; rfl, hB1⟩
      · have h2' : ¬ (19 : Int) < (s.size : Int) := by omega
        have h2b : decide ((19 : Int) < (s.size : Int)) = false := decide_eq_false h2'
        cases g
        · have hN' := hid (show cardN s.data.toList = 25 by rw [hN]; simp [h1, h2])
          replace cI := hid cI
          replace cL := hid cL
          clear hN
          go_wp2_with (first | (go_at_call 43; refine (cI.out _).mono ?_; rintro e w1 ⟨rfl, hB1⟩) | (go_at_call 13; refine (cL.out _).mono ?_; rintro e w2 ⟨rfl, hB2⟩))
          go_ret
          exact ⟨by rw [hN'.out]; rfl, below_cat hB2 hB1⟩
        · have hN' := hid (show cardN s.data.toList = 0 by rw [hN]; simp [h1, h2])
          replace cI := hid cI
          replace cL := hid cL
          clear hN
          go_wp2_with (first | (go_at_call 43; refine (cI.out _).mono ?_; rintro e w1 ⟨rfl, hB1⟩) | (go_at_call 13; refine (cL.out _).mono ?_; rintro e w2 ⟨rfl, hB2⟩))
          go_ret
          exact ⟨by rw [hN'.out]; rfl, below_cat hB2 hB1⟩
end Go.Proofs.YtbbjoahloghpkaaDoor
