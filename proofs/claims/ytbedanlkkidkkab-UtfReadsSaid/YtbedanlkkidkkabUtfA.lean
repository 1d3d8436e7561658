/- The document's answer: Point, Put. -/
import Derived.Test.YtbedanlkkidkkabUtf9
namespace Go.Proofs.Ytbedanlkkidkkab
open Go Go.RowKit
set_option linter.unusedSimpArgs false

set_option maxHeartbeats 1000000 in
theorem refPoint_any (r : Int) (w : World) : Calls Try.prog 15 #[.int .i64 r] w fun e w' => e = .returned (.bool (isPoint r)) ∧ w = w' := by
  by_cases h0 : 0 ≤ r
  · by_cases h1 : r ≤ 1114111
    · by_cases h2 : r < 55296
      · have hv : isPoint r = true := by simp [isPoint, h0, h1, h2]
        rw [hv]
        go_enter Try.func15, Try.ntmps15
        go_wp2
        go_ret
        exact ⟨rfl, rfl⟩
      · by_cases h3 : 57343 < r
        · have hv : isPoint r = true := by simp [isPoint, h0, h1, h2, h3]
          rw [hv]
          go_enter Try.func15, Try.ntmps15
          go_wp2
          go_ret
          exact ⟨rfl, rfl⟩
        · have hv : isPoint r = false := by simp [isPoint, h0, h1, h2, h3]
          rw [hv]
          go_enter Try.func15, Try.ntmps15
          go_wp2
          go_ret
          exact ⟨rfl, rfl⟩
    · have hv : isPoint r = false := by simp [isPoint, h0, h1]
      rw [hv]
      go_enter Try.func15, Try.ntmps15
      go_wp2
      go_ret
      exact ⟨rfl, rfl⟩
  · have hv : isPoint r = false := by simp [isPoint, h0]
    rw [hv]
    go_enter Try.func15, Try.ntmps15
    go_wp2
    go_ret
    exact ⟨rfl, rfl⟩

set_option maxRecDepth 100000 in
set_option maxHeartbeats 2000000 in
theorem refPut1_any (m : Nat) (h1 : m ≤ 127) (w : World) : Calls Try.prog 14 #[.int .i64 (m : Int)] w fun e w' => e = .returned (.string ⟨#[UInt8.ofNat (m)]⟩) ∧ Below w.heap.size w w' := by
  have hp : isPoint (m : Int) = true := by simp [isPoint]; omega
  have PP := fun w => refPoint_any (m : Int) w
  rw [hp] at PP
  replace PP := hid PP
  clear hp
  have hcv : ∀ (a : Int) (w : World), (convert 48 9 (.slice (some ⟨w.heap.size, 0, none⟩) 1 1)).run Try.prog (w.alloc (.cells #[.int .u8 a] 5)) = .ok (.string (strOfNums [a])) (w.alloc (.cells #[.int .u8 a] 5)) := fun a w => conv_new [a] 1 w
  go_enter Try.func14, Try.ntmps14
  go_wp2_with (go_at_call 15; refine (PP.out _).mono ?_; rintro e w' ⟨rfl, rfl⟩)
  go_ret
  refine ⟨ret_string ?_, (Below.refl _ w).alloc (Nat.le_refl _) _⟩
  unfold strOfNums
  simp only [List.map_cons, List.map_nil]
  refine congrArg ByteArray.mk (congrArg List.toArray ?_)
  rw [show ((m : Int) : Int).toNat = m by omega]

set_option maxRecDepth 100000 in
set_option maxHeartbeats 2000000 in
theorem refPut2_any (m : Nat) (h0 : 128 ≤ m) (h1 : m ≤ 2047) (w : World) : Calls Try.prog 14 #[.int .i64 (m : Int)] w fun e w' => e = .returned (.string ⟨#[UInt8.ofNat (192 + m / 64), UInt8.ofNat (128 + m % 64)]⟩) ∧ Below w.heap.size w w' := by
  have hp : isPoint (m : Int) = true := by simp [isPoint]; omega
  have PP := fun w => refPoint_any (m : Int) w
  rw [hp] at PP
  replace PP := hid PP
  clear hp
  have hcv : ∀ (a b : Int) (w : World), (convert 48 9 (.slice (some ⟨w.heap.size, 0, none⟩) 2 2)).run Try.prog (w.alloc (.cells #[.int .u8 a, .int .u8 b] 5)) = .ok (.string (strOfNums [a, b])) (w.alloc (.cells #[.int .u8 a, .int .u8 b] 5)) := fun a b w => conv_new [a, b] 2 w
  go_enter Try.func14, Try.ntmps14
  go_wp2_with (go_at_call 15; refine (PP.out _).mono ?_; rintro e w' ⟨rfl, rfl⟩)
  go_ret
  refine ⟨ret_string ?_, (Below.refl _ w).alloc (Nat.le_refl _) _⟩
  unfold strOfNums
  simp only [List.map_cons, List.map_nil]
  refine congrArg ByteArray.mk (congrArg List.toArray ?_)
  rw [show (192 + (m : Int) / 64 : Int).toNat = 192 + m / 64 by omega, show (128 + (m : Int) % 64 : Int).toNat = 128 + m % 64 by omega]

set_option maxRecDepth 10000000 in
set_option maxHeartbeats 2000000 in
theorem refPut3_any (m : Nat) (h0 : 2048 ≤ m) (h1 : m ≤ 65535) (h2 : m < 55296 ∨ 57343 < m) (w : World) : Calls Try.prog 14 #[.int .i64 (m : Int)] w fun e w' => e = .returned (.string ⟨#[UInt8.ofNat (224 + m / 4096), UInt8.ofNat (128 + m / 64 % 64), UInt8.ofNat (128 + m % 64)]⟩) ∧ Below w.heap.size w w' := by
  have hp : isPoint (m : Int) = true := by simp [isPoint]; omega
  have PP := fun w => refPoint_any (m : Int) w
  rw [hp] at PP
  replace PP := hid PP
  clear hp
  have hcv : ∀ (a b c : Int) (w : World), (convert 48 9 (.slice (some ⟨w.heap.size, 0, none⟩) 3 3)).run Try.prog (w.alloc (.cells #[.int .u8 a, .int .u8 b, .int .u8 c] 5)) = .ok (.string (strOfNums [a, b, c])) (w.alloc (.cells #[.int .u8 a, .int .u8 b, .int .u8 c] 5)) := fun a b c w => conv_new [a, b, c] 3 w
  go_enter Try.func14, Try.ntmps14
  go_wp2_with (go_at_call 15; refine (PP.out _).mono ?_; rintro e w' ⟨rfl, rfl⟩)
  go_ret
  refine ⟨ret_string ?_, (Below.refl _ w).alloc (Nat.le_refl _) _⟩
  unfold strOfNums
  simp only [List.map_cons, List.map_nil]
  refine congrArg ByteArray.mk (congrArg List.toArray ?_)
  rw [show (224 + (m : Int) / 4096 : Int).toNat = 224 + m / 4096 by omega, show (128 + (m : Int) / 64 % 64 : Int).toNat = 128 + m / 64 % 64 by omega, show (128 + (m : Int) % 64 : Int).toNat = 128 + m % 64 by omega]

set_option maxRecDepth 10000000 in
set_option maxHeartbeats 2000000 in
theorem refPut4_any (m : Nat) (h0 : 65536 ≤ m) (h1 : m ≤ 1114111) (w : World) : Calls Try.prog 14 #[.int .i64 (m : Int)] w fun e w' => e = .returned (.string ⟨#[UInt8.ofNat (240 + m / 262144), UInt8.ofNat (128 + m / 4096 % 64), UInt8.ofNat (128 + m / 64 % 64), UInt8.ofNat (128 + m % 64)]⟩) ∧ Below w.heap.size w w' := by
  have hp : isPoint (m : Int) = true := by simp [isPoint]; omega
  have PP := fun w => refPoint_any (m : Int) w
  rw [hp] at PP
  replace PP := hid PP
  clear hp
  have hcv : ∀ (a b c d : Int) (w : World), (convert 48 9 (.slice (some ⟨w.heap.size, 0, none⟩) 4 4)).run Try.prog (w.alloc (.cells #[.int .u8 a, .int .u8 b, .int .u8 c, .int .u8 d] 5)) = .ok (.string (strOfNums [a, b, c, d])) (w.alloc (.cells #[.int .u8 a, .int .u8 b, .int .u8 c, .int .u8 d] 5)) := fun a b c d w => conv_new [a, b, c, d] 4 w
  go_enter Try.func14, Try.ntmps14
  go_wp2_with (go_at_call 15; refine (PP.out _).mono ?_; rintro e w' ⟨rfl, rfl⟩)
  go_ret
  refine ⟨ret_string ?_, (Below.refl _ w).alloc (Nat.le_refl _) _⟩
  unfold strOfNums
  simp only [List.map_cons, List.map_nil]
  refine congrArg ByteArray.mk (congrArg List.toArray ?_)
  rw [show (240 + (m : Int) / 262144 : Int).toNat = 240 + m / 262144 by omega, show (128 + (m : Int) / 4096 % 64 : Int).toNat = 128 + m / 4096 % 64 by omega, show (128 + (m : Int) / 64 % 64 : Int).toNat = 128 + m / 64 % 64 by omega, show (128 + (m : Int) % 64 : Int).toNat = 128 + m % 64 by omega]

theorem refPutbad_any (r : Int) (h : isPoint r = false) (w : World) : Calls Try.prog 14 #[.int .i64 r] w fun e w' => e = .returned (.string ⟨#[]⟩) ∧ Below w.heap.size w w' := by
  have PP := fun w => refPoint_any r w
  rw [h] at PP
  replace PP := hid PP
  go_enter Try.func14, Try.ntmps14
  go_wp2_with (go_at_call 15; refine (PP.out _).mono ?_; rintro e w' ⟨rfl, rfl⟩)
  go_ret
  exact ⟨rfl, Below.refl _ _⟩

theorem refPut_any (r : Int) (w : World) : Calls Try.prog 14 #[.int .i64 r] w fun e w' => e = .returned (.string (putS r)) ∧ Below w.heap.size w w' := by
  by_cases hp : isPoint r = true
  · have hb := hp
    simp only [isPoint, Bool.and_eq_true, Bool.or_eq_true, decide_eq_true_eq] at hb
    obtain ⟨m, rfl⟩ := Int.eq_ofNat_of_zero_le hb.1.1
    by_cases h1 : m ≤ 127
    · have := refPut1_any m h1 w
      have e : putS (m : Int) = ⟨#[UInt8.ofNat m]⟩ := by
        unfold putS putN; rw [if_pos hp, show sizeN (m : Int) = 1 by unfold sizeN; rw [if_pos (by omega)]]; rfl
      rw [e]; exact this
    · by_cases h2 : m ≤ 2047
      · have := refPut2_any m (by omega) h2 w
        have e : putS (m : Int) = ⟨#[UInt8.ofNat (192 + m / 64), UInt8.ofNat (128 + m % 64)]⟩ := by
          unfold putS putN; rw [if_pos hp, show sizeN (m : Int) = 2 by unfold sizeN; rw [if_neg (by omega), if_pos (by omega)]]; rfl
        rw [e]; exact this
      · by_cases h3 : m ≤ 65535
        · have := refPut3_any m (by omega) h3 (by omega) w
          have e : putS (m : Int) = ⟨#[UInt8.ofNat (224 + m / 4096), UInt8.ofNat (128 + m / 64 % 64), UInt8.ofNat (128 + m % 64)]⟩ := by
            unfold putS putN; rw [if_pos hp, show sizeN (m : Int) = 3 by unfold sizeN; rw [if_neg (by omega), if_neg (by omega), if_pos (by omega)]]; rfl
          rw [e]; exact this
        · have := refPut4_any m (by omega) (by omega) w
          have e : putS (m : Int) = ⟨#[UInt8.ofNat (240 + m / 262144), UInt8.ofNat (128 + m / 4096 % 64), UInt8.ofNat (128 + m / 64 % 64), UInt8.ofNat (128 + m % 64)]⟩ := by
            unfold putS putN; rw [if_pos hp, show sizeN (m : Int) = 4 by unfold sizeN; rw [if_neg (by omega), if_neg (by omega), if_neg (by omega)]]; rfl
          rw [e]; exact this
  · have e : putS r = ⟨#[]⟩ := by unfold putS putN; rw [if_neg hp]
    rw [e]; exact refPutbad_any r (by simpa using hp) w

end Go.Proofs.Ytbedanlkkidkkab
