/- The walk of Put. -/
import Derived.Test.YtbedanlkkidkkabUtf1
namespace Go.Proofs.Ytbedanlkkidkkab
open Go Go.RowKit
set_option linter.unusedSimpArgs false

theorem info_u8 : (Try.prog.info? 5).map (fun i => (i.zero, i.size, i.bytes)) = some (some (.int .u8 0), 1, 1) := by kernel_rfl
theorem and63 (x : Int) : bits .and .u8 (x % 256) 63 = x % 64 := by
  rw [u8_and63 (x := x % 256) (by omega) (by omega)]; omega
theorem or128 (x : Int) : bits .or .u8 128 (x % 64) = 128 + x % 64 := u8_or128 (y := x % 64) (by omega) (by omega)
theorem or240 (x : Int) (h0 : 0 ≤ x) (h1 : x < 8) : bits .or .u8 240 x = 240 + x := u8_or240 _ h0 h1
theorem or224 (x : Int) (h0 : 0 ≤ x) (h1 : x < 16) : bits .or .u8 224 x = 224 + x := u8_or224 _ h0 h1
theorem or192 (x : Int) (h0 : 0 ≤ x) (h1 : x < 32) : bits .or .u8 192 x = 192 + x := u8_or192 _ h0 h1

theorem conv_new (xs : List Int) (c : Nat) (w : World) : (convert 48 9 (.slice (some ⟨w.heap.size, 0, none⟩) xs.length c)).run Try.prog (w.alloc (.cells (xs.map (Value.int .u8)).toArray 5)) =
    .ok (.string (strOfNums xs)) (w.alloc (.cells (xs.map (Value.int .u8)).toArray 5)) := by
  refine run_convert_bytes_arg (P := Try.prog) _ 48 5 Try.underlying48 Try.underlying5 w.heap.size 0 xs.length c xs rfl (fun i hi => ?_) 9 Try.underlying9
  rw [Nat.zero_add]
  refine (RowAt.new w _ 5).cell ?_
  simp [hi]

set_option maxRecDepth 100000 in
set_option maxHeartbeats 2000000 in
theorem put4_any (m : Nat) (h0 : 65536 ≤ m) (h1 : m ≤ 1114111) (w : World) : Calls Try.prog 13 #[.int .i32 (m : Int)] w fun e w' => e = .returned (.string ⟨#[UInt8.ofNat (240 + m / 262144), UInt8.ofNat (128 + m / 4096 % 64), UInt8.ofNat (128 + m / 64 % 64), UInt8.ofNat (128 + m % 64)]⟩) ∧ Below w.heap.size w w' := by
  have hp : isPoint (m : Int) = true := by simp [isPoint]; omega
  have hz : sizeN (m : Int) = 4 := by unfold sizeN; rw [if_neg (by omega), if_neg (by omega), if_neg (by omega)]
  have PP := fun w => point_any (m : Int) w
  have SZ := fun w => size_any (m : Int) w
  rw [hp] at PP
  rw [hz] at SZ
  replace PP := hid PP
  replace SZ := hid SZ
  clear hp hz
  have hmk : ∀ w, (Instr.makeSlice 48 (.int .i64 4) (.int .i64 4)).run Try.prog w = .ok (.slice (some ⟨w.heap.size, 0, none⟩) 4 4) (w.alloc (.cells #[.int .u8 0, .int .u8 0, .int .u8 0, .int .u8 0] 5)) := fun w => by
    exact run_make8 (P := Try.prog) 48 5 Try.underlying48 info_u8 4 (by omega) w
  have a0 := and63
  have o0 := or128
  have o1 := or240
  have hcv : ∀ (a b c d : Int) (w : World), (convert 48 9 (.slice (some ⟨w.heap.size, 0, none⟩) 4 4)).run Try.prog (w.alloc (.cells #[.int .u8 a, .int .u8 b, .int .u8 c, .int .u8 d] 5)) = .ok (.string (strOfNums [a, b, c, d])) (w.alloc (.cells #[.int .u8 a, .int .u8 b, .int .u8 c, .int .u8 d] 5)) := fun a b c d w => conv_new [a, b, c, d] 4 w
  go_enter Try.func13, Try.ntmps13
  go_wp2_with (first | (go_at_call 23; refine (PP.out _).mono ?_; rintro e w' ⟨rfl, rfl⟩) | (go_at_call 22; refine (SZ.out _).mono ?_; rintro e w' ⟨rfl, rfl⟩))
  refine wp_loop_rounds 4 ?_
  rw [rounds_succ]
  go_wp2
  rw [rounds_succ]
  go_wp2
  rw [rounds_succ]
  go_wp2
  rw [rounds_succ]
  go_wp2
  go_ret
  refine ⟨ret_string ?_, (Below.refl _ w).alloc (Nat.le_refl _) _⟩
  unfold strOfNums
  simp only [List.map_cons, List.map_nil]
  congr 3
  all_goals (try congr 1)
  all_goals (first | omega | (congr 1; omega))

set_option maxRecDepth 100000 in
set_option maxHeartbeats 2000000 in
theorem put3_any (m : Nat) (h0 : 2048 ≤ m) (h1 : m ≤ 65535) (h2 : m < 55296 ∨ 57343 < m) (w : World) : Calls Try.prog 13 #[.int .i32 (m : Int)] w fun e w' => e = .returned (.string ⟨#[UInt8.ofNat (224 + m / 4096), UInt8.ofNat (128 + m / 64 % 64), UInt8.ofNat (128 + m % 64)]⟩) ∧ Below w.heap.size w w' := by
  have hp : isPoint (m : Int) = true := by simp [isPoint]; omega
  have hz : sizeN (m : Int) = 3 := by unfold sizeN; rw [if_neg (by omega), if_neg (by omega), if_pos (by omega)]
  have PP := fun w => point_any (m : Int) w
  have SZ := fun w => size_any (m : Int) w
  rw [hp] at PP
  rw [hz] at SZ
  replace PP := hid PP
  replace SZ := hid SZ
  clear hp hz
  have hmk : ∀ w, (Instr.makeSlice 48 (.int .i64 3) (.int .i64 3)).run Try.prog w = .ok (.slice (some ⟨w.heap.size, 0, none⟩) 3 3) (w.alloc (.cells #[.int .u8 0, .int .u8 0, .int .u8 0] 5)) := fun w => by
    exact run_make8 (P := Try.prog) 48 5 Try.underlying48 info_u8 3 (by omega) w
  have a0 := and63
  have o0 := or128
  have o1 := or224
  have hcv : ∀ (a b c : Int) (w : World), (convert 48 9 (.slice (some ⟨w.heap.size, 0, none⟩) 3 3)).run Try.prog (w.alloc (.cells #[.int .u8 a, .int .u8 b, .int .u8 c] 5)) = .ok (.string (strOfNums [a, b, c])) (w.alloc (.cells #[.int .u8 a, .int .u8 b, .int .u8 c] 5)) := fun a b c w => conv_new [a, b, c] 3 w
  go_enter Try.func13, Try.ntmps13
  go_wp2_with (first | (go_at_call 23; refine (PP.out _).mono ?_; rintro e w' ⟨rfl, rfl⟩) | (go_at_call 22; refine (SZ.out _).mono ?_; rintro e w' ⟨rfl, rfl⟩))
  refine wp_loop_rounds 3 ?_
  rw [rounds_succ]
  go_wp2
  rw [rounds_succ]
  go_wp2
  rw [rounds_succ]
  go_wp2
  go_ret
  refine ⟨ret_string ?_, (Below.refl _ w).alloc (Nat.le_refl _) _⟩
  unfold strOfNums
  simp only [List.map_cons, List.map_nil]
  congr 3
  all_goals (try congr 1)
  all_goals (first | omega | (congr 1; omega))

set_option maxRecDepth 100000 in
set_option maxHeartbeats 2000000 in
theorem put2_any (m : Nat) (h0 : 128 ≤ m) (h1 : m ≤ 2047) (w : World) : Calls Try.prog 13 #[.int .i32 (m : Int)] w fun e w' => e = .returned (.string ⟨#[UInt8.ofNat (192 + m / 64), UInt8.ofNat (128 + m % 64)]⟩) ∧ Below w.heap.size w w' := by
  have hp : isPoint (m : Int) = true := by simp [isPoint]; omega
  have hz : sizeN (m : Int) = 2 := by unfold sizeN; rw [if_neg (by omega), if_pos (by omega)]
  have PP := fun w => point_any (m : Int) w
  have SZ := fun w => size_any (m : Int) w
  rw [hp] at PP
  rw [hz] at SZ
  replace PP := hid PP
  replace SZ := hid SZ
  clear hp hz
  have hmk : ∀ w, (Instr.makeSlice 48 (.int .i64 2) (.int .i64 2)).run Try.prog w = .ok (.slice (some ⟨w.heap.size, 0, none⟩) 2 2) (w.alloc (.cells #[.int .u8 0, .int .u8 0] 5)) := fun w => by
    exact run_make8 (P := Try.prog) 48 5 Try.underlying48 info_u8 2 (by omega) w
  have a0 := and63
  have o0 := or128
  have o1 := or192
  have hcv : ∀ (a b : Int) (w : World), (convert 48 9 (.slice (some ⟨w.heap.size, 0, none⟩) 2 2)).run Try.prog (w.alloc (.cells #[.int .u8 a, .int .u8 b] 5)) = .ok (.string (strOfNums [a, b])) (w.alloc (.cells #[.int .u8 a, .int .u8 b] 5)) := fun a b w => conv_new [a, b] 2 w
  go_enter Try.func13, Try.ntmps13
  go_wp2_with (first | (go_at_call 23; refine (PP.out _).mono ?_; rintro e w' ⟨rfl, rfl⟩) | (go_at_call 22; refine (SZ.out _).mono ?_; rintro e w' ⟨rfl, rfl⟩))
  refine wp_loop_rounds 2 ?_
  rw [rounds_succ]
  go_wp2
  rw [rounds_succ]
  go_wp2
  go_ret
  refine ⟨ret_string ?_, (Below.refl _ w).alloc (Nat.le_refl _) _⟩
  unfold strOfNums
  simp only [List.map_cons, List.map_nil]
  congr 3
  all_goals (try congr 1)
  all_goals (first | omega | (congr 1; omega))

set_option maxRecDepth 100000 in
set_option maxHeartbeats 2000000 in
theorem put1_any (m : Nat) (h1 : m ≤ 127) (w : World) : Calls Try.prog 13 #[.int .i32 (m : Int)] w fun e w' => e = .returned (.string ⟨#[UInt8.ofNat m]⟩) ∧ Below w.heap.size w w' := by
  have hp : isPoint (m : Int) = true := by simp [isPoint]; omega
  have hz : sizeN (m : Int) = 1 := by unfold sizeN; rw [if_pos (by omega)]
  have PP := fun w => point_any (m : Int) w
  have SZ := fun w => size_any (m : Int) w
  rw [hp] at PP
  rw [hz] at SZ
  replace PP := hid PP
  replace SZ := hid SZ
  clear hp hz
  have hcv : ∀ (a : Int) (w : World), (convert 48 9 (.slice (some ⟨w.heap.size, 0, none⟩) 1 1)).run Try.prog (w.alloc (.cells #[.int .u8 a] 5)) = .ok (.string (strOfNums [a])) (w.alloc (.cells #[.int .u8 a] 5)) := fun a w => conv_new [a] 1 w
  go_enter Try.func13, Try.ntmps13
  go_wp2_with (first | (go_at_call 23; refine (PP.out _).mono ?_; rintro e w' ⟨rfl, rfl⟩) | (go_at_call 22; refine (SZ.out _).mono ?_; rintro e w' ⟨rfl, rfl⟩))
  go_ret
  refine ⟨ret_string ?_, (Below.refl _ w).alloc (Nat.le_refl _) _⟩
  unfold strOfNums
  simp only [List.map_cons, List.map_nil]
  congr 3
theorem putbad_any (r : Int) (h : isPoint r = false) (w : World) : Calls Try.prog 13 #[.int .i32 r] w fun e w' => e = .returned (.string ⟨#[]⟩) ∧ Below w.heap.size w w' := by
  have PP := fun w => point_any r w
  rw [h] at PP
  replace PP := hid PP
  go_enter Try.func13, Try.ntmps13
  go_wp2_with (go_at_call 23; refine (PP.out _).mono ?_; rintro e w' ⟨rfl, rfl⟩)
  go_ret
  exact ⟨rfl, Below.refl _ _⟩

theorem put_rune (r : Int) (w : World) : Calls Try.prog 13 #[.int .i32 r] w fun e w' => e = .returned (.string (putS r)) ∧ Below w.heap.size w w' := by
  by_cases hp : isPoint r = true
  · have hb := hp
    simp only [isPoint, Bool.and_eq_true, Bool.or_eq_true, decide_eq_true_eq] at hb
    obtain ⟨m, rfl⟩ := Int.eq_ofNat_of_zero_le hb.1.1
    by_cases h1 : m ≤ 127
    · have := put1_any m h1 w
      have e : putS (m : Int) = ⟨#[UInt8.ofNat m]⟩ := by
        unfold putS putN; rw [if_pos hp, show sizeN (m : Int) = 1 by unfold sizeN; rw [if_pos (by omega)]]; rfl
      rw [e]; exact this
    · by_cases h2 : m ≤ 2047
      · have := put2_any m (by omega) h2 w
        have e : putS (m : Int) = ⟨#[UInt8.ofNat (192 + m / 64), UInt8.ofNat (128 + m % 64)]⟩ := by
          unfold putS putN; rw [if_pos hp, show sizeN (m : Int) = 2 by unfold sizeN; rw [if_neg (by omega), if_pos (by omega)]]; rfl
        rw [e]; exact this
      · by_cases h3 : m ≤ 65535
        · have := put3_any m (by omega) h3 (by omega) w
          have e : putS (m : Int) = ⟨#[UInt8.ofNat (224 + m / 4096), UInt8.ofNat (128 + m / 64 % 64), UInt8.ofNat (128 + m % 64)]⟩ := by
            unfold putS putN; rw [if_pos hp, show sizeN (m : Int) = 3 by unfold sizeN; rw [if_neg (by omega), if_neg (by omega), if_pos (by omega)]]; rfl
          rw [e]; exact this
        · have := put4_any m (by omega) (by omega) w
          have e : putS (m : Int) = ⟨#[UInt8.ofNat (240 + m / 262144), UInt8.ofNat (128 + m / 4096 % 64), UInt8.ofNat (128 + m / 64 % 64), UInt8.ofNat (128 + m % 64)]⟩ := by
            unfold putS putN; rw [if_pos hp, show sizeN (m : Int) = 4 by unfold sizeN; rw [if_neg (by omega), if_neg (by omega), if_neg (by omega)]]; rfl
          rw [e]; exact this
  · have e : putS r = ⟨#[]⟩ := by unfold putS putN; rw [if_neg hp]
    rw [e]; exact putbad_any r (by simpa using hp) w

end Go.Proofs.Ytbedanlkkidkkab
