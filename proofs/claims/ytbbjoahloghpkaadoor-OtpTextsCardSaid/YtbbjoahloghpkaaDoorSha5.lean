/- turn, rotr: the walks. -/
import Derived.Test.YtbbjoahloghpkaaDoorKit
import Derived.Test.YtbbjoahloghpkaaDoorProg
import Derived.Laws.ShiftsVarLaws
import Derived.Test.YtbbjoahloghpkaaDoorSub
namespace Go.Proofs.YtbbjoahloghpkaaDoor
open Go Go.RowKit
set_option linter.unusedSimpArgs false

/-- A word turned to the right, round. -/
def rot (x n : Nat) : Nat := x / 2 ^ n + x % 2 ^ n * 2 ^ (32 - n)

theorem and31 (x : Int) (h0 : 0 ≤ x) (h1 : x < 18446744073709551616) : bits .and .u64 x 31 = x % 32 :=
  bits_mask .u64 64 (by decide) (fun n h h' => by rw [IntKind.wrap_u64]; omega) 5 (by decide) x h0 h1
theorem rot_or (x n : Nat) (hn : n ≤ 32) (hx : x < 4294967296) : x / 2 ^ n ||| x % 2 ^ n * 2 ^ (32 - n) = rot x n := by
  have e : (4294967296 : Nat) = 2 ^ (32 - n) * 2 ^ n := by rw [← Nat.pow_add]; rw [show 32 - n + n = 32 by omega]
  have h1 : x / 2 ^ n < 2 ^ (32 - n) := by
    rw [Nat.div_lt_iff_lt_mul (Nat.two_pow_pos n), ← e]; exact hx
  have := Nat.two_pow_add_eq_or_of_lt (i := 32 - n) (b := x / 2 ^ n) h1 (x % 2 ^ n)
  unfold rot
  rw [Nat.or_comm, Nat.mul_comm, ← this, Nat.add_comm]
theorem rot_shift (x n : Nat) (hn : n ≤ 32) (hx : x < 4294967296) : x * 2 ^ (32 - n) % 4294967296 = x % 2 ^ n * 2 ^ (32 - n) := by
  have e : (4294967296 : Nat) = 2 ^ n * 2 ^ (32 - n) := by rw [← Nat.pow_add]; rw [show n + (32 - n) = 32 by omega]
  rw [e, Nat.mul_mod_mul_right]
theorem rot_lt (x n : Nat) (hn : n ≤ 32) (hx : x < 4294967296) : rot x n < 4294967296 := by
  have e : (4294967296 : Nat) = 2 ^ (32 - n) * 2 ^ n := by rw [← Nat.pow_add]; rw [show 32 - n + n = 32 by omega]
  have e2 : (4294967296 : Nat) = 2 ^ 32 := by decide
  rw [← rot_or x n hn hx, e2]
  refine Nat.or_lt_two_pow ?_ ?_
  · exact Nat.lt_of_le_of_lt (Nat.div_le_self _ _) (by omega)
  · have := Nat.mod_lt x (Nat.two_pow_pos n)
    rw [← e2, e, Nat.mul_comm (2 ^ (32 - n))]
    exact Nat.mul_lt_mul_of_pos_right this (Nat.two_pow_pos _)
theorem rot_bits (x n : Nat) (hn : n ≤ 32) (hx : x < 4294967296) : bits BinOp.or IntKind.u32 ((x : Int) / 2 ^ n) ((x : Int) * 2 ^ (32 - n) % 4294967296) = (rot x n : Int) := by
  have h := rot_lt x n hn hx
  have e1 : (x : Int) / 2 ^ n = ((x / 2 ^ n : Nat) : Int) := by simp
  have e2 : (x : Int) * 2 ^ (32 - n) % 4294967296 = ((x % 2 ^ n * 2 ^ (32 - n) : Nat) : Int) := by rw [← rot_shift x n hn hx]; simp
  rw [e1, e2, u32_or_nat _ _ (Nat.lt_of_le_of_lt (Nat.div_le_self _ _) hx) (by rw [← rot_shift x n hn hx]; exact Nat.mod_lt _ (by decide)), rot_or x n hn hx]
theorem rot_left (x m : Nat) (hx : x < 4294967296) (hm : 0 < m) (hm2 : m < 32) : bits BinOp.or IntKind.u32 ((x : Int) * 2 ^ m % 4294967296) ((x : Int) / 2 ^ (32 - m)) = (rot x (32 - m) : Int) := by
  obtain ⟨n, hn, rfl⟩ : ∃ n, n ≤ 32 ∧ m = 32 - n := ⟨32 - m, by omega, by omega⟩
  have e1 : (x : Int) / 2 ^ n = ((x / 2 ^ n : Nat) : Int) := by simp
  have e2 : (x : Int) * 2 ^ (32 - n) % 4294967296 = ((x % 2 ^ n * 2 ^ (32 - n) : Nat) : Int) := by rw [← rot_shift x n hn hx]; simp
  rw [show 32 - (32 - n) = n by omega, e1, e2, u32_or_nat _ _ (by rw [← rot_shift x n hn hx]; exact Nat.mod_lt _ (by decide)) (Nat.lt_of_le_of_lt (Nat.div_le_self _ _) hx), Nat.or_comm, rot_or x n hn hx]
theorem rotl_any (x n : Nat) (hx : x < 4294967296) (hn : 0 < n) (hn2 : n < 32) (w : World) : Calls Tryd.prog 129 #[.int .u32 x, .int .i64 (-(n : Int))] w fun e w' => e = .returned (.int .u32 (rot x n : Nat)) ∧ w = w' := by
  obtain ⟨m, rfl⟩ : ∃ m, n = 32 - m := ⟨32 - n, by omega⟩
  have hm : 0 < m ∧ m < 32 := by omega
  have h1 : bits BinOp.and IntKind.u64 (IntKind.u64.wrap (-((32 - m : Nat) : Int))) 31 = (m : Int) := by
    rw [show IntKind.u64.wrap (-((32 - m : Nat) : Int)) = 18446744073709551584 + (m : Int) by rw [IntKind.wrap_u64]; omega, and31 _ (by omega) (by omega)]; omega
  have h2 : (m : Int) ≤ 31 := by omega
  have h3 : (0 : Int) ≤ (m : Int) := by omega
  go_enter Tryd.func129, Tryd.ntmps129
  go_wp2
  go_ret
  exact ⟨ret_int (rot_left x m hx hm.1 hm.2), rfl⟩
theorem rotr_any (x n : Nat) (hx : x < 4294967296) (hn : 0 < n) (hn2 : n < 32) (w : World) : Calls Tryd.prog 80 #[.int .u32 x, .int .i64 (n : Int)] w fun e w' => e = .returned (.int .u32 (rot x n : Nat)) ∧ Below w.heap.size w w' := by
  have h2 : (n : Int) ≤ 31 := by omega
  have h3 : decide ((n : Int) < 0) = false := by rw [decide_eq_false_iff_not]; omega
  have h4 : decide ((32 : Int) - (n : Int) < 0) = false := by rw [decide_eq_false_iff_not]; omega
  go_enter Tryd.func80, Tryd.ntmps80
  go_wp2
  refine wp_region_sub (by kernel_rfl) (by kernel_rfl) ?_
  repeat (go_big_quiet_step (fail))
  refine wpQuiet_nil ?_
  intro q
  go_wp2
  go_ret
  exact ⟨ret_int (rot_bits x n (by omega) hx), q.h⟩
theorem turn_any (x n : Nat) (hx : x < 4294967296) (hn : 0 < n) (hn2 : n < 32) (w : World) : Calls Tryd.prog 121 #[.int .u32 x, .int .i64 (n : Int)] w fun e w' => e = .returned (.int .u32 (rot x n : Nat)) ∧ w = w' := by
  have h1 : IntKind.i64.wrap (-(n : Int)) = -(n : Int) := by rw [IntKind.wrap_i64]; omega
  go_enter Tryd.func121, Tryd.ntmps121
  go_wp2_with (go_at_call 129; refine (rotl_any x n hx hn hn2 _).mono ?_; rintro e w' ⟨rfl, rfl⟩)
  go_ret
  exact ⟨rfl, rfl⟩
end Go.Proofs.YtbbjoahloghpkaaDoor
