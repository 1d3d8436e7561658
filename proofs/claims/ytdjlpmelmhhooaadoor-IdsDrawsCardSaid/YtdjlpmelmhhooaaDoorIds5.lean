/- Ids: == of two rows of 16 bytes. -/
import Derived.Test.YtdjlpmelmhhooaaDoorIdA
import Derived.DeepKeys
namespace Go.Proofs.YtdjlpmelmhhooaaDoor
open Go Go.RowKit
set_option linter.unusedSimpArgs false
theorem key_id : Tryd.prog.keyTypeAt 3 23 = true := by kernel_rfl
theorem cells_id : Tryd.prog.cellsOf 23 = 16 := by kernel_rfl
theorem cells_u8 : Tryd.prog.cellsOf 5 = 1 := by kernel_rfl
theorem wf_u8 (b : UInt8) : (Lit.int .u8 (b.toNat : Int)).wf = true := by
  have := b.toNat_lt
  have h1 : IntKind.min .u8 = 0 := by kernel_rfl
  have h2 : IntKind.max .u8 = 255 := by kernel_rfl
  simp only [Lit.wf, h1, h2, decide_eq_true_eq, Bool.and_eq_true]
  omega
theorem lit_u8 (d : Nat) (b : UInt8) : Tryd.prog.keyLits (d + 1) 5 [.int .u8 (b.toNat : Int)] = some [.int .u8 (b.toNat : Int)] := by
  unfold Program.keyLits
  simp only [Tryd.underlying5, wf_u8, and_self, if_true]
theorem lits_id16 (a b c d e f g i j k m n o p q r : UInt8) : Tryd.prog.keyLits 3 23 (idA [a, b, c, d, e, f, g, i, j, k, m, n, o, p, q, r]).toList = some ([a, b, c, d, e, f, g, i, j, k, m, n, o, p, q, r].map fun b => .int .u8 (b.toNat : Int)) := by
  unfold Program.keyLits
  rw [Tryd.underlying23]
  simp [cells_id, cells_u8, idA, rowA, idV, List.range_succ, lit_u8]
theorem formed_id16 (a b c d e f g i j k m n o p q r : UInt8) : (Value.agg (idA [a, b, c, d, e, f, g, i, j, k, m, n, o, p, q, r])).formed Tryd.prog 23 = true := by kernel_rfl
theorem lits_id (l : List UInt8) (hl : l.length = 16) : Tryd.prog.keyLits 3 23 (Value.agg (idA l)).cells.toList = some (l.map fun b => .int .u8 (b.toNat : Int)) := by
  match l, hl with
  | [a, b, c, d, e, f, g, i, j, k, m, n, o, p, q, r], _ => exact lits_id16 a b c d e f g i j k m n o p q r
theorem formed_id (l : List UInt8) (hl : l.length = 16) : (Value.agg (idA l)).formed Tryd.prog 23 = true := by
  match l, hl with
  | [a, b, c, d, e, f, g, i, j, k, m, n, o, p, q, r], _ => exact formed_id16 a b c d e f g i j k m n o p q r
theorem eq_id (l m : List UInt8) (hl : l.length = 16) (hm : m.length = 16) (w : World) : (Op.equalIn 10000 23 (.agg (idA l)) (.agg (idA m))).run Tryd.prog w = .ok (l == m) w := by
  obtain ⟨r, h1, h2⟩ := run_equalIn_deep 9997 3 23 key_id w 3 3 _ _ _ _ (formed_id l hl) (formed_id m hm) (lits_id l hl) (lits_id m hm)
  rw [List.map_inj_right (fun a b h => by simp only [Lit.int.injEq, true_and] at h; exact UInt8.toNat_inj.1 (by omega))] at h2
  have hr : r = (l == m) := by
    cases r
    · symm; rw [beq_eq_false_iff_ne]; exact fun e => absurd (h2.2 e) (by simp)
    · symm; rw [beq_iff_eq]; exact h2.1 rfl
  rw [← hr]
  exact h1
end Go.Proofs.YtdjlpmelmhhooaaDoor
