/- The law OtpLate; the chapter's example. -/
import Derived.Test.YtbbjoahloghpkaaGreatDoorOtp1
namespace Go.Proofs.YtbbjoahloghpkaaGreatDoor
open Go Go.RowKit
set_option linter.unusedSimpArgs false
set_option linter.unusedVariables false

theorem mAwake_any (w : World) : Calls Tryz.prog 14 #[] w fun e w' => e = .returned (.bool true) ∧ Below w.heap.size w w' := by
  go_enter Tryz.func14, Tryz.ntmps14
  go_wp2_with (go_at_call 24; refine (hmacAwake_any _).mono ?_; rintro e w1 ⟨rfl, hB⟩)
  go_ret
  exact ⟨rfl, hB⟩
/-- Cells of a state. -/
theorem OSt.read {w : World} {b : Nat} {x y z : Value} (r : RowAt w b 24 #[x, y, z]) : w.cell? ⟨b, 0, none⟩ = some x ∧ w.cell? ⟨b, 1, none⟩ = some y ∧ w.cell? ⟨b, 2, none⟩ = some z := ⟨r.cell rfl, r.cell rfl, r.cell rfl⟩
theorem OSt.readA {w : World} {b : Nat} {x y z : Value} (r : RowAt w b 24 #[x, y, z]) : (∀ o, (w.alloc o).cell? ⟨b, 0, none⟩ = some x) ∧ (∀ o, (w.alloc o).cell? ⟨b, 1, none⟩ = some y) ∧ (∀ o, (w.alloc o).cell? ⟨b, 2, none⟩ = some z) := ⟨fun o => (r.alloc o).cell rfl, fun o => (r.alloc o).cell rfl, fun o => (r.alloc o).cell rfl⟩
theorem enter_at (s u : OSt) (k : Int) (now : Nat) (code said : ByteArray) (he : s.enter (decide (code = said)) now = (u, k)) (ht1 : -9223372036854775808 < s.tries) (ht2 : s.tries ≤ 9223372036854775807) (hc : code.size ≤ 1000000) (hs : said.size ≤ 1000000) (w : World) :
    Calls Tryz.prog 8 #[.agg #[.int .i64 s.tries, .int .u64 (s.dl : Nat), .int .i64 s.over], .string code, .string said, .int .u64 (now : Nat)] w fun e w' => e = .returned (.tuple #[.agg #[.int .i64 u.tries, .int .u64 (u.dl : Nat), .int .i64 u.over], .int .i64 k]) ∧ Below w.heap.size w w' := by
  have := enter_any s now ht1 ht2 code said hc hs w
  rw [he] at this
  exact this
theorem cancel_at (s u : OSt) (b : Bool) (now : Nat) (he : s.cancel now = (u, b)) (w : World) :
    Calls Tryz.prog 11 #[.agg #[.int .i64 s.tries, .int .u64 (s.dl : Nat), .int .i64 s.over], .int .u64 (now : Nat)] w fun e w' => e = .returned (.tuple #[.agg #[.int .i64 u.tries, .int .u64 (u.dl : Nat), .int .i64 u.over], .bool b]) ∧ Below w.heap.size w w' := by
  have := cancel_any s now w
  rw [he] at this
  exact this
theorem begin_at (t : Int) (h1 : 1 ≤ t) (h9 : t ≤ 9) (now wait d : Nat) (hn : now < 18446744073709551616) (hw : wait < 18446744073709551616) (hd : satN now wait = d) (w : World) :
    Calls Tryz.prog 12 #[.int .i64 t, .int .u64 (now : Nat), .int .u64 (wait : Nat)] w fun e w' => e = .returned (.tuple #[.agg #[.int .i64 t, .int .u64 (d : Nat), .int .i64 0], .int .i64 0]) ∧ Below w.heap.size w w' := by
  subst hd
  exact begin_any t h1 h9 now wait hn hw w

def code6 : ByteArray := ⟨#[49, 50, 51, 52, 53, 54]⟩
def zero6 : ByteArray := ⟨#[48, 48, 48, 48, 48, 48]⟩
set_option maxRecDepth 100000 in
set_option maxHeartbeats 8000000 in
theorem otpAwake_any (w : World) : Calls Tryz.prog 4 #[] w fun e w' => e = .returned (.bool true) ∧ Below w.heap.size w w' := by
  have cA := hid mAwake_any
  have cB := hid (fun w => begin_at 1 (by decide) (by decide) 5 10 15 (by decide) (by decide) (by decide) w)
  have cE := hid (fun w => enter_at ⟨1, 15, 0⟩ ⟨0, 15, 2⟩ 2 6 code6 zero6 (by decide) (by decide) (by decide) (by decide) (by decide) w)
  go_enter Tryz.func4, Tryz.ntmps4
  go_wp2_with (first
    | (go_at_call 12; refine (cB.out _).mono ?_; rintro e w1 ⟨rfl, hB1⟩)
    | (go_at_call 8; refine (cE.out _).mono ?_; rintro e w2 ⟨rfl, hB2⟩
       have r1 := (RowAt.new w1 #[.int .i64 1, .int .u64 15, .int .i64 0] 24).below hB2 (by simp)
       have hz := hB2.size)
    | (go_at_call 14; refine (cA.out _).mono ?_; rintro e w3 ⟨rfl, hB3⟩
       obtain ⟨c0, c1, c2⟩ := OSt.read ((r1.alloc _).below hB3 (by simp at hz ⊢; omega))
       obtain ⟨d0, d1, d2⟩ := OSt.read ((RowAt.new w2 _ _).below hB3 (by simp))))
  go_ret
  exact ⟨rfl, below_cat hB3 (below_al (below_cat hB2 (below_al hB1 _)) _)⟩

end Go.Proofs.YtbbjoahloghpkaaGreatDoor
