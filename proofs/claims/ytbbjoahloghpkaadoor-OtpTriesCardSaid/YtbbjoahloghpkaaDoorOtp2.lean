/- The law OtpLate; the chapter's example. -/
import Derived.Test.YtbbjoahloghpkaaDoorOtp1
namespace Go.Proofs.YtbbjoahloghpkaaDoor
open Go Go.RowKit
set_option linter.unusedSimpArgs false
set_option linter.unusedVariables false

theorem mAwake_any (w : World) : Calls Tryd.prog 65 #[] w fun e w' => e = .returned (.bool true) ∧ Below w.heap.size w w' := by
  go_enter Tryd.func65, Tryd.ntmps65
  go_wp2_with (go_at_call 22; refine (hmacAwake_any _).mono ?_; rintro e w1 ⟨rfl, hB⟩)
  go_ret
  exact ⟨rfl, hB⟩
/-- Cells of a state. -/
theorem OSt.read {w : World} {b : Nat} {x y z : Value} (r : RowAt w b 47 #[x, y, z]) : w.cell? ⟨b, 0, none⟩ = some x ∧ w.cell? ⟨b, 1, none⟩ = some y ∧ w.cell? ⟨b, 2, none⟩ = some z := ⟨r.cell rfl, r.cell rfl, r.cell rfl⟩
theorem OSt.readA {w : World} {b : Nat} {x y z : Value} (r : RowAt w b 47 #[x, y, z]) : (∀ o, (w.alloc o).cell? ⟨b, 0, none⟩ = some x) ∧ (∀ o, (w.alloc o).cell? ⟨b, 1, none⟩ = some y) ∧ (∀ o, (w.alloc o).cell? ⟨b, 2, none⟩ = some z) := ⟨fun o => (r.alloc o).cell rfl, fun o => (r.alloc o).cell rfl, fun o => (r.alloc o).cell rfl⟩
theorem enter_at (s u : OSt) (k : Int) (now : Nat) (code said : ByteArray) (he : s.enter (decide (code = said)) now = (u, k)) (ht1 : -9223372036854775808 < s.tries) (ht2 : s.tries ≤ 9223372036854775807) (hc : code.size ≤ 1000000) (hs : said.size ≤ 1000000) (w : World) :
    Calls Tryd.prog 35 #[.agg #[.int .i64 s.tries, .int .u64 (s.dl : Nat), .int .i64 s.over], .string code, .string said, .int .u64 (now : Nat)] w fun e w' => e = .returned (.tuple #[.agg #[.int .i64 u.tries, .int .u64 (u.dl : Nat), .int .i64 u.over], .int .i64 k]) ∧ Below w.heap.size w w' := by
  have := enter_any s now ht1 ht2 code said hc hs w
  rw [he] at this
  exact this
theorem cancel_at (s u : OSt) (b : Bool) (now : Nat) (he : s.cancel now = (u, b)) (w : World) :
    Calls Tryd.prog 36 #[.agg #[.int .i64 s.tries, .int .u64 (s.dl : Nat), .int .i64 s.over], .int .u64 (now : Nat)] w fun e w' => e = .returned (.tuple #[.agg #[.int .i64 u.tries, .int .u64 (u.dl : Nat), .int .i64 u.over], .bool b]) ∧ Below w.heap.size w w' := by
  have := cancel_any s now w
  rw [he] at this
  exact this
theorem begin_at (t : Int) (h1 : 1 ≤ t) (h9 : t ≤ 9) (now wait d : Nat) (hn : now < 18446744073709551616) (hw : wait < 18446744073709551616) (hd : satN now wait = d) (w : World) :
    Calls Tryd.prog 34 #[.int .i64 t, .int .u64 (now : Nat), .int .u64 (wait : Nat)] w fun e w' => e = .returned (.tuple #[.agg #[.int .i64 t, .int .u64 (d : Nat), .int .i64 0], .int .i64 0]) ∧ Below w.heap.size w w' := by
  subst hd
  exact begin_any t h1 h9 now wait hn hw w

def code6 : ByteArray := ⟨#[49, 50, 51, 52, 53, 54]⟩
def zero6 : ByteArray := ⟨#[48, 48, 48, 48, 48, 48]⟩
set_option maxRecDepth 100000 in
set_option maxHeartbeats 8000000 in
theorem otpAwake_any (w : World) : Calls Tryd.prog 33 #[] w fun e w' => e = .returned (.bool true) ∧ Below w.heap.size w w' := by
  have cA := hid mAwake_any
  have cB := hid (fun w => begin_at 1 (by decide) (by decide) 5 10 15 (by decide) (by decide) (by decide) w)
  have cE := hid (fun w => enter_at ⟨1, 15, 0⟩ ⟨0, 15, 2⟩ 2 6 code6 zero6 (by decide) (by decide) (by decide) (by decide) (by decide) w)
  go_enter Tryd.func33, Tryd.ntmps33
  go_wp2_with (first
    | (go_at_call 34; refine (cB.out _).mono ?_; rintro e w1 ⟨rfl, hB1⟩)
    | (go_at_call 35; refine (cE.out _).mono ?_; rintro e w2 ⟨rfl, hB2⟩
       have r1 := (RowAt.new w1 #[.int .i64 1, .int .u64 15, .int .i64 0] 47).below hB2 (by simp)
       have hz := hB2.size)
    | (go_at_call 65; refine (cA.out _).mono ?_; rintro e w3 ⟨rfl, hB3⟩
       obtain ⟨c0, c1, c2⟩ := OSt.read ((r1.alloc _).below hB3 (by simp at hz ⊢; omega))
       obtain ⟨d0, d1, d2⟩ := OSt.read ((RowAt.new w2 _ _).below hB3 (by simp))))
  go_ret
  exact ⟨rfl, below_cat hB3 (below_al (below_cat hB2 (below_al hB1 _)) _)⟩

set_option maxRecDepth 100000 in
set_option maxHeartbeats 8000000 in
theorem otpLate_walk (a0 : Int) (a1 a2 : ByteArray) (a3 a4 : Int) (w0 : (Lit.int .u8 a0).wf = true) (w1 : a1.size ≤ 140737488351232) (w2 : a2.size ≤ 140737488351232) (w3 : (Lit.int .u64 a3).wf = true) (w4 : (Lit.int .u64 a4).wf = true) (w : World) :
    Calls Tryd.prog 8 #[.int .u8 a0, .string a1, .string a2, .int .u64 a3, .int .u64 a4] w fun e w' => e = .returned (.bool true) ∧ Below w.heap.size w w' := by
  have cA := hid otpAwake_any
  obtain ⟨x, rfl, hx⟩ := u64_of_wf w3
  obtain ⟨y, rfl, hy⟩ := u64_of_wf w4
  obtain ⟨b0, b1⟩ := bounds_u8 w0
  clear w0 w3 w4
  obtain ⟨M, hM⟩ : ∃ M : Nat, M = max a1.size a2.size := ⟨_, rfl⟩
  have hmx := fun ts t w => run_mx2 (P := Tryd.prog) ts t .i64 (a1.size : Int) (a2.size : Int) w
  rw [show max (a1.size : Int) (a2.size : Int) = (M : Int) by omega] at hmx
  by_cases hbig : M ≤ 60
  · have h1 : ¬ (60 : Int) < (M : Int) := by omega
    have h1' : decide ((60 : Int) < (M : Int)) = false := decide_eq_false h1
    have hs1 : a1.size ≤ 1000000 := by omega
    have hs2 : a2.size ≤ 1000000 := by omega
    clear hM w1 w2
    obtain ⟨q, hq⟩ : ∃ q : Int, q = 1 + a0 % 9 := ⟨_, rfl⟩
    have hq1 : 1 ≤ q := by omega
    have hq9 : q ≤ 9 := by omega
    have hqi : (1 : Int) + a0 % 9 = q := hq.symm
    obtain ⟨m, hm⟩ : ∃ m : Nat, m = max x y := ⟨_, rfl⟩
    have hmi : max (x : Int) (y : Int) = (m : Int) := by omega
    have hmx2 := fun ts t w => run_mx2 (P := Tryd.prog) ts t .u64 (x : Int) (y : Int) w
    rw [hmi] at hmx2
    have cB := hid (fun w => begin_at q hq1 hq9 0 x x (by decide) hx (by unfold satN; rw [if_neg (by omega)]; omega) w)
    have hl : (OSt.mk q x 0).late m = true := by simp [OSt.late]; omega
    have cE := hid (fun w => enter_at ⟨q, x, 0⟩ ⟨q, x, 3⟩ 3 m a1 a1 (by unfold OSt.enter; rw [hl]; rfl) (by show _ < q; omega) (by show q ≤ _; omega) hs1 hs1 w)
    have hn : ∀ z, (OSt.mk q x 3).late z = false := fun z => by simp [OSt.late]
    have cF0 := (fun w => enter_at ⟨q, x, 3⟩ ⟨q, x, 3⟩ 3 0 a1 a2 (by unfold OSt.enter; rw [hn]; rfl) (by show _ < q; omega) (by show q ≤ _; omega) hs1 hs2 w)
    rw [show ((0 : Nat) : Int) = 0 from rfl] at cF0
    have cF := hid cF0
    clear cF0
    have cC := hid (fun w => cancel_at ⟨q, x, 3⟩ ⟨q, x, 3⟩ false 0 (by unfold OSt.cancel; rw [hn]; rfl) w)
    have cT := hid (fun w => tick_at ⟨q, x, 3⟩ ⟨q, x, 3⟩ false m (by unfold OSt.tick; rw [hn]; rfl) (hn m) w)
    clear hq hm hl hn
    go_enter Tryd.func8, Tryd.ntmps8
    go_wp2_with (first
      | (go_at_call 33; refine (cA.out _).mono ?_; rintro e w1 ⟨rfl, hB1⟩)
      | (go_at_call 34; refine (cB.out _).mono ?_; rintro e w2 ⟨rfl, hB2⟩)
      | (go_at_call 35; with_reducible refine (cE.out _).mono ?_; rintro e w3 ⟨rfl, hB3⟩
         have r1 := (RowAt.new w2 _ _).below hB3 (by simp)
         have z1 := hB3.size)
      | (go_at_call 35; with_reducible refine (cF.out _).mono ?_; rintro e w4 ⟨rfl, hB4⟩
         have r2 := (RowAt.new w3 _ _).below hB4 (by simp)
         have z2 := hB4.size
         obtain ⟨i0, i1, i2⟩ := OSt.readA r2)
      | (go_at_call 36; refine (cC.out _).mono ?_; rintro e w5 ⟨rfl, hB5⟩
         have r3 := (RowAt.new w4 _ _).below hB5 (by simp)
         have z4 := hB5.size
         have r2' := (r2.alloc _).below hB5 (by simp at z2 ⊢; omega)
         obtain ⟨j0, j1, j2⟩ := OSt.readA r2')
      | (go_at_call 37; refine (cT.out _).mono ?_; rintro e w6 ⟨rfl, hB6⟩
         have r4 := (RowAt.new w5 _ _).below hB6 (by simp)
         have r3' := (r3.alloc _).below hB6 (by simp at z4 ⊢; omega)
         have r2'' := (r2'.alloc _).below hB6 (by simp at z2 z4 ⊢; omega)
         have r1'' := (((((r1.alloc _).below hB4 (by simp at z1 ⊢; omega)).alloc _).below hB5 (by simp at z1 z2 ⊢; omega)).alloc _).below hB6 (by simp at z1 z2 z4 ⊢; omega)
         have z6 := hB6.size
         obtain ⟨k0, k1, k2⟩ := OSt.readA r2''
         obtain ⟨l0, l1, l2⟩ := OSt.readA r3'
         obtain ⟨m0, m1, m2⟩ := OSt.readA r4
         obtain ⟨n0, n1, n2⟩ := OSt.readA r1''
         have hb := hid (below_cat hB6 (below_al (below_cat hB5 (below_al (below_cat hB4 (below_al (below_cat hB3 (below_al (below_cat hB2 hB1) _)) _)) _)) _))
         clear hB1 hB2 hB3 hB4 hB5 hB6 r1 r2 r3 r4 r1'' r2'' r3' r2'))
    go_ret
    exact ⟨rfl, below_al hb.out _⟩
  · have h1 : (60 : Int) < (M : Int) := by omega
    have h1' : decide ((60 : Int) < (M : Int)) = true := decide_eq_true h1
    clear hM
    go_enter Tryd.func8, Tryd.ntmps8
    go_wp2_with (go_at_call 33; refine (cA.out _).mono ?_; rintro e w1 ⟨rfl, hB1⟩)
    go_ret
    exact ⟨rfl, hB1⟩
end Go.Proofs.YtbbjoahloghpkaaDoor
