/- The document's Enter; the law OtpSteps. -/
import Derived.Test.YtbbjoahloghpkaaGreatDoorOtp4
import Derived.Test.YtbbjoahloghpkaaGreatDoorLibA
namespace Go.Proofs.YtbbjoahloghpkaaGreatDoor
open Go Go.RowKit
set_option linter.unusedSimpArgs false
set_option linter.unusedVariables false

theorem infoRo : (Tryz.prog.info? 32).map (·.size) = some 3 := by kernel_rfl
theorem bytes_beq (s t : ByteArray) : (s.toList == t.toList) = decide (s = t) := by
  by_cases h : s = t
  · simp [h]
  · have : ¬ s.toList = t.toList := fun e => h (by
      rw [ByteArray.toList_eq, ByteArray.toList_eq] at e
      exact ByteArray.ext (Array.ext' e))
    simp [h, this]

set_option maxRecDepth 100000 in
set_option maxHeartbeats 8000000 in
theorem refEnter_any (s : OSt) (now : Nat) (ht1 : -9223372036854775808 < s.tries) (ht2 : s.tries ≤ 9223372036854775807) (code said : ByteArray) (w : World) :
    Calls Tryz.prog 9 #[.agg #[.int .i64 s.tries, .int .u64 (s.dl : Nat), .int .i64 s.over], .string code, .string said, .int .u64 (now : Nat)] w fun e w' => e = .returned (.tuple #[(s.enter (decide (code = said)) now).1.v, .int .i64 (s.enter (decide (code = said)) now).2]) ∧ Below w.heap.size w w' := by
  obtain ⟨t, d, o⟩ := s
  dsimp only at ht1 ht2 ⊢
  have hq := bytes_beq said code
  obtain ⟨q, hqq⟩ : ∃ q, q = decide (code = said) := ⟨_, rfl⟩
  rw [show decide (said = code) = q by rw [hqq]; simp [eq_comm]] at hq
  rw [← hqq]
  clear hqq
  have hw : IntKind.i64.wrap (t - 1) = t - 1 := by rw [IntKind.wrap_i64]; omega
  by_cases ho : o = 0
  · subst ho
    by_cases hl : d ≤ now
    · have hl' : (d : Int) ≤ (now : Int) := by omega
      have hlb : decide ((d : Int) ≤ (now : Int)) = true := decide_eq_true hl'
      have he : (OSt.mk t d 0).enter q now = (OSt.mk t d 3, 3) := by simp [OSt.enter, OSt.late, hl]
      rw [he]
      clear he hl
      dsimp only [OSt.v, OSt.cells]
      go_enter Tryz.func9, Tryz.ntmps9
      go_wp2
      exact bodyPost_ret (results_row_tmp rfl _ _ (w.heap.size + 1) 32 (OSt.mk t d 3).cells (0, 0) _ rfl (RowAt.new2 _ _ _ _ _) Tryz.underlying32 rfl (by rw [infoRo]; rfl)) rfl ⟨rfl, below_al (below_al (Below.refl _ _) _) _⟩
    · have hl' : ¬ (d : Int) ≤ (now : Int) := by omega
      have hlb : decide ((d : Int) ≤ (now : Int)) = false := decide_eq_false hl'
      cases q
      · by_cases hp : t - 1 ≤ 0
        · have hpb : decide (t - 1 ≤ 0) = true := decide_eq_true hp
          have he : (OSt.mk t d 0).enter false now = (OSt.mk (t - 1) d 2, 2) := by
            have h2 : ¬ 0 < t - 1 := by omega
            unfold OSt.enter OSt.late
            simp only [hl]
            simp [h2]
            omega
          rw [he]
          clear he hl
          dsimp only [OSt.v, OSt.cells]
          go_enter Tryz.func9, Tryz.ntmps9
          go_wp2
          exact bodyPost_ret (results_row_tmp rfl _ _ (w.heap.size + 1) 32 (OSt.mk (t - 1) d 2).cells (0, 0) _ rfl (RowAt.new2 _ _ _ _ _) Tryz.underlying32 rfl (by rw [infoRo]; rfl)) rfl ⟨rfl, below_al (below_al (Below.refl _ _) _) _⟩
        · have hpb : decide (t - 1 ≤ 0) = false := decide_eq_false hp
          have he : (OSt.mk t d 0).enter false now = (OSt.mk (t - 1) d 0, 5) := by
            have h2 : 0 < t - 1 := by omega
            unfold OSt.enter OSt.late
            simp only [hl]
            simp [h2]
            omega
          rw [he]
          clear he hl
          dsimp only [OSt.v, OSt.cells]
          go_enter Tryz.func9, Tryz.ntmps9
          go_wp2
          exact bodyPost_ret (results_row_tmp rfl _ _ (w.heap.size + 1) 32 (OSt.mk (t - 1) d 0).cells (0, 0) _ rfl (RowAt.new2 _ _ _ _ _) Tryz.underlying32 rfl (by rw [infoRo]; rfl)) rfl ⟨rfl, below_al (below_al (Below.refl _ _) _) _⟩
      · have he : (OSt.mk t d 0).enter true now = (OSt.mk t d 1, 1) := by simp [OSt.enter, OSt.late, hl]
        rw [he]
        clear he hl
        dsimp only [OSt.v, OSt.cells]
        go_enter Tryz.func9, Tryz.ntmps9
        go_wp2
        exact bodyPost_ret (results_row_tmp rfl _ _ (w.heap.size + 1) 32 (OSt.mk t d 1).cells (0, 0) _ rfl (RowAt.new2 _ _ _ _ _) Tryz.underlying32 rfl (by rw [infoRo]; rfl)) rfl ⟨rfl, below_al (below_al (Below.refl _ _) _) _⟩
  · have hob : (o != 0) = true := by rw [bne_iff_ne]; exact ho
    have he : (OSt.mk t d o).enter q now = (OSt.mk t d o, o) := by simp [OSt.enter, OSt.late, ho]
    rw [he]
    clear he
    dsimp only [OSt.v, OSt.cells]
    go_enter Tryz.func9, Tryz.ntmps9
    go_wp2
    go_region
    all_goals go_wp2
    all_goals exact bodyPost_ret (results_row_tmp rfl _ _ (w.heap.size + 1) 32 (OSt.mk t d o).cells (0, 0) _ rfl (RowAt.new2 _ _ _ _ _).drew Tryz.underlying32 rfl (by rw [infoRo]; rfl)) rfl ⟨rfl, (below_al (below_al (Below.refl _ _) _) _).drew⟩
set_option maxRecDepth 100000 in
theorem small_any (s : OSt) (b : Bool) (hb : decide (-9223372036854775808 < s.tries) = b) (w : World) :
    Calls Tryz.prog 5 #[.agg #[.int .i64 s.tries, .int .u64 (s.dl : Nat), .int .i64 s.over]] w fun e w' => e = .returned (.bool b) ∧ Below w.heap.size w w' := by
  obtain ⟨t, d, o⟩ := s
  dsimp only at hb ⊢
  go_enter Tryz.func5, Tryz.ntmps5
  go_wp2
  go_ret
  exact ⟨rfl, below_al (Below.refl _ _) _⟩

theorem readT {w : World} {b : Nat} {t : TypeId} {x y z : Value} (r : RowAt w b t #[x, y, z]) : w.cell? ⟨b, 0, none⟩ = some x ∧ w.cell? ⟨b, 1, none⟩ = some y ∧ w.cell? ⟨b, 2, none⟩ = some z := ⟨r.cell rfl, r.cell rfl, r.cell rfl⟩
theorem readAT {w : World} {b : Nat} {t : TypeId} {x y z : Value} (r : RowAt w b t #[x, y, z]) : (∀ o, (w.alloc o).cell? ⟨b, 0, none⟩ = some x) ∧ (∀ o, (w.alloc o).cell? ⟨b, 1, none⟩ = some y) ∧ (∀ o, (w.alloc o).cell? ⟨b, 2, none⟩ = some z) := ⟨fun o => (r.alloc o).cell rfl, fun o => (r.alloc o).cell rfl, fun o => (r.alloc o).cell rfl⟩
theorem readQ {w : World} {b : Nat} {t : TypeId} {x y z : Value} (r : RowAt w b t #[x, y, z]) : (∀ q : Sub w, q.x.cell? ⟨b, 0, none⟩ = some x) ∧ (∀ q : Sub w, q.x.cell? ⟨b, 1, none⟩ = some y) ∧ (∀ q : Sub w, q.x.cell? ⟨b, 2, none⟩ = some z) := ⟨fun q => q.cell r rfl, fun q => q.cell r rfl, fun q => q.cell r rfl⟩
theorem RowAt.newSS (w : World) (A B C : Array Value) (t u v : TypeId) : RowAt (((w.alloc (.cells A t)).alloc (.cells B u)).alloc (.cells C v)) (w.heap.size + 1 + 1) v C := by
  have := RowAt.newS (w.alloc (.cells A t)) B C u v
  rwa [World.size_alloc] at this
theorem refEnter_at (s u : OSt) (k : Int) (now : Nat) (code said : ByteArray) (he : s.enter (decide (code = said)) now = (u, k)) (ht1 : -9223372036854775808 < s.tries) (ht2 : s.tries ≤ 9223372036854775807) (w : World) :
    Calls Tryz.prog 9 #[.agg #[.int .i64 s.tries, .int .u64 (s.dl : Nat), .int .i64 s.over], .string code, .string said, .int .u64 (now : Nat)] w fun e w' => e = .returned (.tuple #[.agg #[.int .i64 u.tries, .int .u64 (u.dl : Nat), .int .i64 u.over], .int .i64 k]) ∧ Below w.heap.size w w' := by
  have := refEnter_any s now ht1 ht2 code said w
  rw [he] at this
  exact this
theorem begin_gen (t : Int) (now wait d : Nat) (hn : now < 18446744073709551616) (hw : wait < 18446744073709551616) (hd : satN now wait = d) (u : OSt) (k : Int) (h : (1 ≤ t ∧ t ≤ 9 ∧ u = ⟨t, d, 0⟩ ∧ k = 0) ∨ ((t < 1 ∨ 9 < t) ∧ u = ⟨0, 0, 0⟩ ∧ k = 7)) (w : World) :
    Calls Tryz.prog 12 #[.int .i64 t, .int .u64 (now : Nat), .int .u64 (wait : Nat)] w fun e w' => e = .returned (.tuple #[.agg #[.int .i64 u.tries, .int .u64 (u.dl : Nat), .int .i64 u.over], .int .i64 k]) ∧ Below w.heap.size w w' := by
  rcases h with ⟨h1, h9, rfl, rfl⟩ | ⟨h, rfl, rfl⟩
  · exact begin_at t h1 h9 now wait d hn hw hd w
  · exact begin_bad t h now wait w

set_option maxRecDepth 100000 in
set_option maxHeartbeats 40000000 in
theorem otpSteps_small (t : Int) (d : Nat) (o : Int) (key said : ByteArray) (l : List UInt8) (now wait : Nat) (right : Bool) (hk : key.size ≤ 200) (hs : said.size ≤ 200) (ht1 : -9223372036854775808 < t) (ht2 : t ≤ 9223372036854775807) (hl : l.length = 16)
    (hn : now < 18446744073709551616) (hw : wait < 18446744073709551616) (w : World) (ht : PowTab w) :
    Calls Tryz.prog 3 #[.agg #[.int .i64 t, .int .u64 (d : Nat), .int .i64 o], .string key, .string said, .agg (idA l), .int .u64 (now : Nat), .int .u64 (wait : Nat), .bool right] w fun e w' => e = .returned (.bool true) ∧ Below w.heap.size w w' := by
  have cA := hid otpAwake_any
  obtain ⟨M, hM⟩ : ∃ M : Nat, M = max key.size said.size := ⟨_, rfl⟩
  have hmx := fun ts t w => run_mx2 (P := Tryz.prog) ts t .i64 (key.size : Int) (said.size : Int) w
  rw [show max (key.size : Int) (said.size : Int) = (M : Int) by omega] at hmx
  have h1 : ¬ (200 : Int) < (M : Int) := by omega
  have h1' : decide ((200 : Int) < (M : Int)) = false := decide_eq_false h1
  have cS := hid (fun w => small_any ⟨t, d, o⟩ true (decide_eq_true ht1) w)
  have cC0 := fun w ht => ocode_any key (by omega) l hl w ht
  have cR0 := fun w => refOcode_any key (by omega) l hl w
  have hCs := ocodeS_size key l
  obtain ⟨C, hC⟩ : ∃ C, C = ocodeS key l := ⟨_, rfl⟩
  simp only [← hC] at cC0 cR0
  rw [← hC] at hCs
  have cC := hid cC0
  have cR := hid cR0
  clear cC0 cR0 hC hM
  have cL := hid (fun w => later_any now wait hn hw w)
  -- what is entered
  obtain ⟨S, hS, hSs⟩ : ∃ S : ByteArray, S = (if right then C else said) ∧ S.size ≤ 200 := ⟨_, rfl, by cases right <;> simp <;> omega⟩
  obtain ⟨⟨⟨ut, ud, uo⟩, k⟩, huk⟩ : ∃ p : OSt × Int, p = (OSt.mk t d o).enter (decide (C = S)) now := ⟨_, rfl⟩
  have cE := hid (fun w => enter_at ⟨t, d, o⟩ ⟨ut, ud, uo⟩ k now C S huk.symm ht1 ht2 (by omega) (by omega) w)
  have cF := hid (fun w => refEnter_at ⟨t, d, o⟩ ⟨ut, ud, uo⟩ k now C S huk.symm ht1 ht2 w)
  clear huk
  -- the state
  have way : (∃ b, o ≠ 0 ∧ b = true) ∨ (o = 0 ∧ d ≤ now) ∨ (o = 0 ∧ ¬ d ≤ now) := by
    by_cases h : o = 0
    · by_cases h2 : d ≤ now
      · exact .inr (.inl ⟨h, h2⟩)
      · exact .inr (.inr ⟨h, h2⟩)
    · exact .inl ⟨true, h, rfl⟩
  have tries : ∃ (b1 b2 : Bool) (u : OSt) (kk : Int), decide (t < 1) = b1 ∧ decide (9 < t) = b2 ∧ ((1 ≤ t ∧ t ≤ 9 ∧ u = ⟨t, satN now wait, 0⟩ ∧ kk = 0) ∨ ((t < 1 ∨ 9 < t) ∧ u = ⟨0, 0, 0⟩ ∧ kk = 7)) ∧ ((b1 = false ∧ b2 = false ∧ u = ⟨t, satN now wait, 0⟩ ∧ kk = 0) ∨ (b1 = true ∧ u = ⟨0, 0, 0⟩ ∧ kk = 7) ∨ (b1 = false ∧ b2 = true ∧ u = ⟨0, 0, 0⟩ ∧ kk = 7)) := by
    by_cases h : t < 1
    · exact ⟨true, _, ⟨0, 0, 0⟩, 7, decide_eq_true h, rfl, .inr ⟨.inl h, rfl, rfl⟩, .inr (.inl ⟨rfl, rfl, rfl⟩)⟩
    · by_cases h9 : 9 < t
      · exact ⟨false, true, ⟨0, 0, 0⟩, 7, decide_eq_false h, decide_eq_true h9, .inr ⟨.inr h9, rfl, rfl⟩, .inr (.inr ⟨rfl, rfl, rfl, rfl⟩)⟩
      · exact ⟨false, false, ⟨t, satN now wait, 0⟩, 0, decide_eq_false h, decide_eq_false h9, .inl ⟨by omega, by omega, rfl, rfl⟩, .inl ⟨rfl, rfl, rfl, rfl⟩⟩
  obtain ⟨b1, b2, u7, kk, hh, hh9, hb0, tries⟩ := tries
  have cB := hid (fun w => begin_gen t now wait (satN now wait) hn hw rfl u7 kk hb0 w)
  clear hb0
  rcases way with ⟨_, ho, _⟩ | ⟨rfl, hd⟩ | ⟨rfl, hd⟩
  case' inl =>
    have hob : (o == 0) = false := by rw [beq_eq_false_iff_ne]; exact ho
    have hlt : (OSt.mk t d o).late now = false := by simp [OSt.late, ho]
    have cT := hid (fun w => tick_at ⟨t, d, o⟩ ⟨t, d, o⟩ false now (by simp [OSt.tick, hlt]) hlt w)
    have cK := hid (fun w => cancel_at ⟨t, d, o⟩ ⟨t, d, o⟩ false now (by unfold OSt.cancel; rw [hlt]; simp [ho]) w)
  case' inr.inl =>
    have hdi : (d : Int) ≤ (now : Int) := by omega
    have hdb : decide ((d : Int) ≤ (now : Int)) = true := decide_eq_true hdi
    have hlt : (OSt.mk t d 0).late now = true := by simp [OSt.late, hd]
    have cT := hid (fun w => tick_at ⟨t, d, 0⟩ ⟨t, d, 3⟩ true now (by simp [OSt.tick, hlt]) hlt w)
    have cK := hid (fun w => cancel_at ⟨t, d, 0⟩ ⟨t, d, 3⟩ true now (by unfold OSt.cancel; rw [hlt]; simp) w)
  case' inr.inr =>
    have hdi : ¬ (d : Int) ≤ (now : Int) := by omega
    have hdb : decide ((d : Int) ≤ (now : Int)) = false := decide_eq_false hdi
    have hlt : (OSt.mk t d 0).late now = false := by simp [OSt.late, hd]
    have cT := hid (fun w => tick_at ⟨t, d, 0⟩ ⟨t, d, 0⟩ false now (by simp [OSt.tick, hlt]) hlt w)
    have cK := hid (fun w => cancel_at ⟨t, d, 0⟩ ⟨t, d, 4⟩ true now (by unfold OSt.cancel; rw [hlt]; simp) w)
  all_goals
    clear hlt
    rcases tries with ⟨rfl, rfl, rfl, rfl⟩ | ⟨rfl, rfl, rfl⟩ | ⟨rfl, rfl, rfl, rfl⟩
    all_goals
      obtain ⟨sat, hsat⟩ : ∃ s, s = satN now wait := ⟨_, rfl⟩
      rw [← hsat] at cL
      first | rw [← hsat] at cB | skip
      clear hsat
      cases right
      all_goals
        simp only [Bool.false_eq_true, if_false, if_true] at hS
        subst hS
        replace ht := hid ht
        dsimp only at cT cK cB cE cF cS
        go_enter Tryz.func3, Tryz.ntmps3
        go_wp2_with (first
          | (go_at_call 4; with_reducible refine (cA.out _).mono ?_; rintro e w1 ⟨rfl, hB1⟩
             have r0 := hid (RowAt.below (RowAt.alloc (RowAt.new w _ _) _) hB1 (RowAt.lt (RowAt.alloc (RowAt.new w _ _) _)))
             have r1 := hid (RowAt.below (RowAt.newS w _ _ _ _) hB1 (RowAt.lt (RowAt.newS w _ _ _ _)))
             have hb := hid (below_cat hB1 (below_al (below_al (Below.refl w.heap.size w) _) _))
             obtain ⟨c0, c1, c2⟩ := readT r0.out
             have cz := r0.out.lt
             have cz1 := Nat.lt_succ_of_lt cz
             have cz2 := Nat.lt_succ_of_lt cz1)
          | (go_at_call 5; with_reducible refine (cS.out _).mono ?_; rintro e w2 ⟨rfl, hB2⟩
             replace r0 := hid (RowAt.below r0.out hB2 (RowAt.lt r0.out))
             replace r1 := hid (RowAt.below r1.out hB2 (RowAt.lt r1.out))
             replace hb := hid (below_cat hB2 hb.out))
          | (refine wpList_load_row rfl 26 _ rfl (w.heap.size + 1) rfl 26 (idA l) (0, 0) _ r1.out Tryz.underlying26 rfl (by rw [info16, idA_size]) ?_)
          | (go_at_call 6; with_reducible refine (cC.out _ (ht.out.below hb.out)).mono ?_; rintro e w3 ⟨rfl, hB3⟩
             replace r0 := hid (RowAt.below r0.out hB3 (RowAt.lt r0.out))
             replace r1 := hid (RowAt.below r1.out hB3 (RowAt.lt r1.out))
             replace hb := hid (below_cat hB3 hb.out))
          | (go_at_call 7; with_reducible refine (cR.out _).mono ?_; rintro e w4 ⟨rfl, hB4⟩
             replace r0 := hid (RowAt.below r0.out hB4 (RowAt.lt r0.out))
             replace hb := hid (below_cat hB4 hb.out)
             clear r1
             obtain ⟨d0, d1, d2⟩ := readT r0.out
             have dz := r0.out.lt
             have dz1 := Nat.lt_succ_of_lt dz
             have dz2 := Nat.lt_succ_of_lt dz1)
          | (go_at_call 8; with_reducible refine (cE.out _).mono ?_; rintro e w5 ⟨rfl, hB5⟩
             replace r0 := hid (RowAt.below r0.out hB5 (RowAt.lt r0.out))
             replace hb := hid (below_cat hB5 hb.out)
             obtain ⟨e0, e1, e2⟩ := readT r0.out
             have ez := r0.out.lt
             have ez1 := Nat.lt_succ_of_lt ez
             have ez2 := Nat.lt_succ_of_lt ez1)
          | (go_at_call 9; with_reducible refine (cF.out _).mono ?_; rintro e w6 ⟨rfl, hB6⟩
             replace r0 := hid (RowAt.below (RowAt.alloc (r0.out) _) hB6 (RowAt.lt (RowAt.alloc (r0.out) _)))
             have r16 := hid (RowAt.below (RowAt.new w5 _ _) hB6 (RowAt.lt (RowAt.new w5 _ _)))
             replace hb := hid (below_cat hB6 (below_al hb.out _))
             obtain ⟨f0, f1, f2⟩ := readT r0.out
             have fz := r0.out.lt
             have fz1 := Nat.lt_succ_of_lt fz
             have fz2 := Nat.lt_succ_of_lt fz1)
          | (go_at_call 10; with_reducible refine (cT.out _).mono ?_; rintro e w7 ⟨rfl, hB7⟩
             replace r0 := hid (RowAt.below (RowAt.alloc (r0.out) _) hB7 (RowAt.lt (RowAt.alloc (r0.out) _)))
             replace r16 := hid (RowAt.below (RowAt.alloc (r16.out) _) hB7 (RowAt.lt (RowAt.alloc (r16.out) _)))
             have r18 := hid (RowAt.below (RowAt.new w6 _ _) hB7 (RowAt.lt (RowAt.new w6 _ _)))
             replace hb := hid (below_cat hB7 (below_al hb.out _))
             obtain ⟨g0, g1, g2⟩ := readT r0.out
             have gz := r0.out.lt
             have gz1 := Nat.lt_succ_of_lt gz
             have gz2 := Nat.lt_succ_of_lt gz1)
          | (go_at_call 11; with_reducible refine (cK.out _).mono ?_; rintro e w8 ⟨rfl, hB8⟩
             replace r0 := hid (RowAt.below (RowAt.alloc (r0.out) _) hB8 (RowAt.lt (RowAt.alloc (r0.out) _)))
             replace r16 := hid (RowAt.below (RowAt.alloc (r16.out) _) hB8 (RowAt.lt (RowAt.alloc (r16.out) _)))
             replace r18 := hid (RowAt.below (RowAt.alloc (r18.out) _) hB8 (RowAt.lt (RowAt.alloc (r18.out) _)))
             have r21 := hid (RowAt.below (RowAt.new w7 _ _) hB8 (RowAt.lt (RowAt.new w7 _ _)))
             replace hb := hid (below_cat hB8 (below_al hb.out _))
             obtain ⟨h0, h1, h2⟩ := readT r0.out
             have hz := r0.out.lt
             have hz1 := Nat.lt_succ_of_lt hz
             have hz2 := Nat.lt_succ_of_lt hz1)
          | (go_at_call 12; with_reducible refine (cB.out _).mono ?_; rintro e w9 ⟨rfl, hB9⟩
             replace r0 := hid (RowAt.below (RowAt.alloc ((RowAt.alloc ((RowAt.alloc (r0.out) _)) _)) _) hB9 (RowAt.lt (RowAt.alloc ((RowAt.alloc ((RowAt.alloc (r0.out) _)) _)) _)))
             replace r16 := hid (RowAt.below (RowAt.alloc ((RowAt.alloc ((RowAt.alloc (r16.out) _)) _)) _) hB9 (RowAt.lt (RowAt.alloc ((RowAt.alloc ((RowAt.alloc (r16.out) _)) _)) _)))
             replace r18 := hid (RowAt.below (RowAt.alloc ((RowAt.alloc ((RowAt.alloc (r18.out) _)) _)) _) hB9 (RowAt.lt (RowAt.alloc ((RowAt.alloc ((RowAt.alloc (r18.out) _)) _)) _)))
             replace r21 := hid (RowAt.below (RowAt.alloc ((RowAt.alloc ((RowAt.alloc (r21.out) _)) _)) _) hB9 (RowAt.lt (RowAt.alloc ((RowAt.alloc ((RowAt.alloc (r21.out) _)) _)) _)))
             have r23 := hid (RowAt.below (RowAt.alloc (RowAt.alloc (RowAt.new w8 _ _) _) _) hB9 (RowAt.lt (RowAt.alloc (RowAt.alloc (RowAt.new w8 _ _) _) _)))
             have r25 := hid (RowAt.below (RowAt.alloc (RowAt.newS w8 _ _ _ _) _) hB9 (RowAt.lt (RowAt.alloc (RowAt.newS w8 _ _ _ _) _)))
             have r26 := hid (RowAt.below (RowAt.newSS w8 _ _ _ _ _ _) hB9 (RowAt.lt (RowAt.newSS w8 _ _ _ _ _ _)))
             replace hb := hid (below_cat hB9 (below_al (below_al (below_al hb.out _) _) _))
             obtain ⟨i0, i1, i2⟩ := readAT r0.out
             obtain ⟨j0, j1, j2⟩ := readAT r16.out
             obtain ⟨k0, k1, k2⟩ := readAT r18.out
             obtain ⟨m0, m1, m2⟩ := readAT r21.out
             obtain ⟨n0, n1, n2⟩ := readAT r23.out
             obtain ⟨o0, o1, o2⟩ := readAT r25.out
             obtain ⟨p0, p1, p2⟩ := readAT r26.out
             clear hB1 hB2 hB3 hB4 hB5 hB6 hB7 hB8 hB9))
        first
          | (go_ret; exact ⟨rfl, below_al hb.out _⟩)
          | (obtain ⟨qa0, qa1, qa2⟩ := readQ (r0.out.alloc (.cells #[.int .i64 t, .int .u64 (sat : Nat), .int .i64 0] 24))
             obtain ⟨qb0, qb1, qb2⟩ := readQ (r16.out.alloc (.cells #[.int .i64 t, .int .u64 (sat : Nat), .int .i64 0] 24))
             obtain ⟨qc0, qc1, qc2⟩ := readQ (r18.out.alloc (.cells #[.int .i64 t, .int .u64 (sat : Nat), .int .i64 0] 24))
             obtain ⟨qd0, qd1, qd2⟩ := readQ (r21.out.alloc (.cells #[.int .i64 t, .int .u64 (sat : Nat), .int .i64 0] 24))
             obtain ⟨qe0, qe1, qe2⟩ := readQ (r23.out.alloc (.cells #[.int .i64 t, .int .u64 (sat : Nat), .int .i64 0] 24))
             obtain ⟨qf0, qf1, qf2⟩ := readQ (r25.out.alloc (.cells #[.int .i64 t, .int .u64 (sat : Nat), .int .i64 0] 24))
             obtain ⟨qg0, qg1, qg2⟩ := readQ (r26.out.alloc (.cells #[.int .i64 t, .int .u64 (sat : Nat), .int .i64 0] 24))
             obtain ⟨qh0, qh1, qh2⟩ := readQ (RowAt.new w9 #[.int .i64 t, .int .u64 (sat : Nat), .int .i64 0] 24)
             refine wp_region_sub (by kernel_rfl) (by kernel_rfl) ?_
             repeat (go_big_quiet_step (first | (go_at_call 13; with_reducible refine Sub.same _ (cL.out _))))
             refine wpQuiet_nil ?_
             intro q
             go_wp2
             go_ret
             exact ⟨rfl, below_cat q.h (below_al hb.out _)⟩)
end Go.Proofs.YtbbjoahloghpkaaGreatDoor
