/- Challenges: Begin, Tick, Enter, Cancel: the walks. -/
import Derived.Test.YtbbjoahloghpkaaDoorHmA
import Derived.Test.YtbbjoahloghpkaaDoorOctX
namespace Go.Proofs.YtbbjoahloghpkaaDoor
open Go Go.RowKit
set_option linter.unusedSimpArgs false
set_option linter.unusedVariables false

/-- A challenge's state, as plain numbers. -/
structure OSt where
  tries : Int
  dl : Nat
  over : Int
deriving DecidableEq
def OSt.cells (s : OSt) : Array Value := #[.int .i64 s.tries, .int .u64 (s.dl : Nat), .int .i64 s.over]
def OSt.v (s : OSt) : Value := .agg s.cells
def satN (a b : Nat) : Nat := if 18446744073709551616 ≤ a + b then 18446744073709551615 else a + b
def OSt.late (s : OSt) (now : Nat) : Bool := decide (s.over = 0) && decide (s.dl ≤ now)
def OSt.tick (s : OSt) (now : Nat) : OSt := if s.late now then { s with over := 3 } else s
def OSt.enter (s : OSt) (same : Bool) (now : Nat) : OSt × Int :=
  if s.late now then ({ s with over := 3 }, 3) else if s.over ≠ 0 then (s, s.over)
  else if same then ({ s with over := 1 }, 1) else if 0 < s.tries - 1 then ({ s with tries := s.tries - 1 }, 5) else ({ s with tries := s.tries - 1, over := 2 }, 2)
def OSt.cancel (s : OSt) (now : Nat) : OSt × Bool :=
  if s.late now then ({ s with over := 3 }, true) else if s.over ≠ 0 then (s, false) else ({ s with over := 4 }, true)

theorem infoOt : (Tryd.prog.info? 47).map (·.size) = some 3 := by kernel_rfl
theorem RowAt.new2 (w : World) (A B : Array Value) (t u : TypeId) : RowAt ((w.alloc (.cells A t)).alloc (.cells B u)) (w.heap.size + 1) u B := by
  have := RowAt.new (w.alloc (.cells A t)) B u
  rwa [World.size_alloc] at this
/-- The first result lies in a box, whole; the second in a slot. -/
theorem results_row_tmp {P : Program} {fn : Func} {p u : Tmp} {ty : TypeId} (h : fn.results = #[.cell p ty, .tmp u]) (tmps : Array Value) (w : World) (g : Nat) (t : TypeId) (cs : Array Value) (fr : Nat × Nat) (d : TypeDesc)
    (hp : tmps.getD p undef = .pointer (some ⟨g, 0, none⟩)) (hg : w.heap[g]? = some (.cells cs t fr))
    (hu : P.underlying ty = some d) (hd : (match d with | .struct _ | .array _ _ => true | _ => false) = true) (hi : (P.info? ty).map (·.size) = some cs.size) :
    (results fn tmps).run P w = .ok (.tuple #[.agg cs, tmps.getD u undef]) w := by
  rw [results_cell_tmp h, hp]
  simp [asAddr, Result.andThen, run_loadVar_row w g t ty cs fr d hg hu hd hi]

set_option maxRecDepth 100000 in
set_option maxHeartbeats 4000000 in
theorem begin_any (t : Int) (h1 : 1 ≤ t) (h9 : t ≤ 9) (now wait : Nat) (hn : now < 18446744073709551616) (hw : wait < 18446744073709551616) (w : World) :
    Calls Tryd.prog 34 #[.int .i64 t, .int .u64 (now : Nat), .int .u64 (wait : Nat)] w fun e w' => e = .returned (.tuple #[(OSt.mk t (satN now wait) 0).v, .int .i64 0]) ∧ Below w.heap.size w w' := by
  have cA := fun w => oadd_any now wait w hn hw
  rw [show (if 18446744073709551616 ≤ now + wait then 18446744073709551615 else now + wait : Nat) = satN now wait from rfl] at cA
  obtain ⟨d, hd⟩ : ∃ d, d = satN now wait := ⟨_, rfl⟩
  rw [← hd] at cA ⊢
  have h1' : decide (t < 1) = false := decide_eq_false (by omega)
  have h9' : decide (9 < t) = false := decide_eq_false (by omega)
  have h1i : ¬ t < 1 := by omega
  have h9i : ¬ 9 < t := by omega
  replace cA := hid cA
  clear hd
  go_enter Tryd.func34, Tryd.ntmps34
  go_wp2_with (go_at_call 66; refine (cA.out _).mono ?_; rintro e w1 ⟨rfl, rfl⟩)
  exact bodyPost_ret (results_row_tmp rfl _ _ w.heap.size 47 (OSt.mk t d 0).cells (0, 0) _ rfl (RowAt.new _ _ _) Tryd.underlying47 rfl (by rw [infoOt]; rfl)) rfl ⟨rfl, below_al (Below.refl _ _) _⟩

set_option maxRecDepth 100000 in
set_option maxHeartbeats 4000000 in
theorem begin_bad (t : Int) (ht : t < 1 ∨ 9 < t) (now wait : Nat) (w : World) :
    Calls Tryd.prog 34 #[.int .i64 t, .int .u64 (now : Nat), .int .u64 (wait : Nat)] w fun e w' => e = .returned (.tuple #[(OSt.mk 0 0 0).v, .int .i64 7]) ∧ Below w.heap.size w w' := by
  go_enter Tryd.func34, Tryd.ntmps34
  by_cases h1 : t < 1
  case' pos => have h1' : decide (t < 1) = true := decide_eq_true h1
  case' neg =>
    have h1' : decide (t < 1) = false := decide_eq_false h1
    have h9 : 9 < t := by omega
    have h9' : decide (9 < t) = true := decide_eq_true h9
  all_goals
    clear ht
    go_wp2
    exact bodyPost_ret (results_row_tmp rfl _ _ w.heap.size 47 (OSt.mk 0 0 0).cells (0, 0) _ rfl (RowAt.new _ _ _) Tryd.underlying47 rfl (by rw [infoOt]; rfl)) rfl ⟨rfl, below_al (Below.refl _ _) _⟩

set_option maxRecDepth 100000 in
set_option maxHeartbeats 4000000 in
theorem tick_any (s : OSt) (now : Nat) (w : World) :
    Calls Tryd.prog 37 #[s.v, .int .u64 (now : Nat)] w fun e w' => e = .returned (.tuple #[(s.tick now).v, .bool (s.late now)]) ∧ Below w.heap.size w w' := by
  obtain ⟨t, d, o⟩ := s
  dsimp only [OSt.v, OSt.cells]
  go_enter Tryd.func37, Tryd.ntmps37
  by_cases ho : o = 0
  · subst ho
    by_cases hl : now < d
    · have hl' : (now : Int) < (d : Int) := by omega
      have hlb : decide ((now : Int) < (d : Int)) = true := decide_eq_true hl'
      have e1 : (OSt.mk t d 0).late now = false := by simp [OSt.late]; omega
      have e2 : (OSt.mk t d 0).tick now = OSt.mk t d 0 := by simp [OSt.tick, e1]
      rw [e1, e2]
      clear e1 e2
      go_wp2
      exact bodyPost_ret (results_row_tmp rfl _ _ (w.heap.size + 1) 47 (OSt.mk t d 0).cells (0, 0) _ rfl (RowAt.new2 _ _ _ _ _) Tryd.underlying47 rfl (by rw [infoOt]; rfl)) rfl ⟨rfl, below_al (below_al (Below.refl _ _) _) _⟩
    · have hl' : ¬ (now : Int) < (d : Int) := by omega
      have hlb : decide ((now : Int) < (d : Int)) = false := decide_eq_false hl'
      have e1 : (OSt.mk t d 0).late now = true := by simp [OSt.late]; omega
      have e2 : (OSt.mk t d 0).tick now = OSt.mk t d 3 := by simp [OSt.tick, e1]
      rw [e1, e2]
      clear e1 e2
      go_wp2
      exact bodyPost_ret (results_row_tmp rfl _ _ (w.heap.size + 1) 47 (OSt.mk t d 3).cells (0, 0) _ rfl (RowAt.new2 _ _ _ _ _) Tryd.underlying47 rfl (by rw [infoOt]; rfl)) rfl ⟨rfl, below_al (below_al (Below.refl _ _) _) _⟩
  · have ho' : (o != 0) = true := by rw [bne_iff_ne]; exact ho
    have e1 : (OSt.mk t d o).late now = false := by simp [OSt.late, ho]
    have e2 : (OSt.mk t d o).tick now = OSt.mk t d o := by simp [OSt.tick, e1]
    rw [e1, e2]
    clear e1 e2
    go_wp2
    exact bodyPost_ret (results_row_tmp rfl _ _ (w.heap.size + 1) 47 (OSt.mk t d o).cells (0, 0) _ rfl (RowAt.new2 _ _ _ _ _) Tryd.underlying47 rfl (by rw [infoOt]; rfl)) rfl ⟨rfl, below_al (below_al (Below.refl _ _) _) _⟩

/-- Begin's, Tick's contract, cell by cell. -/
theorem tick_at (s t : OSt) (b : Bool) (now : Nat) (h1 : s.tick now = t) (h2 : s.late now = b) (w : World) :
    Calls Tryd.prog 37 #[.agg #[.int .i64 s.tries, .int .u64 (s.dl : Nat), .int .i64 s.over], .int .u64 (now : Nat)] w fun e w' => e = .returned (.tuple #[.agg #[.int .i64 t.tries, .int .u64 (t.dl : Nat), .int .i64 t.over], .bool b]) ∧ Below w.heap.size w w' := by
  subst h1 h2
  exact tick_any s now w

theorem RowAt.three {w : World} {b : Nat} {t : TypeId} {x0 y0 z0 : Value} (r : RowAt w b t #[x0, y0, z0]) (x y z : Value) : RowAt (((w.setCell ⟨b, 0, none⟩ x).setCell ⟨b, 1, none⟩ y).setCell ⟨b, 2, none⟩ z) b t #[x, y, z] :=
  ((r.set 0 x).set 1 y).set 2 z
theorem below_three {B : Nat} {a w : World} (h : Below B a w) {b : Nat} (hb : B ≤ b) (x y z : Value) : Below B a (((w.setCell ⟨b, 0, none⟩ x).setCell ⟨b, 1, none⟩ y).setCell ⟨b, 2, none⟩ z) :=
  ((h.setCell (p := ⟨b, 0, none⟩) hb x).setCell (p := ⟨b, 1, none⟩) hb y).setCell (p := ⟨b, 2, none⟩) hb z

set_option maxRecDepth 100000 in
set_option maxHeartbeats 8000000 in
theorem enter_over (s u : OSt) (now : Nat) (b : Bool) (h1 : s.tick now = u) (h2 : s.late now = b) (ho : u.over ≠ 0) (hu : u.tries = s.tries ∧ u.dl = s.dl) (code said : ByteArray) (w : World) :
    Calls Tryd.prog 35 #[s.v, .string code, .string said, .int .u64 (now : Nat)] w fun e w' => e = .returned (.tuple #[u.v, .int .i64 u.over]) ∧ Below w.heap.size w w' := by
  have cT := fun w => tick_at s u b now h1 h2 w
  clear h1 h2
  obtain ⟨t, d, o⟩ := s
  obtain ⟨t', d', p⟩ := u
  obtain ⟨rfl, rfl⟩ := hu
  dsimp only [OSt.v, OSt.cells] at cT ho ⊢
  have hob : (p != 0) = true := by rw [bne_iff_ne]; exact ho
  replace cT := hid cT
  go_enter Tryd.func35, Tryd.ntmps35
  cases b
  all_goals
    go_wp2_with (go_at_call 37; refine (cT.out _).mono ?_; rintro e w1 ⟨rfl, hB⟩)
    have r1 := ((RowAt.new2 w #[.int .i64 t', .int .u64 (d' : Nat), .int .i64 o] #[.int .i64 0, .int .u64 0, .int .i64 0] 47 47).below hB (by simp)).alloc (.cells #[.int .i64 t', .int .u64 (d' : Nat), .int .i64 p] 47)
    have r2 := RowAt.new w1 #[.int .i64 t', .int .u64 (d' : Nat), .int .i64 p] 47
    have hb := below_al (below_cat hB (below_al (below_al (Below.refl w.heap.size w) (.cells #[.int .i64 t', .int .u64 (d' : Nat), .int .i64 o] 47)) (.cells #[.int .i64 0, .int .u64 0, .int .i64 0] 47))) (.cells #[.int .i64 t', .int .u64 (d' : Nat), .int .i64 p] 47)
    obtain ⟨g, hg⟩ : ∃ g, g = w.heap.size + 1 := ⟨_, rfl⟩
    have hgw : w.heap.size ≤ g := by omega
    have hgl : w.heap.size + 2 ≤ w1.heap.size := by have := hB.size; simp at this; omega
    obtain ⟨h, hh⟩ : ∃ h, h = w1.heap.size := ⟨_, rfl⟩
    have hne : g ≠ h := by omega
    obtain ⟨W, hW⟩ : ∃ W, W = w1.alloc (.cells #[.int .i64 t', .int .u64 (d' : Nat), .int .i64 p] 47) := ⟨_, rfl⟩
    rw [← hW] at r1 r2 hb ⊢
    rw [← hh] at r2 ⊢
    rw [← hg] at r1 ⊢
    have c0 : W.cell? ⟨g, 0, none⟩ = some (.int .i64 0) := r1.cell rfl
    have c1 : W.cell? ⟨g, 1, none⟩ = some (.int .u64 0) := r1.cell rfl
    have c2 : W.cell? ⟨g, 2, none⟩ = some (.int .i64 0) := r1.cell rfl
    have f0 := r1.free 0
    have f1 := r1.free 1
    have f2 := r1.free 2
    have d0 : W.cell? ⟨h, 0, none⟩ = some (.int .i64 t') := r2.cell rfl
    have d1 : W.cell? ⟨h, 1, none⟩ = some (.int .u64 (d' : Nat)) := r2.cell rfl
    have d2 : W.cell? ⟨h, 2, none⟩ = some (.int .i64 p) := r2.cell rfl
    have r3 := hid (r1.three (.int .i64 t') (.int .u64 (d' : Nat)) (.int .i64 p))
    have b3 := hid (below_three hb hgw (.int .i64 t') (.int .u64 (d' : Nat)) (.int .i64 p))
    clear hW hg hh hB hgl hb r1 r2
    go_region
    all_goals go_wp2
    all_goals exact bodyPost_ret (results_row_tmp rfl _ _ g 47 (OSt.mk t' d' p).cells (0, 0) _ rfl r3.out.drew Tryd.underlying47 rfl (by rw [infoOt]; rfl)) rfl ⟨rfl, b3.out.drew⟩

set_option maxRecDepth 100000 in
set_option maxHeartbeats 8000000 in
theorem enter_open (s : OSt) (now : Nat) (hl : s.late now = false) (ho : s.over = 0) (ht1 : -9223372036854775808 < s.tries) (ht2 : s.tries ≤ 9223372036854775807) (code said : ByteArray) (hc : code.size ≤ 1000000) (hs : said.size ≤ 1000000) (w : World) :
    Calls Tryd.prog 35 #[s.v, .string code, .string said, .int .u64 (now : Nat)] w fun e w' => e = .returned (.tuple #[(s.enter (decide (code = said)) now).1.v, .int .i64 (s.enter (decide (code = said)) now).2]) ∧ Below w.heap.size w w' := by
  have cT := fun w => tick_at s s false now (by simp [OSt.tick, hl]) hl w
  have cS := fun w => same_any code said hc hs w
  have he : s.enter (decide (code = said)) now = if decide (code = said) then ({ s with over := 1 }, 1) else if 0 < s.tries - 1 then ({ s with tries := s.tries - 1 }, 5) else ({ s with tries := s.tries - 1, over := 2 }, 2) := by
    unfold OSt.enter
    rw [hl, ho]
    simp
  obtain ⟨q, hq⟩ : ∃ q, q = decide (code = said) := ⟨_, rfl⟩
  rw [← hq] at he ⊢
  simp only [← hq] at cS
  clear hl hq hc hs
  obtain ⟨t, d, o⟩ := s
  dsimp only at ho ht1 ht2
  subst ho
  dsimp only at he
  cases q
  case' true =>
    have hr : (OSt.mk t d 0).enter true now = (OSt.mk t d 1, 1) := by rw [he]; simp
    obtain ⟨u, hu⟩ : ∃ u, u = OSt.mk t d 1 := ⟨_, rfl⟩
  case' false =>
    have hw : IntKind.i64.wrap (t - 1) = t - 1 := by rw [IntKind.wrap_i64]; omega
    by_cases hp : 0 < t - 1
    case' pos =>
      have hr : (OSt.mk t d 0).enter false now = (OSt.mk (t - 1) d 0, 5) := by rw [he, if_neg (by decide), if_pos hp]
      have hpb : decide (0 < t - 1) = true := decide_eq_true hp
    case' neg =>
      have hr : (OSt.mk t d 0).enter false now = (OSt.mk (t - 1) d 2, 2) := by rw [he, if_neg (by decide), if_neg hp]
      have hpb : decide (0 < t - 1) = false := decide_eq_false hp
  all_goals
    rw [hr]
    clear he hr
    dsimp only [OSt.v, OSt.cells] at cT ⊢
    replace cT := hid cT
    replace cS := hid cS
    go_enter Tryd.func35, Tryd.ntmps35
    go_wp2_with (first
      | (go_at_call 37; refine (cT.out _).mono ?_; rintro e w1 ⟨rfl, hB⟩)
      | (go_at_call 28; refine (cS.out _).mono ?_; rintro e w2 ⟨rfl, hB2⟩
         have r1 := ((RowAt.new2 w #[.int .i64 t, .int .u64 (d : Nat), .int .i64 0] #[.int .i64 0, .int .u64 0, .int .i64 0] 47 47).below (below_cat hB2 (below_al hB (.cells #[.int .i64 t, .int .u64 (d : Nat), .int .i64 0] 47))) (by simp))
         have r2 := ((((RowAt.new w #[.int .i64 t, .int .u64 (d : Nat), .int .i64 0] 47).alloc (.cells #[.int .i64 0, .int .u64 0, .int .i64 0] 47)).below (below_cat hB2 (below_al hB (.cells #[.int .i64 t, .int .u64 (d : Nat), .int .i64 0] 47))) (by simp; omega)))
         have hb := below_cat hB2 (below_al (below_cat hB (below_al (below_al (Below.refl w.heap.size w) (.cells #[.int .i64 t, .int .u64 (d : Nat), .int .i64 0] 47)) (.cells #[.int .i64 0, .int .u64 0, .int .i64 0] 47))) (.cells #[.int .i64 t, .int .u64 (d : Nat), .int .i64 0] 47))
         clear hB hB2
         have c0 : w2.cell? ⟨w.heap.size + 1, 0, none⟩ = some (.int .i64 0) := r1.cell rfl
         have c1 : w2.cell? ⟨w.heap.size + 1, 1, none⟩ = some (.int .u64 0) := r1.cell rfl
         have c2 : w2.cell? ⟨w.heap.size + 1, 2, none⟩ = some (.int .i64 0) := r1.cell rfl
         have f0 := r1.free 0
         have f1 := r1.free 1
         have f2 := r1.free 2
         have d0 : w2.cell? ⟨w.heap.size, 0, none⟩ = some (.int .i64 t) := r2.cell rfl
         have d1 : w2.cell? ⟨w.heap.size, 1, none⟩ = some (.int .u64 (d : Nat)) := r2.cell rfl
         have d2 : w2.cell? ⟨w.heap.size, 2, none⟩ = some (.int .i64 0) := r2.cell rfl
         have e0 := r2.free 0
         have e2 := r2.free 2
         replace r1 := hid r1
         replace r2 := hid r2
         replace hb := hid hb))
  · exact bodyPost_ret (results_row_tmp rfl _ _ (w.heap.size + 1) 47 (OSt.mk (t - 1) d 2).cells (0, 0) _ rfl (((r1.out.other ⟨w.heap.size, 0, none⟩ (.int .i64 (t - 1)) (by simp)).other ⟨w.heap.size, 2, none⟩ (.int .i64 2) (by simp)).three _ _ _) Tryd.underlying47 rfl (by rw [infoOt]; rfl)) rfl ⟨rfl, below_three ((hb.out.setCell (p := ⟨w.heap.size, 0, none⟩) (Nat.le_refl _) _).setCell (p := ⟨w.heap.size, 2, none⟩) (Nat.le_refl _) _) (by omega) _ _ _⟩
  · exact bodyPost_ret (results_row_tmp rfl _ _ (w.heap.size + 1) 47 (OSt.mk (t - 1) d 0).cells (0, 0) _ rfl ((r1.out.other ⟨w.heap.size, 0, none⟩ (.int .i64 (t - 1)) (by simp)).three _ _ _) Tryd.underlying47 rfl (by rw [infoOt]; rfl)) rfl ⟨rfl, below_three (hb.out.setCell (p := ⟨w.heap.size, 0, none⟩) (Nat.le_refl _) _) (by omega) _ _ _⟩
  · exact bodyPost_ret (results_row_tmp rfl _ _ (w.heap.size + 1) 47 (OSt.mk t d 1).cells (0, 0) _ rfl ((r1.out.other ⟨w.heap.size, 2, none⟩ (.int .i64 1) (by simp)).three _ _ _) Tryd.underlying47 rfl (by rw [infoOt]; rfl)) rfl ⟨rfl, below_three (hb.out.setCell (p := ⟨w.heap.size, 2, none⟩) (Nat.le_refl _) _) (by omega) _ _ _⟩

/-- Enter, whatever the state. -/
theorem enter_any (s : OSt) (now : Nat) (ht1 : -9223372036854775808 < s.tries) (ht2 : s.tries ≤ 9223372036854775807) (code said : ByteArray) (hc : code.size ≤ 1000000) (hs : said.size ≤ 1000000) (w : World) :
    Calls Tryd.prog 35 #[s.v, .string code, .string said, .int .u64 (now : Nat)] w fun e w' => e = .returned (.tuple #[(s.enter (decide (code = said)) now).1.v, .int .i64 (s.enter (decide (code = said)) now).2]) ∧ Below w.heap.size w w' := by
  cases hl : s.late now
  · by_cases ho : s.over = 0
    · exact enter_open s now hl ho ht1 ht2 code said hc hs w
    · have := enter_over s s now false (by simp [OSt.tick, hl]) hl ho ⟨rfl, rfl⟩ code said w
      have he : s.enter (decide (code = said)) now = (s, s.over) := by unfold OSt.enter; rw [hl]; simp [ho]
      rw [he]
      exact this
  · have := enter_over s { s with over := 3 } now true (by simp [OSt.tick, hl]) hl (by show (3 : Int) ≠ 0; decide) ⟨rfl, rfl⟩ code said w
    have he : s.enter (decide (code = said)) now = ({ s with over := 3 }, 3) := by unfold OSt.enter; rw [hl]; simp
    rw [he]
    exact this

set_option maxRecDepth 100000 in
set_option maxHeartbeats 8000000 in
theorem cancel_any (s : OSt) (now : Nat) (w : World) :
    Calls Tryd.prog 36 #[s.v, .int .u64 (now : Nat)] w fun e w' => e = .returned (.tuple #[(s.cancel now).1.v, .bool (s.cancel now).2]) ∧ Below w.heap.size w w' := by
  have cT := fun w => tick_at s (s.tick now) (s.late now) now rfl rfl w
  obtain ⟨t, d, o⟩ := s
  have key : (∃ p b, (OSt.mk t d o).tick now = OSt.mk t d p ∧ (OSt.mk t d o).late now = b ∧ (b = true ∨ p ≠ 0) ∧ (OSt.mk t d o).cancel now = (OSt.mk t d p, b)) ∨ ((OSt.mk t d o).tick now = OSt.mk t d o ∧ (OSt.mk t d o).late now = false ∧ o = 0 ∧ (OSt.mk t d o).cancel now = (OSt.mk t d 4, true)) := by
    cases hl : (OSt.mk t d o).late now
    · by_cases ho : o = 0
      · exact .inr ⟨by simp [OSt.tick, hl], rfl, ho, by unfold OSt.cancel; rw [hl]; simp [ho]⟩
      · exact .inl ⟨o, false, by simp [OSt.tick, hl], rfl, .inr ho, by unfold OSt.cancel; rw [hl]; simp [ho]⟩
    · exact .inl ⟨3, true, by simp [OSt.tick, hl], rfl, .inl rfl, by unfold OSt.cancel; rw [hl]; simp⟩
  rcases key with ⟨p, b, h1, h2, h3, h4⟩ | ⟨h1, h2, ho, h4⟩
  · rw [h4]
    simp only [h1, h2] at cT
    clear h1 h2 h4
    dsimp only [OSt.v, OSt.cells] at cT ⊢
    replace cT := hid cT
    go_enter Tryd.func36, Tryd.ntmps36
    have hpb : b = false → (p != 0) = true := fun hb => by
      rcases h3 with h | h
      · rw [h] at hb; cases hb
      · rw [bne_iff_ne]; exact h
    clear h3
    cases b
    case' false =>
      have hpb' := hpb rfl
      have hpp : ¬ p = 0 := by rw [bne_iff_ne] at hpb'; exact hpb'
    all_goals
      clear hpb
      go_wp2_with (go_at_call 37; refine (cT.out _).mono ?_; rintro e w1 ⟨rfl, hB⟩
                   have r1 := (((RowAt.new2 w #[.int .i64 t, .int .u64 (d : Nat), .int .i64 o] #[.int .i64 0, .int .u64 0, .int .i64 0] 47 47).below hB (by simp))).alloc (.cells #[.int .i64 t, .int .u64 (d : Nat), .int .i64 p] 47)
                   have hb := below_al (below_cat hB (below_al (below_al (Below.refl w.heap.size w) (.cells #[.int .i64 t, .int .u64 (d : Nat), .int .i64 o] 47)) (.cells #[.int .i64 0, .int .u64 0, .int .i64 0] 47))) (.cells #[.int .i64 t, .int .u64 (d : Nat), .int .i64 p] 47)
                   have hgl : w.heap.size + 2 ≤ w1.heap.size := by have := hB.size; simp at this; omega
                   have hne : ¬ w1.heap.size = w.heap.size + 1 := by omega
                   clear hB
                   have c0 : (w1.alloc (.cells #[.int .i64 t, .int .u64 (d : Nat), .int .i64 p] 47)).cell? ⟨w.heap.size + 1, 0, none⟩ = some (.int .i64 0) := r1.cell rfl
                   have c1 : (w1.alloc (.cells #[.int .i64 t, .int .u64 (d : Nat), .int .i64 p] 47)).cell? ⟨w.heap.size + 1, 1, none⟩ = some (.int .u64 0) := r1.cell rfl
                   have c2 : (w1.alloc (.cells #[.int .i64 t, .int .u64 (d : Nat), .int .i64 p] 47)).cell? ⟨w.heap.size + 1, 2, none⟩ = some (.int .i64 0) := r1.cell rfl
                   have f0 := r1.free 0
                   have f1 := r1.free 1
                   have f2 := r1.free 2
                   replace r1 := hid r1
                   replace hb := hid hb)
      exact bodyPost_ret (results_row_tmp rfl _ _ (w.heap.size + 1) 47 (OSt.mk t d p).cells (0, 0) _ rfl (r1.out.three _ _ _) Tryd.underlying47 rfl (by rw [infoOt]; rfl)) rfl ⟨rfl, below_three hb.out (by omega) _ _ _⟩
  · subst ho
    rw [h4]
    simp only [h1, h2] at cT
    clear h1 h2 h4
    dsimp only [OSt.v, OSt.cells] at cT ⊢
    replace cT := hid cT
    go_enter Tryd.func36, Tryd.ntmps36
    go_wp2_with (go_at_call 37; refine (cT.out _).mono ?_; rintro e w1 ⟨rfl, hB⟩
                 have r1 := (((RowAt.new2 w #[.int .i64 t, .int .u64 (d : Nat), .int .i64 0] #[.int .i64 0, .int .u64 0, .int .i64 0] 47 47).below hB (by simp))).alloc (.cells #[.int .i64 t, .int .u64 (d : Nat), .int .i64 0] 47)
                 have r2 := (((RowAt.new w #[.int .i64 t, .int .u64 (d : Nat), .int .i64 0] 47).alloc (.cells #[.int .i64 0, .int .u64 0, .int .i64 0] 47)).below hB (by simp; omega)).alloc (.cells #[.int .i64 t, .int .u64 (d : Nat), .int .i64 0] 47)
                 have hb := below_al (below_cat hB (below_al (below_al (Below.refl w.heap.size w) (.cells #[.int .i64 t, .int .u64 (d : Nat), .int .i64 0] 47)) (.cells #[.int .i64 0, .int .u64 0, .int .i64 0] 47))) (.cells #[.int .i64 t, .int .u64 (d : Nat), .int .i64 0] 47)
                 have hgl : w.heap.size + 2 ≤ w1.heap.size := by have := hB.size; simp at this; omega
                 have hne : ¬ w1.heap.size = w.heap.size + 1 := by omega
                 have hne2 : ¬ w1.heap.size = w.heap.size := by omega
                 clear hB
                 have c0 : (w1.alloc (.cells #[.int .i64 t, .int .u64 (d : Nat), .int .i64 0] 47)).cell? ⟨w.heap.size + 1, 0, none⟩ = some (.int .i64 0) := r1.cell rfl
                 have c1 : (w1.alloc (.cells #[.int .i64 t, .int .u64 (d : Nat), .int .i64 0] 47)).cell? ⟨w.heap.size + 1, 1, none⟩ = some (.int .u64 0) := r1.cell rfl
                 have c2 : (w1.alloc (.cells #[.int .i64 t, .int .u64 (d : Nat), .int .i64 0] 47)).cell? ⟨w.heap.size + 1, 2, none⟩ = some (.int .i64 0) := r1.cell rfl
                 have f0 := r1.free 0
                 have f1 := r1.free 1
                 have f2 := r1.free 2
                 have d0 : (w1.alloc (.cells #[.int .i64 t, .int .u64 (d : Nat), .int .i64 0] 47)).cell? ⟨w.heap.size, 0, none⟩ = some (.int .i64 t) := r2.cell rfl
                 have d1 : (w1.alloc (.cells #[.int .i64 t, .int .u64 (d : Nat), .int .i64 0] 47)).cell? ⟨w.heap.size, 1, none⟩ = some (.int .u64 (d : Nat)) := r2.cell rfl
                 have d2 : (w1.alloc (.cells #[.int .i64 t, .int .u64 (d : Nat), .int .i64 0] 47)).cell? ⟨w.heap.size, 2, none⟩ = some (.int .i64 0) := r2.cell rfl
                 have e2 := r2.free 2
                 replace r1 := hid r1
                 replace r2 := hid r2
                 replace hb := hid hb)
    exact bodyPost_ret (results_row_tmp rfl _ _ (w.heap.size + 1) 47 (OSt.mk t d 4).cells (0, 0) _ rfl ((r1.out.other ⟨w.heap.size, 2, none⟩ (.int .i64 4) (by simp)).three _ _ _) Tryd.underlying47 rfl (by rw [infoOt]; rfl)) rfl ⟨rfl, below_three (hb.out.setCell (p := ⟨w.heap.size, 2, none⟩) (Nat.le_refl _) _) (by omega) _ _ _⟩
end Go.Proofs.YtbbjoahloghpkaaDoor
