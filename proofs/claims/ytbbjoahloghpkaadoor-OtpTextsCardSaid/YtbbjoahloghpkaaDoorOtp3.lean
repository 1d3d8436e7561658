/- A challenge's state as a text, and back; the law OtpTexts. Printed by mkOtp3.py (this project's own). -/
import Derived.Test.YtbbjoahloghpkaaDoorOtp2
import Derived.Test.YtbbjoahloghpkaaDoorOctR
import Derived.Test.YtbbjoahloghpkaaDoorOctG
import Derived.Test.YtbbjoahloghpkaaDoorSlots
namespace Go.Proofs.YtbbjoahloghpkaaDoor
open Go Go.RowKit
set_option linter.unusedSimpArgs false
set_option linter.unusedVariables false

/-- A slice made here over a row. -/
def RV (t : TypeId) (A : Array Value) (n c : Nat) (v : Value) (W : World) : Prop := ∃ b, v = .slice (some ⟨b, 0, none⟩) n c ∧ RowAt W b t A
theorem stays_rv (t : TypeId) (A : Array Value) (n c : Nat) : Stays (RV t A n c) := fun _ _ _ ⟨b, h1, h2⟩ hb => ⟨b, h1, h2.below hb h2.lt⟩
theorem rv_new (W : World) (t : TypeId) (A : Array Value) (n c : Nat) : RV t A n c (.slice (some ⟨W.heap.size, 0, none⟩) n c) (W.alloc (.cells A t)) := ⟨_, rfl, RowAt.new _ _ _⟩
theorem conv_two {P : Program} (src dst e : TypeId) (hs : P.underlying src = some (.slice e)) (he : P.underlying e = some (.int .u8)) (hd : P.underlying dst = some .string)
    (c : Nat) {x y : Int} {W : World} {b t : Nat} (r : RowAt W b t #[.int .u8 x, .int .u8 y]) : (convert src dst (.slice (some ⟨b, 0, none⟩) 2 c)).run P W = .ok (.string ⟨#[UInt8.ofNat x.toNat, UInt8.ofNat y.toNat]⟩) W := by
  have := run_convert_bytes_arg (P := P) W src e hs he b 0 2 c [x, y] rfl (fun i hi => by
    rw [Nat.zero_add]
    match i, hi with
    | 0, _ => exact r.cell rfl
    | 1, _ => exact r.cell rfl) dst hd
  rw [this]; rfl
def twoS (t o : Int) : ByteArray := ⟨#[UInt8.ofNat (t % 256).toNat, UInt8.ofNat (o % 256).toNat]⟩
def OSt.text (s : OSt) : ByteArray := twoS s.tries s.over ++ beS s.dl 8
theorem OSt.text_size (s : OSt) : s.text.size = 10 := by unfold OSt.text; rw [ByteArray.size_append, beS_size]; rfl

set_option maxRecDepth 100000 in
set_option maxHeartbeats 4000000 in
theorem otext_any (s : OSt) (w : World) : Calls Tryd.prog 39 #[s.v] w fun e w' => e = .returned (.string s.text) ∧ Below w.heap.size w w' := by
  obtain ⟨t, d, o⟩ := s
  have cP0 := fun w => put_any d 8 w
  rw [show clip8 8 = 8 by decide] at cP0
  have cP := hid cP0
  clear cP0
  dsimp only [OSt.v, OSt.cells, OSt.text]
  obtain ⟨s2, hs2⟩ : ∃ s2, s2 = twoS t o := ⟨_, rfl⟩
  rw [← hs2]
  have hs2' : (⟨#[UInt8.ofNat (t % 256).toNat, UInt8.ofNat (o % 256).toNat]⟩ : ByteArray) = s2 := hs2.symm
  have hs2s : s2.size = 2 := by rw [hs2]; rfl
  have hcat : ¬ 9223372036854775807 < s2.size + (beS d 8).size := by rw [hs2s, beS_size]; omega
  replace hs2 := hid hs2
  go_enter Tryd.func39, Tryd.ntmps39
  go_wp2
  have r0 := hid (RowAt.new w #[.int .i64 t, .int .u64 (d : Nat), .int .i64 o] 47)
  have hB0 := hid (below_al (Below.refl w.heap.size w) (.cells #[.int .i64 t, .int .u64 (d : Nat), .int .i64 o] 47))
  refine wp_region_each 11 15 (phiOf [QV (.pointer (some ⟨w.heap.size, 0, none⟩)), QV (.int .i64 t), QV (.int .u8 (t % 256)), QV (.pointer (some ⟨w.heap.size, 2, none⟩)), QV (.int .i64 o), QV (.int .u8 (o % 256)), RV 5 #[.int .u8 (t % 256), .int .u8 (o % 256)] 2 2, QV (.string s2), QV (.pointer (some ⟨w.heap.size, 1, none⟩)), QV (.int .u64 (d : Nat)), QV (.string (beS d 8))]) (by kernel_rfl) (by kernel_rfl) (by kernel_rfl) (by kernel_rfl) (by kernel_rfl) rfl (phi_stays ?c1_st) ?c1_g ?c1_op ?c1_fin
  case c1_st => simp only [List.forall_mem_cons]; exact ⟨stays_qv _, stays_qv _, stays_qv _, stays_qv _, stays_qv _, stays_qv _, stays_rv _ _ _ _, stays_qv _, stays_qv _, stays_qv _, stays_qv _, fun _ h => by cases h⟩
  case c1_g =>
    change ∀ p ∈ ([] : List (Nat × Bool)), _
    intro p hp
    cases hp
  case c1_op =>
    simp only [List.take_succ_cons, List.take_zero]
    refine ⟨fun a V hB hold hdep => ?_, ?_⟩
    · have h1 : a.tmps.getD 1 undef = .pointer (some ⟨w.heap.size, 0, none⟩) := (hold 1 (by kernel_rfl)).trans rfl
      unfold OpOk
      simp [execOp, go_sem, eval_tmp, eval_const, eval_func, h1]
      exact ⟨Below.refl _ _, rfl⟩
    refine ⟨fun a V hB hold hdep => ?_, ?_⟩
    · have h3 : a.tmps.getD 3 undef = .pointer (some ⟨w.heap.size, 0, none⟩) := hdep 0 3 (by kernel_rfl) rfl
      have hc : V.cell? ⟨w.heap.size, 0, none⟩ = some (.int .i64 t) := (r0.out.below hB r0.out.lt).cell rfl
      unfold OpOk
      simp [execOp, go_sem, eval_tmp, eval_const, eval_func, h3, hc]
      exact ⟨Below.refl _ _, rfl⟩
    refine ⟨fun a V hB hold hdep => ?_, ?_⟩
    · have h4 : a.tmps.getD 4 undef = .int .i64 t := hdep 1 4 (by kernel_rfl) rfl
      unfold OpOk
      simp [execOp, go_sem, eval_tmp, eval_const, eval_func, h4]
      exact ⟨Below.refl _ _, rfl⟩
    refine ⟨fun a V hB hold hdep => ?_, ?_⟩
    · have h1 : a.tmps.getD 1 undef = .pointer (some ⟨w.heap.size, 0, none⟩) := (hold 1 (by kernel_rfl)).trans rfl
      unfold OpOk
      simp [execOp, go_sem, eval_tmp, eval_const, eval_func, h1]
      exact ⟨Below.refl _ _, rfl⟩
    refine ⟨fun a V hB hold hdep => ?_, ?_⟩
    · have h6 : a.tmps.getD 6 undef = .pointer (some ⟨w.heap.size, 2, none⟩) := hdep 3 6 (by kernel_rfl) rfl
      have hc : V.cell? ⟨w.heap.size, 2, none⟩ = some (.int .i64 o) := (r0.out.below hB r0.out.lt).cell rfl
      unfold OpOk
      simp [execOp, go_sem, eval_tmp, eval_const, eval_func, h6, hc]
      exact ⟨Below.refl _ _, rfl⟩
    refine ⟨fun a V hB hold hdep => ?_, ?_⟩
    · have h7 : a.tmps.getD 7 undef = .int .i64 o := hdep 4 7 (by kernel_rfl) rfl
      unfold OpOk
      simp [execOp, go_sem, eval_tmp, eval_const, eval_func, h7]
      exact ⟨Below.refl _ _, rfl⟩
    refine ⟨fun a V hB hold hdep => ?_, ?_⟩
    · have h5 : a.tmps.getD 5 undef = .int .u8 (t % 256) := hdep 2 5 (by kernel_rfl) rfl
      have h8 : a.tmps.getD 8 undef = .int .u8 (o % 256) := hdep 5 8 (by kernel_rfl) rfl
      have g5 := (Array.getD_eq_getD_getElem? (xs := a.tmps) (i := 5) (d := undef)).symm.trans h5
      have g8 := (Array.getD_eq_getD_getElem? (xs := a.tmps) (i := 8) (d := undef)).symm.trans h8
      unfold OpOk
      simp [execOp, go_sem, eval_tmp, eval_const, eval_func, g5, g8]
      exact ⟨below_al (Below.refl _ _) _, rv_new _ _ _ _ _⟩
    refine ⟨fun a V hB hold hdep => ?_, ?_⟩
    · obtain ⟨b9, h9, hr9⟩ := hdep 6 9 (by kernel_rfl) rfl
      have hcv := conv_two (P := Tryd.prog) 29 9 5 Tryd.underlying29 Tryd.underlying5 Tryd.underlying9 2 hr9
      unfold OpOk
      simp [execOp, go_sem, eval_tmp, eval_const, eval_func, h9, hcv]
      exact ⟨Below.refl _ _, congrArg Value.string hs2'⟩
    refine ⟨fun a V hB hold hdep => ?_, ?_⟩
    · have h1 : a.tmps.getD 1 undef = .pointer (some ⟨w.heap.size, 0, none⟩) := (hold 1 (by kernel_rfl)).trans rfl
      unfold OpOk
      simp [execOp, go_sem, eval_tmp, eval_const, eval_func, h1]
      exact ⟨Below.refl _ _, rfl⟩
    refine ⟨fun a V hB hold hdep => ?_, ?_⟩
    · have h11 : a.tmps.getD 11 undef = .pointer (some ⟨w.heap.size, 1, none⟩) := hdep 8 11 (by kernel_rfl) rfl
      have hc : V.cell? ⟨w.heap.size, 1, none⟩ = some (.int .u64 (d : Nat)) := (r0.out.below hB r0.out.lt).cell rfl
      unfold OpOk
      simp [execOp, go_sem, eval_tmp, eval_const, eval_func, h11, hc]
      exact ⟨Below.refl _ _, rfl⟩
    refine ⟨fun a V hB hold hdep => ?_, ?_⟩
    · have h12 : a.tmps.getD 12 undef = .int .u64 (d : Nat) := hdep 9 12 (by kernel_rfl) rfl
      unfold OpOk
      simp [execOp, go_sem, eval_tmp, eval_const, eval_func, h12]
      (with_reducible refine (cP.out _).mono ?_); rintro e W2 ⟨rfl, hb⟩; exact ⟨_, rfl, hb, rfl⟩
    trivial
  case c1_fin =>
    intro X V hB hX
    have e3 : X 3 = .pointer (some ⟨w.heap.size, 0, none⟩) := hX 0 3 (by decide) rfl
    have e4 : X 4 = .int .i64 t := hX 1 4 (by decide) rfl
    have e5 : X 5 = .int .u8 (t % 256) := hX 2 5 (by decide) rfl
    have e6 : X 6 = .pointer (some ⟨w.heap.size, 2, none⟩) := hX 3 6 (by decide) rfl
    have e7 : X 7 = .int .i64 o := hX 4 7 (by decide) rfl
    have e8 : X 8 = .int .u8 (o % 256) := hX 5 8 (by decide) rfl
    obtain ⟨b9, e9, hr9⟩ := hX 6 9 (by decide) rfl
    have e10 : X 10 = .string s2 := hX 7 10 (by decide) rfl
    have e11 : X 11 = .pointer (some ⟨w.heap.size, 1, none⟩) := hX 8 11 (by decide) rfl
    have e12 : X 12 = .int .u64 (d : Nat) := hX 9 12 (by decide) rfl
    have e13 : X 13 = .string (beS d 8) := hX 10 13 (by decide) rfl
    clear hX
    change wpList Tryd.prog _ _ _ { tmps := putAll [(3, X 3), (4, X 4), (5, X 5), (6, X 6), (7, X 7), (8, X 8), (9, X 9), (10, X 10), (11, X 11), (12, X 12), (13, X 13)] _, defers := _ } V
    simp only [Act.put, putAll, List.foldl_cons, List.foldl_nil, List.setIfInBounds_toArray, List.set_cons_zero, List.set_cons_succ, List.drop_succ_cons, List.drop_zero, e3, e4, e5, e6, e7, e8, e9, e10, e11, e12, e13]
    clear e3 e4 e5 e6 e7 e8 e9 e10 e11 e12 e13
    go_wp2
    go_ret
    exact ⟨rfl, below_cat hB hB0.out⟩

/-- The state of a text. -/
def okT (t : ByteArray) : Bool := decide (t.size = 10) && (decide ((t.data.toList.getD 0 0).toNat ≤ 9) && decide ((t.data.toList.getD 1 0).toNat ≤ 4))
def parseS (t : ByteArray) : OSt := ⟨((t.data.toList.getD 0 0).toNat : Nat), getN (t.extract 2 10).data.toList, ((t.data.toList.getD 1 0).toNat : Nat)⟩

set_option maxRecDepth 100000 in
set_option maxHeartbeats 4000000 in
theorem parse_any (t : ByteArray) (ht : t.size ≤ 1000000) (w : World) :
    Calls Tryd.prog 38 #[.string t] w fun e w' => e = .returned (.tuple #[(if okT t then parseS t else ⟨0, 0, 0⟩).v, .int .i64 (if okT t then 0 else 4)]) ∧ Below w.heap.size w w' := by
  go_enter Tryd.func38, Tryd.ntmps38
  by_cases h10 : t.size = 10
  · obtain ⟨a, ha⟩ : ∃ a : Nat, a = (t.data.toList.getD 0 0).toNat := ⟨_, rfl⟩
    obtain ⟨b, hb⟩ : ∃ b : Nat, b = (t.data.toList.getD 1 0).toNat := ⟨_, rfl⟩
    have hx : (t.extract 2 10).size = 8 := by rw [ByteArray.size_extract]; omega
    have cG := fun w => get_any (t.extract 2 10) w (by omega) (by omega)
    obtain ⟨g, hg⟩ : ∃ g, g = getN (t.extract 2 10).data.toList := ⟨_, rfl⟩
    have hok : okT t = (decide (a ≤ 9) && decide (b ≤ 4)) := by unfold okT; rw [← ha, ← hb]; simp [h10]
    have hpa : parseS t = ⟨(a : Nat), g, (b : Nat)⟩ := by unfold parseS; rw [← ha, ← hb, ← hg]
    have hi0 := fun w => run_index_text (P := Tryd.prog) 9 t .i64 0 a Tryd.underlying9 (by omega) (by rw [ha, List.getD_eq_getElem?_getD, List.getElem?_eq_getElem (by simp; omega)]; rfl) w
    have hi1 := fun w => run_index_text (P := Tryd.prog) 9 t .i64 1 b Tryd.underlying9 (by omega) (by rw [hb, List.getD_eq_getElem?_getD, List.getElem?_eq_getElem (by simp; omega)]; rfl) w
    rw [show ((0 : Nat) : Int) = 0 from rfl] at hi0
    rw [show ((1 : Nat) : Int) = 1 from rfl] at hi1
    simp only [← hg] at cG
    obtain ⟨tz, htz⟩ : ∃ z, z = t.extract 2 10 := ⟨_, rfl⟩
    have htz' : t.extract 2 10 = tz := htz.symm
    rw [htz'] at cG
    have hsz : (t.size : Int) = 10 := by omega
    have ha256 : a < 256 := by rw [ha]; exact UInt8.toNat_lt _
    have hb256 : b < 256 := by rw [hb]; exact UInt8.toNat_lt _
    rw [hok, hpa]
    replace cG := hid cG
    clear ha hb hg hok hpa htz hx ht
    by_cases h9 : a ≤ 9
    · have h9' : ¬ (9 : Int) < (a : Int) := by omega
      have h9b : decide ((9 : Int) < (a : Int)) = false := decide_eq_false h9'
      by_cases h4 : b ≤ 4
      · have h4' : ¬ (4 : Int) < (b : Int) := by omega
        have h4b : decide ((4 : Int) < (b : Int)) = false := decide_eq_false h4'
        rw [if_pos (by simp [h9, h4]), if_pos (by simp [h9, h4])]
        go_wp2_with (go_at_call 61; refine (cG.out _).mono ?_; rintro e w1 ⟨rfl, rfl⟩)
        go_region
        all_goals go_wp2
        all_goals exact bodyPost_ret (results_row_tmp rfl _ _ w.heap.size 47 (OSt.mk (a : Nat) g (b : Nat)).cells (0, 0) _ rfl (RowAt.new _ _ _).drew Tryd.underlying47 rfl (by rw [infoOt]; rfl)) rfl ⟨rfl, (below_al (Below.refl _ _) _).drew⟩
      · have h4' : (4 : Int) < (b : Int) := by omega
        have h4b : decide ((4 : Int) < (b : Int)) = true := decide_eq_true h4'
        rw [if_neg (by simp [h9, h4]), if_neg (by simp [h9, h4])]
        go_wp2
        exact bodyPost_ret (results_row_tmp rfl _ _ w.heap.size 47 (OSt.mk 0 0 0).cells (0, 0) _ rfl (RowAt.new _ _ _) Tryd.underlying47 rfl (by rw [infoOt]; rfl)) rfl ⟨rfl, below_al (Below.refl _ _) _⟩
    · have h9' : (9 : Int) < (a : Int) := by omega
      have h9b : decide ((9 : Int) < (a : Int)) = true := decide_eq_true h9'
      rw [if_neg (by simp [h9]), if_neg (by simp [h9])]
      go_wp2
      exact bodyPost_ret (results_row_tmp rfl _ _ w.heap.size 47 (OSt.mk 0 0 0).cells (0, 0) _ rfl (RowAt.new _ _ _) Tryd.underlying47 rfl (by rw [infoOt]; rfl)) rfl ⟨rfl, below_al (Below.refl _ _) _⟩
  · have hsz : ((t.size : Int) != 10) = true := by rw [bne_iff_ne]; omega
    have hok : okT t = false := by unfold okT; simp [h10]
    rw [if_neg (by simp [hok]), if_neg (by simp [hok])]
    go_wp2
    exact bodyPost_ret (results_row_tmp rfl _ _ w.heap.size 47 (OSt.mk 0 0 0).cells (0, 0) _ rfl (RowAt.new _ _ _) Tryd.underlying47 rfl (by rw [infoOt]; rfl)) rfl ⟨rfl, below_al (Below.refl _ _) _⟩

theorem parse_at (t : ByteArray) (ht : t.size ≤ 1000000) (u : OSt) (k : Int) (h : (okT t = true ∧ parseS t = u ∧ k = 0) ∨ (okT t = false ∧ u = ⟨0, 0, 0⟩ ∧ k = 4)) (w : World) :
    Calls Tryd.prog 38 #[.string t] w fun e w' => e = .returned (.tuple #[.agg #[.int .i64 u.tries, .int .u64 (u.dl : Nat), .int .i64 u.over], .int .i64 k]) ∧ Below w.heap.size w w' := by
  have := parse_any t ht w
  rcases h with ⟨h1, h2, rfl⟩ | ⟨h1, rfl, rfl⟩
  · rw [if_pos h1, if_pos h1, h2] at this; exact this
  · rw [if_neg (by simp [h1]), if_neg (by simp [h1])] at this; exact this
theorem otext_at (s : OSt) (T : ByteArray) (h : s.text = T) (w : World) : Calls Tryd.prog 39 #[.agg #[.int .i64 s.tries, .int .u64 (s.dl : Nat), .int .i64 s.over]] w fun e w' => e = .returned (.string T) ∧ Below w.heap.size w w' := by
  subst h; exact otext_any s w

theorem text_list (t : ByteArray) (h10 : t.size = 10) : t.data.toList = [t.data.toList.getD 0 0, t.data.toList.getD 1 0] ++ (t.extract 2 10).data.toList := by
  have hl : t.data.toList.length = 10 := by simpa using h10
  have he : (t.extract 2 10).data.toList = (t.data.toList.take 10).drop 2 := by
    simp [ByteArray.data_extract, List.extract_eq_take_drop, List.drop_take]
  rw [he]
  generalize t.data.toList = L at *
  clear he
  match L, hl with
  | [a, b, c, d, e, f, g, h, i, j], _ => rfl
theorem two_of (a b : UInt8) : (twoS ((a.toNat : Nat) : Int) ((b.toNat : Nat) : Int)).data.toList = [a, b] := by
  have hc : ∀ c : UInt8, UInt8.ofNat (((c.toNat : Nat) : Int) % 256).toNat = c := fun c => by
    have := c.toNat_lt
    rw [show (((c.toNat : Nat) : Int) % 256).toNat = c.toNat by omega]; simp
  unfold twoS; rw [hc, hc]
theorem text_of_parse (t : ByteArray) (h : okT t = true) : (parseS t).text = t := by
  have h10 : t.size = 10 := by
    unfold okT at h
    rw [Bool.and_eq_true] at h
    exact of_decide_eq_true h.1
  have h8 : (t.extract 2 10).size = 8 := by rw [ByteArray.size_extract]; omega
  have hp := beS_getN (s := t.extract 2 10) (by omega)
  rw [h8, show clip8 ((8 : Nat) : Int) = 8 from rfl] at hp
  have hl := text_list t h10
  rw [same_eq, OSt.text, ByteArray.data_append, Array.toList_append]
  rw [hl]
  unfold parseS
  rw [two_of]
  simp only
  rw [hp]
theorem okT_text (s : OSt) : okT s.text = (decide ((s.tries % 256).toNat ≤ 9) && decide ((s.over % 256).toNat ≤ 4)) := by
  have h0 : s.text.data.toList = [UInt8.ofNat (s.tries % 256).toNat, UInt8.ofNat (s.over % 256).toNat] ++ (beS s.dl 8).data.toList := by
    unfold OSt.text twoS; simp
  unfold okT
  rw [OSt.text_size, h0]
  have h1 : (s.tries % 256).toNat % 256 = (s.tries % 256).toNat := by omega
  have h2 : (s.over % 256).toNat % 256 = (s.over % 256).toNat := by omega
  simp [h1, h2]
theorem parse_of_text (s : OSt) (h1 : 0 ≤ s.tries) (h2 : s.tries ≤ 9) (h3 : 0 ≤ s.over) (h4 : s.over ≤ 4) (hd : s.dl < 18446744073709551616) : parseS s.text = s := by
  have h0 : s.text.data.toList = [UInt8.ofNat (s.tries % 256).toNat, UInt8.ofNat (s.over % 256).toNat] ++ (beS s.dl 8).data.toList := by
    unfold OSt.text twoS; simp
  have he : s.text.extract 2 10 = beS s.dl 8 := by
    unfold OSt.text
    apply ByteArray.ext; apply Array.ext'
    simp [ByteArray.data_extract, List.extract_eq_take_drop, twoS]
    have : (beS s.dl 8).data.toList.length = 8 := by have := beS_size s.dl 8; simpa using this
    rw [List.take_of_length_le (by omega)]
  have hg : getN (beS s.dl 8).data.toList = s.dl := by
    have h5 : (beL s.dl 8).length = 8 := beL_length _ _
    have h6 := getN_lt (beL s.dl 8)
    have h7 := beL_getN (beL s.dl 8)
    rw [h5] at h6 h7
    exact be_inj 8 _ _ h6 (Nat.lt_of_lt_of_le hd (by decide)) h7
  unfold parseS
  rw [he, hg, h0]
  obtain ⟨t, d, o⟩ := s
  simp only at h1 h2 h3 h4
  simp
  omega

set_option maxRecDepth 100000 in
set_option maxHeartbeats 40000000 in
theorem otpTexts_small (t : Int) (d : Nat) (o : Int) (x : ByteArray) (hx : x.size ≤ 100) (ht1 : -9223372036854775808 ≤ t) (ht2 : t ≤ 9223372036854775807) (ho1 : -9223372036854775808 ≤ o) (ho2 : o ≤ 9223372036854775807) (hd : d < 18446744073709551616) (w : World) :
    Calls Tryd.prog 9 #[.agg #[.int .i64 t, .int .u64 (d : Nat), .int .i64 o], .string x] w fun e w' => e = .returned (.bool true) ∧ Below w.heap.size w w' := by
  have cA := hid otpAwake_any
  have h1 : ¬ (100 : Int) < (x.size : Int) := by omega
  have h1' : decide ((100 : Int) < (x.size : Int)) = false := decide_eq_false h1
  have cT0 := fun w => otext_at ⟨t, d, o⟩ (OSt.mk t d o).text rfl w
  have hUs := OSt.text_size ⟨t, d, o⟩
  have hUe : (OSt.mk t d o).text = twoS t o ++ beS d 8 := rfl
  have hkU := okT_text ⟨t, d, o⟩
  have hpU := fun h1 h2 h3 h4 => parse_of_text ⟨t, d, o⟩ h1 h2 h3 h4 hd
  have cPU : ∀ (u : OSt) (k : Int), ((okT (OSt.mk t d o).text = true ∧ parseS (OSt.mk t d o).text = u ∧ k = 0) ∨ (okT (OSt.mk t d o).text = false ∧ u = ⟨0, 0, 0⟩ ∧ k = 4)) → ∀ w, Calls Tryd.prog 38 #[.string (OSt.mk t d o).text] w fun e w' => e = .returned (.tuple #[.agg #[.int .i64 u.tries, .int .u64 (u.dl : Nat), .int .i64 u.over], .int .i64 k]) ∧ Below w.heap.size w w' := fun u k h w => parse_at _ (by omega) u k h w
  obtain ⟨U, hU⟩ : ∃ U, U = (OSt.mk t d o).text := ⟨_, rfl⟩
  rw [← hU] at hUs hUe hkU hpU cPU
  simp only [← hU] at cT0
  have cQ0 := fun w => rput_any d 8 w hd
  rw [show clip8 8 = 8 by decide] at cQ0
  obtain ⟨s2, hs2⟩ : ∃ s2, s2 = twoS t o := ⟨_, rfl⟩
  rw [← hs2] at hUe
  have hs2' : (⟨#[UInt8.ofNat (t % 256).toNat, UInt8.ofNat (o % 256).toNat]⟩ : ByteArray) = s2 := hs2.symm
  have hs2s : s2.size = 2 := by rw [hs2]; rfl
  have hcat : ¬ 9223372036854775807 < s2.size + (beS d 8).size := by rw [hs2s, beS_size]; omega
  have hU' : s2 ++ beS d 8 = U := hUe.symm
  replace hs2 := hid hs2
  have cT := hid cT0
  have cQ := hid cQ0
  clear hU hUe cT0 cQ0
  -- the text that came in
  have first : (∃ a b : Nat, x.size = 10 ∧ a = (x.data.toList.getD 0 0).toNat ∧ b = (x.data.toList.getD 1 0).toNat) ∨ x.size ≠ 10 := by
    by_cases h : x.size = 10
    · exact .inl ⟨_, _, h, rfl, rfl⟩
    · exact .inr h
  -- the state's own text
  have last : ∃ (u : OSt) (k : Int), ((okT U = true ∧ parseS U = u ∧ k = 0) ∨ (okT U = false ∧ u = ⟨0, 0, 0⟩ ∧ k = 4)) ∧ (0 ≤ t → t ≤ 9 → 0 ≤ o → o ≤ 4 → u = ⟨t, d, o⟩ ∧ k = 0) := by
    cases hk : okT U
    · refine ⟨⟨0, 0, 0⟩, 4, .inr ⟨rfl, rfl, rfl⟩, fun a1 a2 a3 a4 => ?_⟩
      rw [hk] at hkU
      simp only at hkU
      rw [eq_comm, Bool.and_eq_false_iff] at hkU
      rcases hkU with h | h
      · have := of_decide_eq_false h; omega
      · have := of_decide_eq_false h; omega
    · exact ⟨parseS U, 0, .inl ⟨rfl, rfl, rfl⟩, fun a1 a2 a3 a4 => ⟨hpU a1 a2 a3 a4, rfl⟩⟩
  obtain ⟨⟨ut, ud, uo⟩, k, hlast, hin⟩ := last
  have cV := hid (cPU _ _ hlast)
  clear hlast cPU hkU hpU
  dsimp only at cV
  have fin : (t < 0) ∨ (0 ≤ t ∧ 9 < t) ∨ (0 ≤ t ∧ t ≤ 9 ∧ o < 0) ∨ (0 ≤ t ∧ t ≤ 9 ∧ 0 ≤ o ∧ 4 < o) ∨ (0 ≤ t ∧ t ≤ 9 ∧ 0 ≤ o ∧ o ≤ 4) := by omega
  have fin2 : ∃ b1 b2 b3 b4 : Bool, (decide (t < 0) = b1 ∧ decide (9 < t) = b2 ∧ decide (o < 0) = b3 ∧ decide (4 < o) = b4) := ⟨_, _, _, _, rfl, rfl, rfl, rfl⟩
  go_enter Tryd.func9, Tryd.ntmps9
  have way : (∃ a b : Nat, x.size = 10 ∧ a = (x.data.toList.getD 0 0).toNat ∧ b = (x.data.toList.getD 1 0).toNat ∧ a ≤ 9 ∧ b ≤ 4) ∨ x.size ≠ 10 ∨ (∃ a b : Nat, x.size = 10 ∧ a = (x.data.toList.getD 0 0).toNat ∧ b = (x.data.toList.getD 1 0).toNat ∧ 9 < a) ∨ (∃ a b : Nat, x.size = 10 ∧ a = (x.data.toList.getD 0 0).toNat ∧ b = (x.data.toList.getD 1 0).toNat ∧ a ≤ 9 ∧ 4 < b) := by
    rcases first with ⟨a, b, h, ha, hb⟩ | h
    · by_cases h9 : a ≤ 9
      · by_cases h4 : b ≤ 4
        · exact .inl ⟨a, b, h, ha, hb, h9, h4⟩
        · exact .inr (.inr (.inr ⟨a, b, h, ha, hb, h9, by omega⟩))
      · exact .inr (.inr (.inl ⟨a, b, h, ha, hb, by omega⟩))
    · exact .inr (.inl h)
  clear first
  rcases way with ⟨a, b, h10, ha, hb, h9, h4⟩ | h10 | ⟨a, b, h10, ha, hb, h9⟩ | ⟨a, b, h10, ha, hb, h9, h4⟩
  case' inl =>
    have hok : okT x = true := by unfold okT; rw [← ha, ← hb]; simp [h10, h9, h4]
    have cP := hid (fun w => parse_at x (by omega) (parseS x) 0 (.inl ⟨hok, rfl, rfl⟩) w)
    have cX := hid (fun w => otext_at (parseS x) x (text_of_parse x hok) w)
    have h9' : (a : Int) ≤ 9 := by omega
    have h9b : decide ((a : Int) ≤ 9) = true := decide_eq_true h9'
    have h4' : (b : Int) ≤ 4 := by omega
    have h4b : decide ((b : Int) ≤ 4) = true := decide_eq_true h4'
    obtain ⟨⟨pt, pd, po⟩, hp⟩ : ∃ p, p = parseS x := ⟨_, rfl⟩
    rw [← hp] at cP cX
    dsimp only at cP cX
    clear hp hok
  case' inr.inl =>
    have hok : okT x = false := by unfold okT; simp [h10]
    have cP := hid (fun w => parse_at x (by omega) ⟨0, 0, 0⟩ 4 (.inr ⟨hok, rfl, rfl⟩) w)
    have hsz : ((x.size : Int) == 10) = false := by rw [beq_eq_false_iff_ne]; omega
    have hsz2 : ¬ (x.size : Int) = 10 := by omega
    clear hok h10
  case' inr.inr.inl =>
    have hok : okT x = false := by unfold okT; rw [← ha, ← hb]; simp; omega
    have cP := hid (fun w => parse_at x (by omega) ⟨0, 0, 0⟩ 4 (.inr ⟨hok, rfl, rfl⟩) w)
    have h9' : ¬ (a : Int) ≤ 9 := by omega
    have h9b : decide ((a : Int) ≤ 9) = false := decide_eq_false h9'
    clear hok
  case' inr.inr.inr =>
    have hok : okT x = false := by unfold okT; rw [← ha, ← hb]; simp; omega
    have cP := hid (fun w => parse_at x (by omega) ⟨0, 0, 0⟩ 4 (.inr ⟨hok, rfl, rfl⟩) w)
    have h9' : (a : Int) ≤ 9 := by omega
    have h9b : decide ((a : Int) ≤ 9) = true := decide_eq_true h9'
    have h4' : ¬ (b : Int) ≤ 4 := by omega
    have h4b : decide ((b : Int) ≤ 4) = false := decide_eq_false h4'
    clear hok
  case' inl | inr.inr.inl | inr.inr.inr =>
    have hsz : (x.size : Int) = 10 := by omega
    have hi0 := fun w => run_index_text (P := Tryd.prog) 9 x .i64 0 a Tryd.underlying9 (by omega) (by rw [ha, List.getD_eq_getElem?_getD, List.getElem?_eq_getElem (by simp; omega)]; rfl) w
    have hi1 := fun w => run_index_text (P := Tryd.prog) 9 x .i64 1 b Tryd.underlying9 (by omega) (by rw [hb, List.getD_eq_getElem?_getD, List.getElem?_eq_getElem (by simp; omega)]; rfl) w
    rw [show ((0 : Nat) : Int) = 0 from rfl] at hi0
    rw [show ((1 : Nat) : Int) = 1 from rfl] at hi1
    clear ha hb h10
  all_goals
    clear hx ht1 ht2 ho1 ho2 fin2
    go_wp2_with (first
      | (go_at_call 33; refine (cA.out _).mono ?_; rintro e w1 ⟨rfl, hB1⟩
         have r := (RowAt.new w _ 47).below hB1 (by simp)
         have hb := below_cat hB1 (below_al (Below.refl w.heap.size w) _))
      | (go_at_call 38; with_reducible refine (cP.out _).mono ?_; rintro e w2 ⟨rfl, hB2⟩
         replace r := r.below hB2 r.lt
         replace hb := below_cat hB2 hb
         obtain ⟨c0, c1, c2⟩ := OSt.readA r)
      | (go_at_call 39; with_reducible refine (cX.out _).mono ?_; rintro e w3 ⟨rfl, hB3⟩
         replace r := (r.alloc _).below hB3 (r.alloc _).lt
         replace hb := below_cat hB3 (below_al hb _)
         obtain ⟨e0, e1, e2⟩ := OSt.read r)
      | (go_at_call 39; with_reducible refine (cT.out _).mono ?_; rintro e w4 ⟨rfl, hB4⟩
         first | (replace r := r.below hB4 r.lt) | (replace r := (r.alloc _).below hB4 (r.alloc _).lt)
         first | (replace hb := below_cat hB4 hb) | (replace hb := below_cat hB4 (below_al hb _))
         clear hB4))
    have r0 := hid r
    have hB0 := hid hb
    clear r hb
    refine wp_region_each 13 108 (phiOf [QV (.string U), QV (.pointer (some ⟨w.heap.size, 0, none⟩)), QV (.int .i64 t), QV (.int .u8 (t % 256)), QV (.pointer (some ⟨w.heap.size, 2, none⟩)), QV (.int .i64 o), QV (.int .u8 (o % 256)), RV 5 #[.int .u8 (t % 256), .int .u8 (o % 256)] 2 2, QV (.string s2), QV (.pointer (some ⟨w.heap.size, 1, none⟩)), QV (.int .u64 (d : Nat)), QV (.string (beS d 8)), QV (.string U)]) (by kernel_rfl) (by kernel_rfl) (by kernel_rfl) (by kernel_rfl) (by kernel_rfl) rfl (phi_stays ?c10_st) ?c10_g ?c10_op ?c10_fin
    case c10_st => simp only [List.forall_mem_cons]; exact ⟨stays_qv _, stays_qv _, stays_qv _, stays_qv _, stays_qv _, stays_qv _, stays_qv _, stays_rv _ _ _ _, stays_qv _, stays_qv _, stays_qv _, stays_qv _, stays_qv _, fun _ h => by cases h⟩
    case c10_g =>
      change ∀ p ∈ ([] : List (Nat × Bool)), _
      intro p hp
      cases hp
    case c10_op =>
      simp only [List.take_succ_cons, List.take_zero]
      refine ⟨fun a V hB hold hdep => ?_, ?_⟩
      · have h8 : a.tmps.getD 8 undef = .string U := (hold 8 (by kernel_rfl)).trans rfl
        unfold OpOk
        simp [execOp, go_sem, eval_tmp, eval_const, eval_func, h8]
        exact ⟨Below.refl _ _, rfl⟩
      refine ⟨fun a V hB hold hdep => ?_, ?_⟩
      · have h2 : a.tmps.getD 2 undef = .pointer (some ⟨w.heap.size, 0, none⟩) := (hold 2 (by kernel_rfl)).trans rfl
        unfold OpOk
        simp [execOp, go_sem, eval_tmp, eval_const, eval_func, h2]
        exact ⟨Below.refl _ _, rfl⟩
      refine ⟨fun a V hB hold hdep => ?_, ?_⟩
      · have h63 : a.tmps.getD 63 undef = .pointer (some ⟨w.heap.size, 0, none⟩) := hdep 1 63 (by kernel_rfl) rfl
        have hc : V.cell? ⟨w.heap.size, 0, none⟩ = some (.int .i64 t) := (r0.out.below hB r0.out.lt).cell rfl
        unfold OpOk
        simp [execOp, go_sem, eval_tmp, eval_const, eval_func, h63, hc]
        exact ⟨Below.refl _ _, rfl⟩
      refine ⟨fun a V hB hold hdep => ?_, ?_⟩
      · have h64 : a.tmps.getD 64 undef = .int .i64 t := hdep 2 64 (by kernel_rfl) rfl
        unfold OpOk
        simp [execOp, go_sem, eval_tmp, eval_const, eval_func, h64]
        exact ⟨Below.refl _ _, rfl⟩
      refine ⟨fun a V hB hold hdep => ?_, ?_⟩
      · have h2 : a.tmps.getD 2 undef = .pointer (some ⟨w.heap.size, 0, none⟩) := (hold 2 (by kernel_rfl)).trans rfl
        unfold OpOk
        simp [execOp, go_sem, eval_tmp, eval_const, eval_func, h2]
        exact ⟨Below.refl _ _, rfl⟩
      refine ⟨fun a V hB hold hdep => ?_, ?_⟩
      · have h66 : a.tmps.getD 66 undef = .pointer (some ⟨w.heap.size, 2, none⟩) := hdep 4 66 (by kernel_rfl) rfl
        have hc : V.cell? ⟨w.heap.size, 2, none⟩ = some (.int .i64 o) := (r0.out.below hB r0.out.lt).cell rfl
        unfold OpOk
        simp [execOp, go_sem, eval_tmp, eval_const, eval_func, h66, hc]
        exact ⟨Below.refl _ _, rfl⟩
      refine ⟨fun a V hB hold hdep => ?_, ?_⟩
      · have h67 : a.tmps.getD 67 undef = .int .i64 o := hdep 5 67 (by kernel_rfl) rfl
        unfold OpOk
        simp [execOp, go_sem, eval_tmp, eval_const, eval_func, h67]
        exact ⟨Below.refl _ _, rfl⟩
      refine ⟨fun a V hB hold hdep => ?_, ?_⟩
      · have h65 : a.tmps.getD 65 undef = .int .u8 (t % 256) := hdep 3 65 (by kernel_rfl) rfl
        have h68 : a.tmps.getD 68 undef = .int .u8 (o % 256) := hdep 6 68 (by kernel_rfl) rfl
        have g65 := (Array.getD_eq_getD_getElem? (xs := a.tmps) (i := 65) (d := undef)).symm.trans h65
        have g68 := (Array.getD_eq_getD_getElem? (xs := a.tmps) (i := 68) (d := undef)).symm.trans h68
        unfold OpOk
        simp [execOp, go_sem, eval_tmp, eval_const, eval_func, g65, g68]
        exact ⟨below_al (Below.refl _ _) _, rv_new _ _ _ _ _⟩
      refine ⟨fun a V hB hold hdep => ?_, ?_⟩
      · obtain ⟨b69, h69, hr69⟩ := hdep 7 69 (by kernel_rfl) rfl
        have hcv := conv_two (P := Tryd.prog) 29 9 5 Tryd.underlying29 Tryd.underlying5 Tryd.underlying9 2 hr69
        unfold OpOk
        simp [execOp, go_sem, eval_tmp, eval_const, eval_func, h69, hcv]
        exact ⟨Below.refl _ _, congrArg Value.string hs2'⟩
      refine ⟨fun a V hB hold hdep => ?_, ?_⟩
      · have h2 : a.tmps.getD 2 undef = .pointer (some ⟨w.heap.size, 0, none⟩) := (hold 2 (by kernel_rfl)).trans rfl
        unfold OpOk
        simp [execOp, go_sem, eval_tmp, eval_const, eval_func, h2]
        exact ⟨Below.refl _ _, rfl⟩
      refine ⟨fun a V hB hold hdep => ?_, ?_⟩
      · have h71 : a.tmps.getD 71 undef = .pointer (some ⟨w.heap.size, 1, none⟩) := hdep 9 71 (by kernel_rfl) rfl
        have hc : V.cell? ⟨w.heap.size, 1, none⟩ = some (.int .u64 (d : Nat)) := (r0.out.below hB r0.out.lt).cell rfl
        unfold OpOk
        simp [execOp, go_sem, eval_tmp, eval_const, eval_func, h71, hc]
        exact ⟨Below.refl _ _, rfl⟩
      refine ⟨fun a V hB hold hdep => ?_, ?_⟩
      · have h72 : a.tmps.getD 72 undef = .int .u64 (d : Nat) := hdep 10 72 (by kernel_rfl) rfl
        unfold OpOk
        simp [execOp, go_sem, eval_tmp, eval_const, eval_func, h72]
        (with_reducible refine (cQ.out _).mono ?_); rintro e W2 ⟨rfl, hb⟩; exact ⟨_, rfl, hb, rfl⟩
      refine ⟨fun a V hB hold hdep => ?_, ?_⟩
      · have h70 : a.tmps.getD 70 undef = .string s2 := hdep 8 70 (by kernel_rfl) rfl
        have h73 : a.tmps.getD 73 undef = .string (beS d 8) := hdep 11 73 (by kernel_rfl) rfl
        unfold OpOk
        simp [execOp, go_sem, eval_tmp, eval_const, eval_func, h70, h73, hcat, hU', hs2s]
        exact ⟨Below.refl _ _, rfl⟩
      trivial
    case c10_fin =>
      intro X V hB hX
      have e62 : X 62 = .string U := hX 0 62 (by decide) rfl
      have e63 : X 63 = .pointer (some ⟨w.heap.size, 0, none⟩) := hX 1 63 (by decide) rfl
      have e64 : X 64 = .int .i64 t := hX 2 64 (by decide) rfl
      have e65 : X 65 = .int .u8 (t % 256) := hX 3 65 (by decide) rfl
      have e66 : X 66 = .pointer (some ⟨w.heap.size, 2, none⟩) := hX 4 66 (by decide) rfl
      have e67 : X 67 = .int .i64 o := hX 5 67 (by decide) rfl
      have e68 : X 68 = .int .u8 (o % 256) := hX 6 68 (by decide) rfl
      obtain ⟨b69, e69, hr69⟩ := hX 7 69 (by decide) rfl
      have e70 : X 70 = .string s2 := hX 8 70 (by decide) rfl
      have e71 : X 71 = .pointer (some ⟨w.heap.size, 1, none⟩) := hX 9 71 (by decide) rfl
      have e72 : X 72 = .int .u64 (d : Nat) := hX 10 72 (by decide) rfl
      have e73 : X 73 = .string (beS d 8) := hX 11 73 (by decide) rfl
      have e74 : X 74 = .string U := hX 12 74 (by decide) rfl
      clear hX
      change wpList Tryd.prog _ _ _ { tmps := putAll [(62, X 62), (63, X 63), (64, X 64), (65, X 65), (66, X 66), (67, X 67), (68, X 68), (69, X 69), (70, X 70), (71, X 71), (72, X 72), (73, X 73), (74, X 74)] _, defers := _ } V
      simp only [Act.put, putAll, List.foldl_cons, List.foldl_nil, List.setIfInBounds_toArray, List.set_cons_zero, List.set_cons_succ, List.drop_succ_cons, List.drop_zero, e62, e63, e64, e65, e66, e67, e68, e69, e70, e71, e72, e73, e74]
      clear e62 e63 e64 e65 e66 e67 e68 e69 e70 e71 e72 e73 e74
      rcases fin with h | ⟨h, g⟩ | ⟨h, g, i⟩ | ⟨h, g, i, j⟩ | ⟨h, g, i, j⟩
      case' inl => have hh : decide (t < 0) = true := decide_eq_true h
      case' inr.inl | inr.inr.inl | inr.inr.inr.inl | inr.inr.inr.inr =>
        have hx1 : ¬ t < 0 := by omega
        have hh : decide (t < 0) = false := decide_eq_false hx1
      case' inr.inl => have hg : decide (9 < t) = true := decide_eq_true g
      case' inr.inr.inl | inr.inr.inr.inl | inr.inr.inr.inr =>
        have hx2 : ¬ 9 < t := by omega
        have hg : decide (9 < t) = false := decide_eq_false hx2
      case' inr.inr.inl => have hi : decide (o < 0) = true := decide_eq_true i
      case' inr.inr.inr.inl | inr.inr.inr.inr =>
        have hx3 : ¬ o < 0 := by omega
        have hi : decide (o < 0) = false := decide_eq_false hx3
      case' inr.inr.inr.inl => have hj : decide (4 < o) = true := decide_eq_true j
      case' inr.inr.inr.inr =>
        have hx4 : ¬ 4 < o := by omega
        have hj : decide (4 < o) = false := decide_eq_false hx4
        obtain ⟨hu1, rfl⟩ := hin h g i j
        simp only [OSt.mk.injEq] at hu1
        obtain ⟨rfl, rfl, rfl⟩ := hu1
      all_goals
        clear hin
        go_wp2_with (go_at_call 38; with_reducible refine (cV.out _).mono ?_; rintro e w5 ⟨rfl, hB5⟩
                     have r6 := (r0.out.below hB r0.out.lt).below hB5 (r0.out.below hB r0.out.lt).lt
                     obtain ⟨f0, f1, f2⟩ := OSt.readA r6
                     have hb5 := hid (below_cat hB5 (below_cat hB hB0.out)))
        go_ret
        exact ⟨rfl, below_al hb5.out _⟩

theorem otpTexts_walk (a0_0 a0_1 a0_2 : Int) (a1 : ByteArray) (w0_0 : (Lit.int .i64 a0_0).wf = true) (w0_1 : (Lit.int .u64 a0_1).wf = true) (w0_2 : (Lit.int .i64 a0_2).wf = true) (w1 : a1.size ≤ 140737488351232) (w : World) :
    Calls Tryd.prog 9 #[.agg #[.int .i64 a0_0, .int .u64 a0_1, .int .i64 a0_2], .string a1] w fun e w' => e = .returned (.bool true) ∧ Below w.heap.size w w' := by
  obtain ⟨d, rfl, hd⟩ := u64_of_wf w0_1
  obtain ⟨t1, t2⟩ := bounds_i64 w0_0
  obtain ⟨o1, o2⟩ := bounds_i64 w0_2
  by_cases h : a1.size ≤ 100
  · exact otpTexts_small a0_0 d a0_2 a1 h (by omega) (by omega) (by omega) (by omega) hd w
  · have cA := hid otpAwake_any
    have h1 : (100 : Int) < (a1.size : Int) := by omega
    have h1' : decide ((100 : Int) < (a1.size : Int)) = true := decide_eq_true h1
    go_enter Tryd.func9, Tryd.ntmps9
    go_wp2_with (go_at_call 33; refine (cA.out _).mono ?_; rintro e w1 ⟨rfl, hB1⟩)
    go_ret
    exact ⟨rfl, below_cat hB1 (below_al (Below.refl _ _) _)⟩
end Go.Proofs.YtbbjoahloghpkaaDoor
