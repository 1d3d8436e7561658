/- The alphabets by their number; the document's Letters, Bits, bit. -/
import Derived.Test.YtbedanlkkidkkadBas3
namespace Go.Proofs.Ytbedanlkkidkkad
open Go Go.RowKit
set_option linter.unusedSimpArgs false

def KL (n : Nat) : ByteArray := if n = 0 then hexL else if n = 1 then stdL else urlL
def Kk (n : Nat) : Nat := if n = 0 then 4 else 6
def Kf (n : Nat) : Bool := decide (n = 1)
theorem kind_good (n : Nat) : Good (KL n) (Kk n) (Kf n) := by
  unfold KL Kk Kf
  by_cases h0 : n = 0
  · subst h0; exact good_hex
  · rw [if_neg h0, if_neg h0]
    by_cases h1 : n = 1
    · subst h1; exact good_std
    · rw [if_neg h1, decide_eq_false h1]; exact good_url

set_option maxRecDepth 100000 in
theorem refLetters_any (n : Nat) (w : World) : Calls Try.prog 13 #[.int .i64 (n : Int)] w fun e w' => e = .returned (.string (KL n)) ∧ w = w' := by
  unfold KL
  by_cases h0 : n = 0
  · subst h0
    go_enter Try.func13, Try.ntmps13
    go_wp2
    go_ret
    exact ⟨rfl, rfl⟩
  · have h0' : ((n : Int) == 0) = false := by rw [beq_eq_false_iff_ne]; omega
    rw [if_neg h0]
    by_cases h1 : n = 1
    · subst h1
      go_enter Try.func13, Try.ntmps13
      go_wp2
      go_ret
      exact ⟨rfl, rfl⟩
    · have h1' : ((n : Int) == 1) = false := by rw [beq_eq_false_iff_ne]; omega
      rw [if_neg h1]
      go_enter Try.func13, Try.ntmps13
      go_wp2
      go_ret
      exact ⟨rfl, rfl⟩
theorem refBits_any (n : Nat) (w : World) : Calls Try.prog 24 #[.int .i64 (n : Int)] w fun e w' => e = .returned (.int .i64 (Kk n : Nat)) ∧ w = w' := by
  unfold Kk
  by_cases h0 : n = 0
  · subst h0
    go_enter Try.func24, Try.ntmps24
    go_wp2
    go_ret
    exact ⟨rfl, rfl⟩
  · have h0' : ((n : Int) == 0) = false := by rw [beq_eq_false_iff_ne]; omega
    rw [if_neg h0]
    go_enter Try.func24, Try.ntmps24
    go_wp2
    go_ret
    exact ⟨rfl, rfl⟩

theorem results_cellT {P : Program} {fn : Func} {p : Tmp} {ty : TypeId} (h : fn.results = #[.cell p ty]) (tmps : Array Value) (w : World) (b : Nat) (L : ByteArray) (k : Nat) (f : Bool) (hp : tmps.getD p undef = .pointer (some ⟨b, 0, none⟩))
    (ha : ∀ w, (isAgg ty).run P w = .ok true w) (hz : ∀ w, (sizeOf ty).run P w = .ok 3 w) (hr : RowAt w b ty #[.string L, .int .i64 (k : Int), .bool f]) : (results fn tmps).run P w = .ok (alpha L k f) w := results_agg h tmps w b _ _ _ hp ha hz hr
set_option maxRecDepth 100000 in
theorem alphabet_any (n : Nat) (w : World) : Calls Try.prog 8 #[.int .i64 (n : Int)] w fun e w' => e = .returned (alpha (KL n) (Kk n) (Kf n)) ∧ Below w.heap.size w w' := by
  have LH := hid fun w => hex_any w
  have LS := hid fun w => std_any w
  have LU := hid fun w => url_any w
  unfold KL Kk Kf
  by_cases h0 : n = 0
  · subst h0
    unfold alpha at LH
    go_enter Try.func8, Try.ntmps8
    go_wp2_with (go_at_call 17; refine (LH.out _).mono ?_; rintro e w1 ⟨rfl, hB1⟩
                 have r1 := (RowAt.new w #[.string ⟨#[]⟩, .int .i64 0, .bool false] 24).below hB1 (by simp)
                 have f1 := fun j => r1.free j
                 have c0 : w1.cell? ⟨w.heap.size, 0, none⟩ = some (.string ⟨#[]⟩) := r1.cell rfl
                 have c1 : w1.cell? ⟨w.heap.size, 1, none⟩ = some (.int .i64 0) := r1.cell rfl
                 have c2 : w1.cell? ⟨w.heap.size, 2, none⟩ = some (.bool false) := r1.cell rfl)
    refine bodyPost_ret (results_cellT rfl _ _ w.heap.size hexL 4 false rfl Try.isAgg24 Try.sizeOf24 ((((r1.set 0 _).set 1 _).set 2 _).eqA (by simp))) rfl ?_
    exact ⟨rfl, (((below_cat hB1 (below_al (Below.refl w.heap.size w) _)).setCell (Nat.le_refl _) _).setCell (Nat.le_refl _) _).setCell (Nat.le_refl _) _⟩
  · have h0' : ((n : Int) == 0) = false := by rw [beq_eq_false_iff_ne]; omega
    rw [if_neg h0, if_neg h0]
    by_cases h1 : n = 1
    · subst h1
      unfold alpha at LS
      go_enter Try.func8, Try.ntmps8
      go_wp2_with (go_at_call 16; refine (LS.out _).mono ?_; rintro e w1 ⟨rfl, hB1⟩
                   have r1 := (RowAt.new w #[.string ⟨#[]⟩, .int .i64 0, .bool false] 24).below hB1 (by simp)
                   have f1 := fun j => r1.free j
                   have c0 : w1.cell? ⟨w.heap.size, 0, none⟩ = some (.string ⟨#[]⟩) := r1.cell rfl
                   have c1 : w1.cell? ⟨w.heap.size, 1, none⟩ = some (.int .i64 0) := r1.cell rfl
                   have c2 : w1.cell? ⟨w.heap.size, 2, none⟩ = some (.bool false) := r1.cell rfl)
      refine bodyPost_ret (results_cellT rfl _ _ w.heap.size stdL 6 true rfl Try.isAgg24 Try.sizeOf24 ((((r1.set 0 _).set 1 _).set 2 _).eqA (by simp))) rfl ?_
      exact ⟨rfl, (((below_cat hB1 (below_al (Below.refl w.heap.size w) _)).setCell (Nat.le_refl _) _).setCell (Nat.le_refl _) _).setCell (Nat.le_refl _) _⟩
    · have h1' : ((n : Int) == 1) = false := by rw [beq_eq_false_iff_ne]; omega
      rw [if_neg h1, decide_eq_false h1]
      unfold alpha at LU
      go_enter Try.func8, Try.ntmps8
      go_wp2_with (go_at_call 18; refine (LU.out _).mono ?_; rintro e w1 ⟨rfl, hB1⟩
                   have r1 := (RowAt.new w #[.string ⟨#[]⟩, .int .i64 0, .bool false] 24).below hB1 (by simp)
                   have f1 := fun j => r1.free j
                   have c0 : w1.cell? ⟨w.heap.size, 0, none⟩ = some (.string ⟨#[]⟩) := r1.cell rfl
                   have c1 : w1.cell? ⟨w.heap.size, 1, none⟩ = some (.int .i64 0) := r1.cell rfl
                   have c2 : w1.cell? ⟨w.heap.size, 2, none⟩ = some (.bool false) := r1.cell rfl)
      refine bodyPost_ret (results_cellT rfl _ _ w.heap.size urlL 6 false rfl Try.isAgg24 Try.sizeOf24 ((((r1.set 0 _).set 1 _).set 2 _).eqA (by simp))) rfl ?_
      exact ⟨rfl, (((below_cat hB1 (below_al (Below.refl w.heap.size w) _)).setCell (Nat.le_refl _) _).setCell (Nat.le_refl _) _).setCell (Nat.le_refl _) _⟩

/-- A bit of a text. -/
def bitAt (s : List UInt8) (i : Nat) : Nat := (bitsOf s).getD i 0
set_option maxRecDepth 100000 in
theorem bit_any (s : ByteArray) (i : Nat) (hs : s.size ≤ 100000) (hi : i ≤ 10000000) (w : World) :
    Calls Try.prog 25 #[.string s, .int .i64 (i : Int)] w fun e w' => e = .returned (.int .i64 (bitAt s.data.toList i : Nat)) ∧ w = w' := by
  by_cases h : i / 8 < s.size
  · have hb : bitAt s.data.toList i = s[i / 8].toNat / 2 ^ (7 - i % 8) % 2 := by
      rw [bitAt, List.getD_eq_getElem?_getD, bitsOf_get _ _ (by simpa using h)]; rfl
    have hd : decide ((s.size : Int) ≤ (i : Int) / 8) = false := by rw [decide_eq_false_iff_not]; omega
    have hlt : (i : Int) / 8 < (s.size : Int) := by omega
    obtain ⟨j, hj⟩ : ∃ j, j = i / 8 := ⟨_, rfl⟩
    have hji : (i : Int) / 8 = (j : Int) := by omega
    obtain ⟨m, hm⟩ : ∃ m, m = 7 - i % 8 := ⟨_, rfl⟩
    have hmi : (7 : Int) - (i : Int) % 8 = (m : Int) := by omega
    have hm7 : m ≤ 7 := by omega
    rw [hji] at hd hlt
    rw [← hm] at hb
    have h2 : j < s.size := by omega
    have hb2 : bitAt s.data.toList i = (s[j]'h2).toNat / 2 ^ m % 2 := by subst hj; exact hb
    clear hb
    have hb := hb2
    clear hb2
    have hc := (s[j]'h2).toNat_lt
    obtain ⟨c, hc0⟩ : ∃ c, c = (s[j]'h2).toNat := ⟨_, rfl⟩
    replace hb := hid hb
    clear hm hj
    replace hc0 := hid hc0
    go_enter Try.func25, Try.ntmps25
    go_wp2
    replace hc0 := hc0.out
    rw [← hc0]
    rw [← hc0] at hc
    have hb' : bitAt s.data.toList i = c / 2 ^ m % 2 := by rw [hc0]; exact hb.out
    replace hb' := hid hb'
    clear hc0 hb
    go_loop [5, 6] (fun v x => ∃ q : Nat, q ≤ m ∧ x = .int .i64 q ∧ v = .int .i64 (c / 2 ^ q : Nat)) (fun _ x => m - (intOf x).toNat)
    case atStart => exact ⟨0, Nat.zero_le _, rfl, by simp⟩
    case round =>
      obtain ⟨q, hq, rfl, rfl⟩ := hrel
      by_cases hqm : q < m
      · have hd' : decide ((q : Int) < (m : Int)) = true := by rw [decide_eq_true_iff]; omega
        have hdiv : c / 2 ^ (q + 1) = c / 2 ^ q / 2 := by rw [Nat.pow_succ, Nat.div_div_eq_div_mul]
        have hle : c / 2 ^ q ≤ 256 := Nat.le_trans (Nat.div_le_self _ _) (by omega)
        obtain ⟨v, hv⟩ : ∃ v, v = c / 2 ^ q := ⟨_, rfl⟩
        rw [← hv] at hdiv hle ⊢
        replace hdiv := hid hdiv
        clear hv
        go_wp2
        go_round
        case rel => exact ⟨q + 1, by omega, by go_num, by rw [hdiv.out]; go_num⟩
        case measure => simp [intOf]; omega
      · obtain rfl : q = m := by omega
        have hle : c / 2 ^ q ≤ 256 := Nat.le_trans (Nat.div_le_self _ _) (by omega)
        obtain ⟨v, hv⟩ : ∃ v, v = c / 2 ^ q := ⟨_, rfl⟩
        rw [← hv] at hb' hle ⊢
        clear hv
        go_wp2
        go_ret
        exact ⟨ret_int (by rw [hb'.out]; simp), rfl⟩
  · have hb : bitAt s.data.toList i = 0 := by
      rw [bitAt, List.getD_eq_getElem?_getD, List.getElem?_eq_none (by rw [bitsOf_len]; simp; omega)]; rfl
    have hd : decide ((s.size : Int) ≤ (i : Int) / 8) = true := by rw [decide_eq_true_iff]; omega
    rw [hb]
    clear hb
    go_enter Try.func25, Try.ntmps25
    go_wp2
    go_ret
    exact ⟨rfl, rfl⟩
end Go.Proofs.Ytbedanlkkidkkad
