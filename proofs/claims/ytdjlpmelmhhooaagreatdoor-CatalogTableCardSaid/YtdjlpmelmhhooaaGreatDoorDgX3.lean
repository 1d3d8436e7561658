/- Digits: the document's Days, Date. -/
import Derived.Test.YtdjlpmelmhhooaaGreatDoorDgX2
import Derived.Maps.AppendAt
import Derived.OwnWalk
namespace Go.Proofs.YtdjlpmelmhhooaaGreatDoor
section
open Go Go.RowKit
set_option linter.unusedSimpArgs false

set_option maxRecDepth 100000 in
set_option maxHeartbeats 8000000 in
theorem refDays_any (y m : Int) (w : World) : Calls Tryz.prog 107 #[.int .i64 y, .int .i64 m] w fun e w' => e = .returned (.int .i64 (daysN y m : Nat)) ∧ Below w.heap.size w w' := by
  go_enter Tryz.func107, Tryz.ntmps107
  by_cases h0' : y < 0
  · have hD := hid (days_none y m (by omega))
    have h0 : decide (y < 0) = true := decide_eq_true h0'
    go_wp2
    go_ret
    exact ⟨by rw [hD.out]; rfl, Below.refl _ _⟩
  have h0 : decide (y < 0) = false := decide_eq_false h0'
  by_cases h1' : 9999 < y
  · have hD := hid (days_none y m (by omega))
    have h1 : decide (9999 < y) = true := decide_eq_true h1'
    go_wp2
    go_ret
    exact ⟨by rw [hD.out]; rfl, Below.refl _ _⟩
  have h1 : decide (9999 < y) = false := decide_eq_false h1'
  by_cases h2' : m < 1
  · have hD := hid (days_none y m (by omega))
    have h2 : decide (m < 1) = true := decide_eq_true h2'
    go_wp2
    go_ret
    exact ⟨by rw [hD.out]; rfl, Below.refl _ _⟩
  have h2 : decide (m < 1) = false := decide_eq_false h2'
  by_cases h3' : 12 < m
  · have hD := hid (days_none y m (by omega))
    have h3 : decide (12 < m) = true := decide_eq_true h3'
    go_wp2
    go_ret
    exact ⟨by rw [hD.out]; rfl, Below.refl _ _⟩
  have h3 : decide (12 < m) = false := decide_eq_false h3'
  obtain ⟨n, rfl⟩ : ∃ n : Nat, y = (n : Int) := ⟨y.toNat, by omega⟩
  have hb : ¬ ((n : Int) < 0 ∨ 9999 < (n : Int)) := by omega
  obtain ⟨D, hD⟩ : ∃ D, D = daysN (n : Int) m := ⟨_, rfl⟩
  rw [← hD]
  unfold daysN at hD
  rw [if_neg hb] at hD
  clear hb
  have hmm : m = 1 ∨ m = 2 ∨ m = 3 ∨ m = 4 ∨ m = 5 ∨ m = 6 ∨ m = 7 ∨ m = 8 ∨ m = 9 ∨ m = 10 ∨ m = 11 ∨ m = 12 := by omega
  clear h2 h2' h3 h3'
  have cell : ∀ (A : Array Value) (j : Nat) (v : Value), A[j]? = some v → (w.alloc (.cells A 3)).cell? ⟨w.heap.size, j, none⟩ = some v := fun A j v h => (RowAt.new w A 3).cell h
  rcases hmm with rfl | rfl | rfl | rfl | rfl | rfl | rfl | rfl | rfl | rfl | rfl | rfl
  case inr.inl =>
    have hL : D = if leapN (n : Int) then 29 else 28 := by simpa using hD
    clear hD
    by_cases a : (n : Int) % 4 = 0
    · have a' : ((n : Int) % 4 == 0) = true := by rw [beq_iff_eq]; exact a
      by_cases b : (n : Int) % 100 = 0
      · have b' : ((n : Int) % 100 != 0) = false := by rw [b]; rfl
        by_cases c : (n : Int) % 400 = 0
        · have c' : ((n : Int) % 400 == 0) = true := by rw [beq_iff_eq]; exact c
          obtain rfl : D = 29 := by rw [hL]; simp [leapN, a, b, c]
          clear hL a b c
          go_wp2
          go_ret
          exact ⟨rfl, below_al (Below.refl _ _) _⟩
        · have c' : ((n : Int) % 400 == 0) = false := by rw [beq_eq_false_iff_ne]; exact c
          obtain rfl : D = 28 := by rw [hL]; simp [leapN, a, b, c]
          clear hL a b c
          go_wp2
          go_ret
          exact ⟨rfl, below_al (Below.refl _ _) _⟩
      · have b' : ((n : Int) % 100 != 0) = true := by rw [bne_iff_ne]; exact b
        obtain rfl : D = 29 := by rw [hL]; simp [leapN, a, b]
        clear hL a b
        go_wp2
        go_ret
        exact ⟨rfl, below_al (Below.refl _ _) _⟩
    · have a' : ((n : Int) % 4 == 0) = false := by rw [beq_eq_false_iff_ne]; exact a
      have c' : ((n : Int) % 400 == 0) = false := by rw [beq_eq_false_iff_ne]; omega
      obtain rfl : D = 28 := by rw [hL]; simp [leapN, a]
      clear hL a
      go_wp2
      go_ret
      exact ⟨rfl, below_al (Below.refl _ _) _⟩
  all_goals
    simp at hD
    subst hD
    go_wp2
    go_ret
    exact ⟨rfl, below_al (Below.refl _ _) _⟩
end
section
open Go Go.RowKit
set_option linter.unusedSimpArgs false

theorem info_int' : (Tryz.prog.info? 3).map (fun i => (i.zero, i.size, i.bytes)) = some (some (.int .i64 0), 1, 8) := by kernel_rfl
def IntRow (w : World) (base : Nat) (v : Value) (ns : List Nat) : Prop := w.ownsRow base 3 1 v ns.length (ns.map fun (n : Nat) => Value.int .i64 (n : Int))
theorem IntRow.shape {base : Nat} {v : Value} {ns : List Nat} {W : World} (h : IntRow W base v ns) {n : Nat} (hn : ns.length = n) : ∃ p c, v = .slice p n c ∧ (0 < n → ∃ g, p = some ⟨g, 0, none⟩) := by
  subst hn
  rcases h.2 with ⟨hv, h0⟩ | ⟨g, cap, _, hv, _⟩
  · exact ⟨none, 0, by rw [hv, h0], fun h => by omega⟩
  · exact ⟨_, cap, hv, fun _ => ⟨g, rfl⟩⟩
theorem IntRow.at {base g c k : Nat} {ns : List Nat} {W : World} (h : IntRow W base (.slice (some ⟨g, 0, none⟩) k c) ns) {j n : Nat} (hj : ns[j]? = some n) : W.cell? ⟨g, j, none⟩ = some (.int .i64 (n : Int)) := by
  have := World.ownsRow.cells h (g := g) rfl j (.int .i64 (n : Int)) (by rw [List.getElem?_map, hj]; rfl)
  rw [show ((⟨g, 0, none⟩ : Addr).add j) = ⟨g, j, none⟩ by unfold Addr.add; split <;> simp_all] at this
  exact this
theorem below_grown_i {B : Nat} {a w w' : World} {row : Option Nat} (h : Below B a w) (hg : w.grownBy w' row) (hr : ∀ k, row = some k → B ≤ k) (hB : B ≤ a.heap.size) : Below B a w' :=
  h.trans ⟨hg.os, hg.tape, hg.output, hg.size, fun k hk => hg.block k (by have := h.size; omega) (fun e => by have := hr k e.symm; omega)⟩

theorem none_or (o : Option Nat) : o = none ∨ o ≠ none := by cases o <;> simp
def lenN (k : Nat) : Nat := [4, 2, 2, 2, 2, 2].getD k 0
def offN (k : Nat) : Nat := [0, 4, 6, 8, 10, 12, 14].getD k 0
theorem off_len : ∀ k, k < 6 → offN (k + 1) = offN k + lenN k ∧ lenN k ≤ 4 ∧ 1 ≤ lenN k ∧ offN k + lenN k ≤ 14 := by decide
def lenRow : Array Value := #[.int .i64 4, .int .i64 2, .int .i64 2, .int .i64 2, .int .i64 2, .int .i64 2]
theorem lenRow_get : ∀ k, k < 6 → lenRow[k]? = some (.int .i64 (lenN k : Nat)) := fun k h => by
  have : k = 0 ∨ k = 1 ∨ k = 2 ∨ k = 3 ∨ k = 4 ∨ k = 5 := by omega
  rcases this with rfl | rfl | rfl | rfl | rfl | rfl <;> rfl
def partsL (l : List UInt8) (k : Nat) : List Nat := (List.range k).map fun k => datePart l (offN k) (lenN k)
theorem partsL_succ (l : List UInt8) (k : Nat) : partsL l (k + 1) = partsL l k ++ [datePart l (offN k) (lenN k)] := by simp [partsL, List.range_succ]
theorem partsL_len (l : List UInt8) (k : Nat) : (partsL l k).length = k := by simp [partsL]
theorem datePart_succ (l : List UInt8) (a j : Nat) (h : a + j < l.length) : datePart l a (j + 1) = datePart l a j * 10 + (l[a + j].toNat - 48) := by
  unfold datePart
  have h1 : j < (l.drop a).length := by rw [List.length_drop]; omega
  rw [List.take_succ_eq_append_getElem h1, List.getElem_drop]
  simp [valF]

set_option maxRecDepth 100000 in
set_option maxHeartbeats 8000000 in
theorem refDate_any (s : ByteArray) (hs : s.size ≤ 140737488351232) (w : World) : Calls Tryz.prog 69 #[.string s] w fun e w' => e = .returned (.int .i64 (dateN s.data.toList : Nat)) ∧ Below w.heap.size w w' := by
  have cI := fun w => refIs_any s hs w
  have hlen : s.data.toList.length = s.size := by simp
  by_cases h14 : s.size = 14
  · cases hnum : isNum s.data.toList with
    | false =>
      simp only [hnum] at cI
      have hD : dateN s.data.toList = 4 := by rw [dateN, if_pos (.inr hnum)]
      replace cI := hid cI
      replace hD := hid hD
      have e1 : ((s.size : Int) != 14) = false := by rw [h14]; rfl
      clear hnum h14
      go_enter Tryz.func69, Tryz.ntmps69
      go_wp2_with (go_at_call 66; refine (cI.out _).mono ?_; rintro e w1 ⟨rfl, rfl⟩)
      go_ret
      exact ⟨by rw [hD.out]; rfl, Below.refl _ _⟩
    | true =>
      simp only [hnum] at cI
      have hd := isNum_dig hnum
      have hD : dateN s.data.toList = if dateBad s.data.toList then 7 else 0 := by rw [dateN, if_neg (by rw [hlen, h14, hnum]; simp)]
      have e1 : ((s.size : Int) != 14) = false := by rw [h14]; rfl
      obtain ⟨i, hi, hz0, hz1, hz2⟩ := info_parts info_int'
      replace hi := hid hi
      replace hz0 := hid hz0
      replace hz1 := hid hz1
      replace hz2 := hid hz2
      replace cI := hid cI
      replace hd := hid hd
      replace hD := hid hD
      replace hlen := hid hlen
      clear hnum
      go_enter Tryz.func69, Tryz.ntmps69
      go_wp2_with (go_at_call 66; refine (cI.out _).mono ?_; rintro e w1 ⟨rfl, rfl⟩)
      have hr0 : RowAt (w.alloc (.cells lenRow 3)) w.heap.size 3 lenRow := RowAt.new _ _ _
      have hB0 : Below w.heap.size w (w.alloc (.cells lenRow 3)) := below_al (Below.refl _ _) _
      have hz : (w.alloc (.cells lenRow 3)).heap.size = w.heap.size + 1 := by simp
      rw [show (#[.int .i64 4, .int .i64 2, .int .i64 2, .int .i64 2, .int .i64 2, .int .i64 2] : Array Value) = lenRow from rfl]
      obtain ⟨W0, hW0⟩ : ∃ W0, W0 = w.alloc (.cells lenRow 3) := ⟨_, rfl⟩
      rw [← hW0] at hr0 hB0 hz ⊢
      clear hW0
      replace hr0 := hid hr0
      replace hB0 := hid hB0
      replace hz := hid hz
      go_loopw [3, 4, 19] (fun v at' ix wr => ∃ k : Nat, ix = .int .i64 k ∧ at' = .int .i64 (offN k : Nat) ∧ k ≤ 6 ∧ Hid (IntRow wr (w.heap.size + 1) v (partsL s.data.toList k)) ∧ Hid (RowAt wr w.heap.size 3 lenRow) ∧ Hid (Below w.heap.size w wr) ∧ w.heap.size + 1 ≤ wr.heap.size)
        (fun _ _ ix _ => 6 - (intOf ix).toNat)
      case atStart => exact ⟨0, rfl, rfl, by omega, hid (World.ownsRow_nil _ _ _ _), hr0, hB0, by rw [hz.out]; omega⟩
      case round =>
        obtain ⟨k, rfl, rfl, hk, hn, hrow, hB, hsz⟩ := hrel
        by_cases hlt : k < 6
        · obtain ⟨ho1, ho2, ho3, ho4⟩ := off_len k hlt
          have hcell := hrow.out.cell (lenRow_get k hlt)
          obtain ⟨L, hL⟩ : ∃ L, L = lenN k := ⟨_, rfl⟩
          obtain ⟨O, hO⟩ : ∃ O, O = offN k := ⟨_, rfl⟩
          rw [← hL] at ho1 ho2 ho3 ho4 hcell
          rw [← hO] at ho1 ho4
          rw [← hO]
          have hki : (k : Int) < 6 := by omega
          replace ho1 := hid ho1
          replace hL := hid hL
          replace hO := hid hO
          clear hr0 hB0
          go_wp2
          go_loopw [7, 8] (fun v p wz => ∃ j n : Nat, p = .int .i64 ((O + j : Nat) : Int) ∧ v = .int .i64 (n : Nat) ∧ j ≤ L ∧ Hid (n = datePart s.data.toList O j) ∧ n < 10 ^ j ∧ wz = wr) (fun _ p _ => O + L - (intOf p).toNat)
          case atStart => exact ⟨0, 0, rfl, rfl, by omega, hid rfl, by omega, rfl⟩
          case round =>
            obtain ⟨j, n, rfl, rfl, hj, hnv, hnl, rfl⟩ := hrel
            by_cases hjl : j < L
            · have hpos : O + j < s.data.toList.length := by rw [hlen.out, h14]; omega
              have hdg := isDig_get hd.out hpos
              have hst := datePart_succ s.data.toList O j hpos
              obtain ⟨c, hc⟩ : ∃ c, c = s.data.toList[O + j].toNat := ⟨_, rfl⟩
              have hidx := fun w => run_index_text (P := Tryz.prog) 9 s .i64 (O + j) c Tryz.underlying9 (by omega) (by rw [hc]; rfl) w
              rw [← hc] at hdg hst
              rw [← hnv.out] at hst
              obtain ⟨hc1, hc2⟩ := hdg
              obtain ⟨P, hP⟩ : ∃ P, P = O + j := ⟨_, rfl⟩
              rw [← hP] at hidx ⊢
              obtain ⟨d, hdd⟩ : ∃ d, d = c - 48 := ⟨_, rfl⟩
              have hsub : (c : Int) - 48 = (d : Int) := by omega
              have hd9 : d ≤ 9 := by omega
              rw [← hdd] at hst
              replace hst := hid hst
              have hn9 : n < 1000 := by
                have : 10 ^ j ≤ 10 ^ 3 := Nat.pow_le_pow_right (by decide) (by omega)
                omega
              have hPl : (P : Int) < (O : Int) + (L : Int) := by omega
              have hOs : O ≤ 14 := by omega
              have hnx : n * 10 + d < 10 ^ (j + 1) := by rw [Nat.pow_succ]; exact (fun p (h : n < p) => (by omega : n * 10 + d < p * 10)) _ hnl
              replace hnx := hid hnx
              have hP14 : P ≤ 14 := by omega
              replace hP := hid hP
              clear hc hdd hpos hnl
              go_wp2
              go_roundw
              case rel => exact ⟨j + 1, n * 10 + d, by have := hP.out; go_num, by go_num, by omega, hid hst.out.symm, hnx.out, by first | trivial | rfl⟩
              case measure => have := hP.out; simp [intOf]; omega
            · obtain rfl : j = L := by omega
              have hnL : n < 10000 := by
                have : 10 ^ j ≤ 10 ^ 4 := Nat.pow_le_pow_right (by decide) (by omega)
                omega
              have hOs : O ≤ 14 := by omega
              have hjl' : ¬ ((O : Int) + (j : Int) < (O : Int) + (j : Int)) := by omega
              have hpl : (partsL s.data.toList k).length ≤ 6 := by rw [partsL_len]; omega
              have hnxt : partsL s.data.toList (k + 1) = partsL s.data.toList k ++ [n] := by rw [partsL_succ, hnv.out, hO.out, hL.out]
              obtain ⟨Q, hQ⟩ : ∃ Q, Q = partsL s.data.toList k := ⟨_, rfl⟩
              rw [← hQ] at hpl hnxt hn
              replace hnxt := hid hnxt
              clear hnl hQ
              have hws := hB.out.size
              go_wp2_with (at_builtin; refine wpList_append_own_at _ rfl _ _ 96 rfl (w.heap.size + 1) 3 i _ 1 8 Tryz.underlying96 hi.out hz0.out hz1.out hz2.out rfl (by decide) _ _ _ rfl (hn.out.alloc _) ⟨wr.heap.size, 0, none⟩ 1 1 [.int .i64 (n : Int)] rfl rfl (cell_one_new _ _ _) (fun x hx => by simp at hx; subst hx; rfl) (by unfold maxLen; omega) (by omega) (by simp; omega) ?_; intro v1 w2 hown1 hgrow1 hnil1 hat1)
              go_roundw
              have hlt2 : ∀ g, u3.ownBlock = some g → w.heap.size + 1 ≤ g := fun g hg => (World.ownsRow.lt hn.out g hg).1
              case rel =>
                exact ⟨k + 1, by go_num, by have := ho1.out; go_num, by omega, hid (by unfold IntRow; rw [hnxt.out]; simpa using hown1),
                  hid ((hgrow1.block _ (by simp; omega) (fun e => by have := hlt2 _ e.symm; omega)).trans (hrow.out.alloc _)),
                  hid (below_grown_i (below_al hB.out _) hgrow1 (fun g hg => by have := hlt2 g hg; omega) (Nat.le_refl _)), by have := hgrow1.size; simp at this; omega⟩
              case measure => simp [intOf]; omega
        · obtain rfl : k = 6 := by omega
          clear hr0 hB0
          obtain ⟨p, cp, hv, hg⟩ := hn.out.shape (partsL_len _ 6)
          subst hv
          obtain ⟨g, rfl⟩ := hg (by omega)
          obtain ⟨Y, hY⟩ : ∃ n, n = datePart s.data.toList 0 4 := ⟨_, rfl⟩
          obtain ⟨M, hM⟩ : ∃ n, n = datePart s.data.toList 4 2 := ⟨_, rfl⟩
          obtain ⟨D, hDd⟩ : ∃ n, n = datePart s.data.toList 6 2 := ⟨_, rfl⟩
          obtain ⟨H, hH⟩ : ∃ n, n = datePart s.data.toList 8 2 := ⟨_, rfl⟩
          obtain ⟨I, hI⟩ : ∃ n, n = datePart s.data.toList 10 2 := ⟨_, rfl⟩
          obtain ⟨S, hS⟩ : ∃ n, n = datePart s.data.toList 12 2 := ⟨_, rfl⟩
          have hL : partsL s.data.toList 6 = [Y, M, D, H, I, S] := by rw [hY, hM, hDd, hH, hI, hS]; rfl
          rw [hL] at hn
          have hbad : dateBad s.data.toList = (decide (D < 1) || (decide (daysN (Y : Nat) (M : Nat) < D) || (decide (23 < H) || (decide (59 < I) || decide (59 < S))))) := by rw [dateBad, ← hY, ← hM, ← hDd, ← hH, ← hI, ← hS]
          obtain ⟨N, hN⟩ : ∃ n, n = daysN (Y : Nat) (M : Nat) := ⟨_, rfl⟩
          have cD := fun w => refDays_any (Y : Nat) (M : Nat) w
          rw [← hN] at hbad
          simp only [← hN] at cD
          replace hD := hD.out
          rw [hbad] at hD
          have cells : ∀ (q : Sub wr) (j n : Nat), [Y, M, D, H, I, S][j]? = some n → q.x.cell? ⟨g, j, none⟩ = some (.int .i64 (n : Int)) := fun q j n h =>
            IntRow.at (World.ownsRow.kept (row := none) hn.out ⟨q.h.os, q.h.tape, q.h.output, q.h.size, fun k hk _ => q.h.block k hk⟩ (none_or _)) h
          have k0 := fun q => cells q 0 Y rfl
          have k1 := fun q => cells q 1 M rfl
          have k2 := fun q => cells q 2 D rfl
          have k3 := fun q => cells q 3 H rfl
          have k4 := fun q => cells q 4 I rfl
          have k5 := fun q => cells q 5 S rfl
          obtain ⟨r, hr⟩ : ∃ r, r = dateN s.data.toList := ⟨_, rfl⟩
          rw [← hr] at hD
          replace hr := hid hr
          clear hY hM hDd hH hI hS hN hbad hL cells hn hrow
          replace cD := hid cD
          go_wp2
          by_cases a1 : D < 1
          case' pos =>
            have t1 : decide ((D : Int) < 1) = true := decide_eq_true (by omega)
            have t1' : (D : Int) < 1 := by omega
            have hD : r = 7 := by rw [hD]; simp [a1]
          case' neg =>
            have t1 : decide ((D : Int) < 1) = false := decide_eq_false (by omega)
            have t1' : ¬ (D : Int) < 1 := by omega
            by_cases a2 : N < D
            case' pos =>
              have t2 : decide ((N : Int) < (D : Int)) = true := decide_eq_true (by omega)
              have t2' : (N : Int) < (D : Int) := by omega
              have hD : r = 7 := by rw [hD]; simp [a2]
            case' neg =>
              have t2 : decide ((N : Int) < (D : Int)) = false := decide_eq_false (by omega)
              have t2' : ¬ (N : Int) < (D : Int) := by omega
              by_cases a3 : 23 < H
              case' pos =>
                have t3 : decide ((23 : Int) < (H : Int)) = true := decide_eq_true (by omega)
                have t3' : (23 : Int) < (H : Int) := by omega
                have hD : r = 7 := by rw [hD]; simp [a3]
              case' neg =>
                have t3 : decide ((23 : Int) < (H : Int)) = false := decide_eq_false (by omega)
                have t3' : ¬ (23 : Int) < (H : Int) := by omega
                by_cases a4 : 59 < I
                case' pos =>
                  have t4 : decide ((59 : Int) < (I : Int)) = true := decide_eq_true (by omega)
                  have t4' : (59 : Int) < (I : Int) := by omega
                  have hD : r = 7 := by rw [hD]; simp [a4]
                case' neg =>
                  have t4 : decide ((59 : Int) < (I : Int)) = false := decide_eq_false (by omega)
                  have t4' : ¬ (59 : Int) < (I : Int) := by omega
                  by_cases a5 : 59 < S
                  case' pos =>
                    have t5 : decide ((59 : Int) < (S : Int)) = true := decide_eq_true (by omega)
                    have t5' : (59 : Int) < (S : Int) := by omega
                    have hD : r = 7 := by rw [hD]; simp [a5]
                  case' neg =>
                    have t5 : decide ((59 : Int) < (S : Int)) = false := decide_eq_false (by omega)
                    have t5' : ¬ (59 : Int) < (S : Int) := by omega
                    have hD : r = 0 := by rw [hD]; simp [a1, a2, a3, a4, a5]
          all_goals
            replace hD := hid hD
            refine wp_region_sub (by kernel_rfl) (by kernel_rfl) ?_
            repeat (go_big_quiet_step (first | (go_at_call 107; refine Sub.call _ (cD.out _))))
            refine wpQuiet_nil ?_
            intro q
            go_wp2
            go_ret
            exact ⟨by rw [← hr.out]; first | rfl | (rw [hD.out]; rfl), below_cat q.h hB.out⟩
  · have hD : dateN s.data.toList = 4 := by rw [dateN, if_pos (.inl (by rw [hlen]; exact h14))]
    replace hD := hid hD
    have e1 : ((s.size : Int) != 14) = true := by rw [bne_iff_ne]; omega
    go_enter Tryz.func69, Tryz.ntmps69
    go_wp2
    go_ret
    exact ⟨by rw [hD.out]; rfl, Below.refl _ _⟩
end
end Go.Proofs.YtdjlpmelmhhooaaGreatDoor
