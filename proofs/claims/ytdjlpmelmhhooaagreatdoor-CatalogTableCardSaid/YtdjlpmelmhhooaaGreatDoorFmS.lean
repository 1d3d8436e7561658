/- Format: the document's Fits, kind by kind. Printed by mkFmS.py. -/
import Derived.Test.YtdjlpmelmhhooaaGreatDoorFmE
import Derived.Test.YtdjlpmelmhhooaaGreatDoorFmR
import Derived.Test.YtdjlpmelmhhooaaGreatDoorUtfY
import Derived.Test.YtdjlpmelmhhooaaGreatDoorDgX3
namespace Go.Proofs.YtdjlpmelmhhooaaGreatDoor
open Go Go.RowKit
set_option linter.unusedSimpArgs false
set_option linter.unusedVariables false

theorem infoRefRule : (Tryz.prog.info? 42).map (·.size) = some 4 := by kernel_rfl
theorem numsShape {base : Nat} {v : Value} {ns : List Nat} {W : World} (h : Nums W base v ns) : ∃ p c, v = .slice p ns.length c ∧ (0 < ns.length → ∃ g, p = some ⟨g, 0, none⟩) := by
  rcases h.2 with ⟨hv, h0⟩ | ⟨g, cap, _, hv, _⟩
  · exact ⟨none, 0, by rw [hv, h0], fun h => by omega⟩
  · exact ⟨_, cap, hv, fun _ => ⟨g, rfl⟩⟩
theorem numsAt {base g c k : Nat} {ns : List Nat} {W : World} (h : Nums W base (.slice (some ⟨g, 0, none⟩) k c) ns) {j n : Nat} (hj : ns[j]? = some n) : W.cell? ⟨g, j, none⟩ = some (.int .i64 (n : Int)) := by
  have := World.ownsRow.cells h (g := g) rfl j (.int .i64 (n : Int)) (by rw [List.getElem?_map, hj]; rfl)
  rw [show ((⟨g, 0, none⟩ : Addr).add j) = ⟨g, j, none⟩ by unfold Addr.add; split <;> simp_all] at this
  exact this
theorem refDecStd (t : ByteArray) (ht : t.size ≤ 10000) : ∃ (d : ByteArray) (ok : Bool), (ok = true → enc stdL 6 true d.data.toList = t.data.toList) ∧ (ok = false → ∀ o, enc stdL 6 true o ≠ t.data.toList) ∧
    ∀ w, Calls Tryz.prog 50 #[.int .i64 1, .string t] w fun e w' => e = .returned (.tuple #[.string d, .bool ok]) ∧ Below w.heap.size w w' := by
  have h := fun w => refDecode_any 1 t ht w
  unfold refV at h
  have hiff := decR_iff good_std t.data.toList
  unfold decR at hiff
  rw [show KL 1 = stdL from rfl, show Kk 1 = 6 from rfl, show Kf 1 = true from rfl] at h
  cases hsc : scanA stdL (headOf true t.data.toList) with
  | none =>
    rw [hsc] at h hiff
    exact ⟨_, false, fun h => by (cases h), fun _ o ho => by (have := (hiff o).2 ho; simp at this), h⟩
  | some vs =>
    rw [hsc] at h hiff
    refine ⟨_, _, fun hok => ?_, fun hok o ho => ?_, h⟩
    · have := of_decide_eq_true hok
      simpa using this
    · have h1 := (hiff o).2 ho
      have h2 := of_decide_eq_false hok
      simp at h1
      first
        | exact h2 h1.1
        | exact h2 (h1.2 ▸ ho)
        | exact h2 (h1 ▸ ho)

set_option maxRecDepth 100000 in
set_option maxHeartbeats 8000000 in
theorem rfits_bad (k : Int) (mn mx : Int) (a : Option Addr) (n c : Nat) (ss : List ByteArray) (s : ByteArray) (hs : s.size ≤ 1000) (w : World) (hS : IsStrs w a n ss) (er : Int) (hc : chkN k mn mx n = er) (he : er ≠ 0) :
    Calls Tryz.prog 23 #[.agg (ruleA k mn mx (.slice a n c)), .string s] w fun e w' => e = .returned (.bool false) ∧ Below w.heap.size w w' := by
  have r := hid (RowAt.new w #[.int .i64 k, .int .i64 mn, .int .i64 mx, .slice a n c] 42)
  have b := hid (below_al (Below.refl w.heap.size w) (.cells #[.int .i64 k, .int .i64 mn, .int .i64 mx, .slice a n c] 42))
  replace hS := hid (hS.alloc (.cells #[.int .i64 k, .int .i64 mn, .int .i64 mx, .slice a n c] 42))
  have LC := hid (fun w => ruleRefCheck_any k mn mx a n c w)
  unfold ruleA at LC
  have he1 : (er != 0) = true := by rw [bne_iff_ne]; exact he
  rw [hc] at LC
  clear hc he
  unfold ruleA
  go_enter Tryz.func23, Tryz.ntmps23
  go_wp2_with (first
    | (with_reducible refine at_op (some 19) (.load 42 (.tmp 2)) ?_
       refine wpList_load_row (o := ⟨some 19, _, _, _, _, _⟩) rfl 42 (.tmp 2) rfl w.heap.size rfl 42 _ (0, 0) _ r.out Tryz.underlying42 rfl infoRefRule ?_)
    | (go_at_call 25; with_reducible refine (LC.out _).mono ?_; rintro e W ⟨rfl, hB⟩
       replace r := hid (r.out.below hB r.out.lt)
       replace b := hid (below_cat hB b.out)
       replace hS := hid (hS.out.below hB)
       clear hB
       try clear k0 k1 k2 k3
       have k0 := r.out.cell (j := 0) rfl
       have k1 := r.out.cell (j := 1) rfl
       have k2 := r.out.cell (j := 2) rfl
       have k3 := r.out.cell (j := 3) rfl))
  go_ret
  exact ⟨rfl, b.out⟩

set_option maxRecDepth 100000 in
set_option maxHeartbeats 8000000 in
theorem rfits5 (mn mx : Int) (a : Option Addr) (n c : Nat) (ss : List ByteArray) (s : ByteArray) (hs : s.size ≤ 1000) (w : World) (hS : IsStrs w a n ss) (hc : chkN 5 mn mx n = 0) :
    Calls Tryz.prog 23 #[.agg (ruleA 5 mn mx (.slice a n c)), .string s] w fun e w' => e = .returned (.bool (kindB 5 mn mx ss s)) ∧ Below w.heap.size w w' := by
  have r := hid (RowAt.new w #[.int .i64 5, .int .i64 mn, .int .i64 mx, .slice a n c] 42)
  have b := hid (below_al (Below.refl w.heap.size w) (.cells #[.int .i64 5, .int .i64 mn, .int .i64 mx, .slice a n c] 42))
  replace hS := hid (hS.alloc (.cells #[.int .i64 5, .int .i64 mn, .int .i64 mx, .slice a n c] 42))
  have LC := hid (fun w => ruleRefCheck_any 5 mn mx a n c w)
  unfold ruleA at LC
  rw [hc] at LC
  have LK : ∀ w, Calls Tryz.prog 68 #[.string s] w fun e w' => e = .returned (.int .i64 (cardN s.data.toList : Nat)) ∧ Below w.heap.size w w' := fun w => (refCard_any s (by omega) w).mono fun e w' ⟨h1, h2⟩ => ⟨h1, by rw [← h2]; exact Below.refl _ _⟩
  have hk : kindB 5 mn mx ss s = decide (cardN s.data.toList = 0) := by simp [kindB]
  rw [hk]
  obtain ⟨u, hu⟩ : ∃ u, u = cardN s.data.toList := ⟨_, rfl⟩
  rw [← hu] at LK ⊢
  replace LK := hid LK
  clear hc hk hu
  unfold ruleA
  by_cases h0 : u = 0
  · subst h0
    go_enter Tryz.func23, Tryz.ntmps23
    go_wp2_with (first
      | (with_reducible refine at_op (some 19) (.load 42 (.tmp 2)) ?_
         refine wpList_load_row (o := ⟨some 19, _, _, _, _, _⟩) rfl 42 (.tmp 2) rfl w.heap.size rfl 42 _ (0, 0) _ r.out Tryz.underlying42 rfl infoRefRule ?_)
      | (go_at_call 25; with_reducible refine (LC.out _).mono ?_; rintro e W ⟨rfl, hB⟩
         replace r := hid (r.out.below hB r.out.lt)
         replace b := hid (below_cat hB b.out)
         replace hS := hid (hS.out.below hB)
         clear hB
         try clear k0 k1 k2 k3
         have k0 := r.out.cell (j := 0) rfl
         have k1 := r.out.cell (j := 1) rfl
         have k2 := r.out.cell (j := 2) rfl
         have k3 := r.out.cell (j := 3) rfl)
      | (go_at_call 68; with_reducible refine (LK.out _).mono ?_; rintro e W ⟨rfl, hB⟩
         replace r := hid (r.out.below hB r.out.lt)
         replace b := hid (below_cat hB b.out)
         replace hS := hid (hS.out.below hB)
         clear hB
         try clear k0 k1 k2 k3
         have k0 := r.out.cell (j := 0) rfl
         have k1 := r.out.cell (j := 1) rfl
         have k2 := r.out.cell (j := 2) rfl
         have k3 := r.out.cell (j := 3) rfl))
    go_ret
    exact ⟨rfl, b.out⟩
  · have hd : ((u : Int) == 0) = false := by rw [beq_eq_false_iff_ne]; omega
    have hd2 : decide (u = 0) = false := by simpa using h0
    rw [hd2]
    clear h0 hd2
    go_enter Tryz.func23, Tryz.ntmps23
    go_wp2_with (first
      | (with_reducible refine at_op (some 19) (.load 42 (.tmp 2)) ?_
         refine wpList_load_row (o := ⟨some 19, _, _, _, _, _⟩) rfl 42 (.tmp 2) rfl w.heap.size rfl 42 _ (0, 0) _ r.out Tryz.underlying42 rfl infoRefRule ?_)
      | (go_at_call 25; with_reducible refine (LC.out _).mono ?_; rintro e W ⟨rfl, hB⟩
         replace r := hid (r.out.below hB r.out.lt)
         replace b := hid (below_cat hB b.out)
         replace hS := hid (hS.out.below hB)
         clear hB
         try clear k0 k1 k2 k3
         have k0 := r.out.cell (j := 0) rfl
         have k1 := r.out.cell (j := 1) rfl
         have k2 := r.out.cell (j := 2) rfl
         have k3 := r.out.cell (j := 3) rfl)
      | (go_at_call 68; with_reducible refine (LK.out _).mono ?_; rintro e W ⟨rfl, hB⟩
         replace r := hid (r.out.below hB r.out.lt)
         replace b := hid (below_cat hB b.out)
         replace hS := hid (hS.out.below hB)
         clear hB
         try clear k0 k1 k2 k3
         have k0 := r.out.cell (j := 0) rfl
         have k1 := r.out.cell (j := 1) rfl
         have k2 := r.out.cell (j := 2) rfl
         have k3 := r.out.cell (j := 3) rfl))
    go_ret
    exact ⟨rfl, b.out⟩

set_option maxRecDepth 100000 in
set_option maxHeartbeats 8000000 in
theorem rfits6 (mn mx : Int) (a : Option Addr) (n c : Nat) (ss : List ByteArray) (s : ByteArray) (hs : s.size ≤ 1000) (w : World) (hS : IsStrs w a n ss) (hc : chkN 6 mn mx n = 0) :
    Calls Tryz.prog 23 #[.agg (ruleA 6 mn mx (.slice a n c)), .string s] w fun e w' => e = .returned (.bool (kindB 6 mn mx ss s)) ∧ Below w.heap.size w w' := by
  have r := hid (RowAt.new w #[.int .i64 6, .int .i64 mn, .int .i64 mx, .slice a n c] 42)
  have b := hid (below_al (Below.refl w.heap.size w) (.cells #[.int .i64 6, .int .i64 mn, .int .i64 mx, .slice a n c] 42))
  replace hS := hid (hS.alloc (.cells #[.int .i64 6, .int .i64 mn, .int .i64 mx, .slice a n c] 42))
  have LC := hid (fun w => ruleRefCheck_any 6 mn mx a n c w)
  unfold ruleA at LC
  rw [hc] at LC
  have LK : ∀ w, Calls Tryz.prog 69 #[.string s] w fun e w' => e = .returned (.int .i64 (dateN s.data.toList : Nat)) ∧ Below w.heap.size w w' := fun w => refDate_any s (by omega) w
  have hk : kindB 6 mn mx ss s = decide (dateN s.data.toList = 0) := by simp [kindB]
  rw [hk]
  obtain ⟨u, hu⟩ : ∃ u, u = dateN s.data.toList := ⟨_, rfl⟩
  rw [← hu] at LK ⊢
  replace LK := hid LK
  clear hc hk hu
  unfold ruleA
  by_cases h0 : u = 0
  · subst h0
    go_enter Tryz.func23, Tryz.ntmps23
    go_wp2_with (first
      | (with_reducible refine at_op (some 19) (.load 42 (.tmp 2)) ?_
         refine wpList_load_row (o := ⟨some 19, _, _, _, _, _⟩) rfl 42 (.tmp 2) rfl w.heap.size rfl 42 _ (0, 0) _ r.out Tryz.underlying42 rfl infoRefRule ?_)
      | (go_at_call 25; with_reducible refine (LC.out _).mono ?_; rintro e W ⟨rfl, hB⟩
         replace r := hid (r.out.below hB r.out.lt)
         replace b := hid (below_cat hB b.out)
         replace hS := hid (hS.out.below hB)
         clear hB
         try clear k0 k1 k2 k3
         have k0 := r.out.cell (j := 0) rfl
         have k1 := r.out.cell (j := 1) rfl
         have k2 := r.out.cell (j := 2) rfl
         have k3 := r.out.cell (j := 3) rfl)
      | (go_at_call 69; with_reducible refine (LK.out _).mono ?_; rintro e W ⟨rfl, hB⟩
         replace r := hid (r.out.below hB r.out.lt)
         replace b := hid (below_cat hB b.out)
         replace hS := hid (hS.out.below hB)
         clear hB
         try clear k0 k1 k2 k3
         have k0 := r.out.cell (j := 0) rfl
         have k1 := r.out.cell (j := 1) rfl
         have k2 := r.out.cell (j := 2) rfl
         have k3 := r.out.cell (j := 3) rfl))
    go_ret
    exact ⟨rfl, b.out⟩
  · have hd : ((u : Int) == 0) = false := by rw [beq_eq_false_iff_ne]; omega
    have hd2 : decide (u = 0) = false := by simpa using h0
    rw [hd2]
    clear h0 hd2
    go_enter Tryz.func23, Tryz.ntmps23
    go_wp2_with (first
      | (with_reducible refine at_op (some 19) (.load 42 (.tmp 2)) ?_
         refine wpList_load_row (o := ⟨some 19, _, _, _, _, _⟩) rfl 42 (.tmp 2) rfl w.heap.size rfl 42 _ (0, 0) _ r.out Tryz.underlying42 rfl infoRefRule ?_)
      | (go_at_call 25; with_reducible refine (LC.out _).mono ?_; rintro e W ⟨rfl, hB⟩
         replace r := hid (r.out.below hB r.out.lt)
         replace b := hid (below_cat hB b.out)
         replace hS := hid (hS.out.below hB)
         clear hB
         try clear k0 k1 k2 k3
         have k0 := r.out.cell (j := 0) rfl
         have k1 := r.out.cell (j := 1) rfl
         have k2 := r.out.cell (j := 2) rfl
         have k3 := r.out.cell (j := 3) rfl)
      | (go_at_call 69; with_reducible refine (LK.out _).mono ?_; rintro e W ⟨rfl, hB⟩
         replace r := hid (r.out.below hB r.out.lt)
         replace b := hid (below_cat hB b.out)
         replace hS := hid (hS.out.below hB)
         clear hB
         try clear k0 k1 k2 k3
         have k0 := r.out.cell (j := 0) rfl
         have k1 := r.out.cell (j := 1) rfl
         have k2 := r.out.cell (j := 2) rfl
         have k3 := r.out.cell (j := 3) rfl))
    go_ret
    exact ⟨rfl, b.out⟩

set_option maxRecDepth 100000 in
set_option maxHeartbeats 8000000 in
theorem rfits1 (mn mx : Int) (a : Option Addr) (n c : Nat) (ss : List ByteArray) (s : ByteArray) (hs : s.size ≤ 1000) (w : World) (hS : IsStrs w a n ss) (hc : chkN 1 mn mx n = 0) :
    Calls Tryz.prog 23 #[.agg (ruleA 1 mn mx (.slice a n c)), .string s] w fun e w' => e = .returned (.bool (kindB 1 mn mx ss s)) ∧ Below w.heap.size w w' := by
  have LN : ∀ w, Calls Tryz.prog 66 #[.string s] w fun e w' => e = .returned (.bool (isNum s.data.toList)) ∧ Below w.heap.size w w' := fun w => (refIs_any s (by omega) w).mono fun e w' ⟨h1, h2⟩ => ⟨h1, by rw [← h2]; exact Below.refl _ _⟩
  replace LN := hid LN
  have r := hid (RowAt.new w #[.int .i64 1, .int .i64 mn, .int .i64 mx, .slice a n c] 42)
  have b := hid (below_al (Below.refl w.heap.size w) (.cells #[.int .i64 1, .int .i64 mn, .int .i64 mx, .slice a n c] 42))
  replace hS := hid (hS.alloc (.cells #[.int .i64 1, .int .i64 mn, .int .i64 mx, .slice a n c] 42))
  have LC := hid (fun w => ruleRefCheck_any 1 mn mx a n c w)
  unfold ruleA at LC
  rw [hc] at LC
  clear hc
  unfold ruleA
  by_cases g1 : mn ≤ (s.size : Int)
  · have g1' : decide (mn ≤ (s.size : Int)) = true := decide_eq_true g1
    by_cases g2 : (s.size : Int) ≤ mx
    · have g2' : decide ((s.size : Int) ≤ mx) = true := decide_eq_true g2
      have hin : (decide (mn ≤ (s.size : Int)) && decide ((s.size : Int) ≤ mx)) = true := by rw [g1', g2']; rfl
      by_cases h0 : s.size = 0
      · have he : ((s.size : Int) == 0) = true := by rw [beq_iff_eq]; omega
        have hf : kindB 1 mn mx ss s = true := by unfold kindB inB; rw [hin]; simp [h0]
        rw [hf]
        clear hf hin
        replace h0 := hid h0
        go_enter Tryz.func23, Tryz.ntmps23
        go_wp2_with (first
          | (with_reducible refine at_op (some 19) (.load 42 (.tmp 2)) ?_
             refine wpList_load_row (o := ⟨some 19, _, _, _, _, _⟩) rfl 42 (.tmp 2) rfl w.heap.size rfl 42 _ (0, 0) _ r.out Tryz.underlying42 rfl infoRefRule ?_)
          | (go_at_call 25; with_reducible refine (LC.out _).mono ?_; rintro e W ⟨rfl, hB⟩
             replace r := hid (r.out.below hB r.out.lt)
             replace b := hid (below_cat hB b.out)
             replace hS := hid (hS.out.below hB)
             clear hB
             try clear k0 k1 k2 k3
             have k0 := r.out.cell (j := 0) rfl
             have k1 := r.out.cell (j := 1) rfl
             have k2 := r.out.cell (j := 2) rfl
             have k3 := r.out.cell (j := 3) rfl)
          | (go_at_call 66; with_reducible refine (LN.out _).mono ?_; rintro e W ⟨rfl, hB⟩
             replace r := hid (r.out.below hB r.out.lt)
             replace b := hid (below_cat hB b.out)
             replace hS := hid (hS.out.below hB)
             clear hB
             try clear k0 k1 k2 k3
             have k0 := r.out.cell (j := 0) rfl
             have k1 := r.out.cell (j := 1) rfl
             have k2 := r.out.cell (j := 2) rfl
             have k3 := r.out.cell (j := 3) rfl))
        go_ret
        exact ⟨rfl, b.out⟩
      · have he : ((s.size : Int) == 0) = false := by rw [beq_eq_false_iff_ne]; omega
        cases hn : isNum s.data.toList with
        | false =>
          rw [hn] at LN
          have hf : kindB 1 mn mx ss s = false := by unfold kindB; rw [hn]; simp [h0]
          rw [hf]
          clear hf hin hn
          replace h0 := hid h0
          go_enter Tryz.func23, Tryz.ntmps23
          go_wp2_with (first
            | (with_reducible refine at_op (some 19) (.load 42 (.tmp 2)) ?_
               refine wpList_load_row (o := ⟨some 19, _, _, _, _, _⟩) rfl 42 (.tmp 2) rfl w.heap.size rfl 42 _ (0, 0) _ r.out Tryz.underlying42 rfl infoRefRule ?_)
            | (go_at_call 25; with_reducible refine (LC.out _).mono ?_; rintro e W ⟨rfl, hB⟩
               replace r := hid (r.out.below hB r.out.lt)
               replace b := hid (below_cat hB b.out)
               replace hS := hid (hS.out.below hB)
               clear hB
               try clear k0 k1 k2 k3
               have k0 := r.out.cell (j := 0) rfl
               have k1 := r.out.cell (j := 1) rfl
               have k2 := r.out.cell (j := 2) rfl
               have k3 := r.out.cell (j := 3) rfl)
            | (go_at_call 66; with_reducible refine (LN.out _).mono ?_; rintro e W ⟨rfl, hB⟩
               replace r := hid (r.out.below hB r.out.lt)
               replace b := hid (below_cat hB b.out)
               replace hS := hid (hS.out.below hB)
               clear hB
               try clear k0 k1 k2 k3
               have k0 := r.out.cell (j := 0) rfl
               have k1 := r.out.cell (j := 1) rfl
               have k2 := r.out.cell (j := 2) rfl
               have k3 := r.out.cell (j := 3) rfl))
          go_ret
          exact ⟨rfl, b.out⟩
        | true =>
          rw [hn] at LN
          have hf : kindB 1 mn mx ss s = true := by unfold kindB inB; rw [hin, hn]; simp [h0]
          rw [hf]
          clear hf hin hn
          replace h0 := hid h0
          go_enter Tryz.func23, Tryz.ntmps23
          go_wp2_with (first
            | (with_reducible refine at_op (some 19) (.load 42 (.tmp 2)) ?_
               refine wpList_load_row (o := ⟨some 19, _, _, _, _, _⟩) rfl 42 (.tmp 2) rfl w.heap.size rfl 42 _ (0, 0) _ r.out Tryz.underlying42 rfl infoRefRule ?_)
            | (go_at_call 25; with_reducible refine (LC.out _).mono ?_; rintro e W ⟨rfl, hB⟩
               replace r := hid (r.out.below hB r.out.lt)
               replace b := hid (below_cat hB b.out)
               replace hS := hid (hS.out.below hB)
               clear hB
               try clear k0 k1 k2 k3
               have k0 := r.out.cell (j := 0) rfl
               have k1 := r.out.cell (j := 1) rfl
               have k2 := r.out.cell (j := 2) rfl
               have k3 := r.out.cell (j := 3) rfl)
            | (go_at_call 66; with_reducible refine (LN.out _).mono ?_; rintro e W ⟨rfl, hB⟩
               replace r := hid (r.out.below hB r.out.lt)
               replace b := hid (below_cat hB b.out)
               replace hS := hid (hS.out.below hB)
               clear hB
               try clear k0 k1 k2 k3
               have k0 := r.out.cell (j := 0) rfl
               have k1 := r.out.cell (j := 1) rfl
               have k2 := r.out.cell (j := 2) rfl
               have k3 := r.out.cell (j := 3) rfl))
          go_ret
          exact ⟨rfl, b.out⟩
    · have g2' : decide ((s.size : Int) ≤ mx) = false := decide_eq_false g2
      have hf : kindB 1 mn mx ss s = false := by unfold kindB inB; rw [g2']; simp
      rw [hf]
      clear hf
      go_enter Tryz.func23, Tryz.ntmps23
      go_wp2_with (first
        | (with_reducible refine at_op (some 19) (.load 42 (.tmp 2)) ?_
           refine wpList_load_row (o := ⟨some 19, _, _, _, _, _⟩) rfl 42 (.tmp 2) rfl w.heap.size rfl 42 _ (0, 0) _ r.out Tryz.underlying42 rfl infoRefRule ?_)
        | (go_at_call 25; with_reducible refine (LC.out _).mono ?_; rintro e W ⟨rfl, hB⟩
           replace r := hid (r.out.below hB r.out.lt)
           replace b := hid (below_cat hB b.out)
           replace hS := hid (hS.out.below hB)
           clear hB
           try clear k0 k1 k2 k3
           have k0 := r.out.cell (j := 0) rfl
           have k1 := r.out.cell (j := 1) rfl
           have k2 := r.out.cell (j := 2) rfl
           have k3 := r.out.cell (j := 3) rfl)
        | (go_at_call 66; with_reducible refine (LN.out _).mono ?_; rintro e W ⟨rfl, hB⟩
           replace r := hid (r.out.below hB r.out.lt)
           replace b := hid (below_cat hB b.out)
           replace hS := hid (hS.out.below hB)
           clear hB
           try clear k0 k1 k2 k3
           have k0 := r.out.cell (j := 0) rfl
           have k1 := r.out.cell (j := 1) rfl
           have k2 := r.out.cell (j := 2) rfl
           have k3 := r.out.cell (j := 3) rfl))
      go_ret
      exact ⟨rfl, b.out⟩
  · have g1' : decide (mn ≤ (s.size : Int)) = false := decide_eq_false g1
    have hf : kindB 1 mn mx ss s = false := by unfold kindB inB; rw [g1']; simp
    rw [hf]
    clear hf
    go_enter Tryz.func23, Tryz.ntmps23
    go_wp2_with (first
      | (with_reducible refine at_op (some 19) (.load 42 (.tmp 2)) ?_
         refine wpList_load_row (o := ⟨some 19, _, _, _, _, _⟩) rfl 42 (.tmp 2) rfl w.heap.size rfl 42 _ (0, 0) _ r.out Tryz.underlying42 rfl infoRefRule ?_)
      | (go_at_call 25; with_reducible refine (LC.out _).mono ?_; rintro e W ⟨rfl, hB⟩
         replace r := hid (r.out.below hB r.out.lt)
         replace b := hid (below_cat hB b.out)
         replace hS := hid (hS.out.below hB)
         clear hB
         try clear k0 k1 k2 k3
         have k0 := r.out.cell (j := 0) rfl
         have k1 := r.out.cell (j := 1) rfl
         have k2 := r.out.cell (j := 2) rfl
         have k3 := r.out.cell (j := 3) rfl)
      | (go_at_call 66; with_reducible refine (LN.out _).mono ?_; rintro e W ⟨rfl, hB⟩
         replace r := hid (r.out.below hB r.out.lt)
         replace b := hid (below_cat hB b.out)
         replace hS := hid (hS.out.below hB)
         clear hB
         try clear k0 k1 k2 k3
         have k0 := r.out.cell (j := 0) rfl
         have k1 := r.out.cell (j := 1) rfl
         have k2 := r.out.cell (j := 2) rfl
         have k3 := r.out.cell (j := 3) rfl))
    go_ret
    exact ⟨rfl, b.out⟩

set_option maxRecDepth 100000 in
set_option maxHeartbeats 8000000 in
theorem rfits8 (mn mx : Int) (a : Option Addr) (n c : Nat) (ss : List ByteArray) (s : ByteArray) (hs : s.size ≤ 1000) (w : World) (hS : IsStrs w a n ss) (hc : chkN 8 mn mx n = 0) :
    Calls Tryz.prog 23 #[.agg (ruleA 8 mn mx (.slice a n c)), .string s] w fun e w' => e = .returned (.bool (kindB 8 mn mx ss s)) ∧ Below w.heap.size w w' := by
  have LN : ∀ w, Calls Tryz.prog 66 #[.string s] w fun e w' => e = .returned (.bool (isNum s.data.toList)) ∧ Below w.heap.size w w' := fun w => (refIs_any s (by omega) w).mono fun e w' ⟨h1, h2⟩ => ⟨h1, by rw [← h2]; exact Below.refl _ _⟩
  replace LN := hid LN
  have r := hid (RowAt.new w #[.int .i64 8, .int .i64 mn, .int .i64 mx, .slice a n c] 42)
  have b := hid (below_al (Below.refl w.heap.size w) (.cells #[.int .i64 8, .int .i64 mn, .int .i64 mx, .slice a n c] 42))
  replace hS := hid (hS.alloc (.cells #[.int .i64 8, .int .i64 mn, .int .i64 mx, .slice a n c] 42))
  have LC := hid (fun w => ruleRefCheck_any 8 mn mx a n c w)
  unfold ruleA at LC
  rw [hc] at LC
  clear hc
  unfold ruleA
  by_cases g1 : mn ≤ (s.size : Int)
  · have g1' : decide (mn ≤ (s.size : Int)) = true := decide_eq_true g1
    by_cases g2 : (s.size : Int) ≤ mx
    · have g2' : decide ((s.size : Int) ≤ mx) = true := decide_eq_true g2
      have hin : (decide (mn ≤ (s.size : Int)) && decide ((s.size : Int) ≤ mx)) = true := by rw [g1', g2']; rfl
      by_cases h0 : s.size = 0
      · have he : ((s.size : Int) == 0) = true := by rw [beq_iff_eq]; omega
        have hf : kindB 8 mn mx ss s = true := by unfold kindB inB; rw [hin]; simp [h0]
        rw [hf]
        clear hf hin
        replace h0 := hid h0
        go_enter Tryz.func23, Tryz.ntmps23
        go_wp2_with (first
          | (with_reducible refine at_op (some 19) (.load 42 (.tmp 2)) ?_
             refine wpList_load_row (o := ⟨some 19, _, _, _, _, _⟩) rfl 42 (.tmp 2) rfl w.heap.size rfl 42 _ (0, 0) _ r.out Tryz.underlying42 rfl infoRefRule ?_)
          | (go_at_call 25; with_reducible refine (LC.out _).mono ?_; rintro e W ⟨rfl, hB⟩
             replace r := hid (r.out.below hB r.out.lt)
             replace b := hid (below_cat hB b.out)
             replace hS := hid (hS.out.below hB)
             clear hB
             try clear k0 k1 k2 k3
             have k0 := r.out.cell (j := 0) rfl
             have k1 := r.out.cell (j := 1) rfl
             have k2 := r.out.cell (j := 2) rfl
             have k3 := r.out.cell (j := 3) rfl)
          | (go_at_call 66; with_reducible refine (LN.out _).mono ?_; rintro e W ⟨rfl, hB⟩
             replace r := hid (r.out.below hB r.out.lt)
             replace b := hid (below_cat hB b.out)
             replace hS := hid (hS.out.below hB)
             clear hB
             try clear k0 k1 k2 k3
             have k0 := r.out.cell (j := 0) rfl
             have k1 := r.out.cell (j := 1) rfl
             have k2 := r.out.cell (j := 2) rfl
             have k3 := r.out.cell (j := 3) rfl))
        go_ret
        exact ⟨rfl, b.out⟩
      · have he : ((s.size : Int) == 0) = false := by rw [beq_eq_false_iff_ne]; omega
        cases hn : isNum s.data.toList with
        | false =>
          rw [hn] at LN
          have hf : kindB 8 mn mx ss s = false := by unfold kindB; rw [hn]; simp [h0]
          rw [hf]
          clear hf hin hn
          replace h0 := hid h0
          go_enter Tryz.func23, Tryz.ntmps23
          go_wp2_with (first
            | (with_reducible refine at_op (some 19) (.load 42 (.tmp 2)) ?_
               refine wpList_load_row (o := ⟨some 19, _, _, _, _, _⟩) rfl 42 (.tmp 2) rfl w.heap.size rfl 42 _ (0, 0) _ r.out Tryz.underlying42 rfl infoRefRule ?_)
            | (go_at_call 25; with_reducible refine (LC.out _).mono ?_; rintro e W ⟨rfl, hB⟩
               replace r := hid (r.out.below hB r.out.lt)
               replace b := hid (below_cat hB b.out)
               replace hS := hid (hS.out.below hB)
               clear hB
               try clear k0 k1 k2 k3
               have k0 := r.out.cell (j := 0) rfl
               have k1 := r.out.cell (j := 1) rfl
               have k2 := r.out.cell (j := 2) rfl
               have k3 := r.out.cell (j := 3) rfl)
            | (go_at_call 66; with_reducible refine (LN.out _).mono ?_; rintro e W ⟨rfl, hB⟩
               replace r := hid (r.out.below hB r.out.lt)
               replace b := hid (below_cat hB b.out)
               replace hS := hid (hS.out.below hB)
               clear hB
               try clear k0 k1 k2 k3
               have k0 := r.out.cell (j := 0) rfl
               have k1 := r.out.cell (j := 1) rfl
               have k2 := r.out.cell (j := 2) rfl
               have k3 := r.out.cell (j := 3) rfl))
          go_ret
          exact ⟨rfl, b.out⟩
        | true =>
          rw [hn] at LN
          by_cases h1 : s.size = 1
          · have e1 : ¬ (1 : Int) < (s.size : Int) := by omega
            have e1' : decide ((1 : Int) < (s.size : Int)) = false := decide_eq_false e1
            have hf : kindB 8 mn mx ss s = true := by unfold kindB inB; rw [hin, hn]; simp [h1]
            rw [hf]
            clear hf hin hn h1
            replace h0 := hid h0
            go_enter Tryz.func23, Tryz.ntmps23
            go_wp2_with (first
              | (with_reducible refine at_op (some 19) (.load 42 (.tmp 2)) ?_
                 refine wpList_load_row (o := ⟨some 19, _, _, _, _, _⟩) rfl 42 (.tmp 2) rfl w.heap.size rfl 42 _ (0, 0) _ r.out Tryz.underlying42 rfl infoRefRule ?_)
              | (go_at_call 25; with_reducible refine (LC.out _).mono ?_; rintro e W ⟨rfl, hB⟩
                 replace r := hid (r.out.below hB r.out.lt)
                 replace b := hid (below_cat hB b.out)
                 replace hS := hid (hS.out.below hB)
                 clear hB
                 try clear k0 k1 k2 k3
                 have k0 := r.out.cell (j := 0) rfl
                 have k1 := r.out.cell (j := 1) rfl
                 have k2 := r.out.cell (j := 2) rfl
                 have k3 := r.out.cell (j := 3) rfl)
              | (go_at_call 66; with_reducible refine (LN.out _).mono ?_; rintro e W ⟨rfl, hB⟩
                 replace r := hid (r.out.below hB r.out.lt)
                 replace b := hid (below_cat hB b.out)
                 replace hS := hid (hS.out.below hB)
                 clear hB
                 try clear k0 k1 k2 k3
                 have k0 := r.out.cell (j := 0) rfl
                 have k1 := r.out.cell (j := 1) rfl
                 have k2 := r.out.cell (j := 2) rfl
                 have k3 := r.out.cell (j := 3) rfl))
            go_ret
            exact ⟨rfl, b.out⟩
          · have e1 : (1 : Int) < (s.size : Int) := by omega
            have e1' : decide ((1 : Int) < (s.size : Int)) = true := decide_eq_true e1
            have k0 : 0 < s.size := by omega
            have hg : s.data.toList.getD 0 0 = s[0] := by
              rw [List.getD_eq_getElem?_getD, Array.getElem?_toList, Array.getElem?_eq_getElem (show 0 < s.data.size from k0)]; rfl
            by_cases h4 : s[0].toNat = 48
            · have hg2 : s.data.toList.getD 0 0 = 48 := by rw [hg, ← UInt8.toNat_inj, h4]; rfl
              have hf : kindB 8 mn mx ss s = false := by unfold kindB; rw [hn, hg2]; simp [h0, h1]
              rw [hf]
              clear hf hin hn h1 hg hg2
              replace h0 := hid h0
              go_enter Tryz.func23, Tryz.ntmps23
              go_wp2_with (first
                | (with_reducible refine at_op (some 19) (.load 42 (.tmp 2)) ?_
                   refine wpList_load_row (o := ⟨some 19, _, _, _, _, _⟩) rfl 42 (.tmp 2) rfl w.heap.size rfl 42 _ (0, 0) _ r.out Tryz.underlying42 rfl infoRefRule ?_)
                | (go_at_call 25; with_reducible refine (LC.out _).mono ?_; rintro e W ⟨rfl, hB⟩
                   replace r := hid (r.out.below hB r.out.lt)
                   replace b := hid (below_cat hB b.out)
                   replace hS := hid (hS.out.below hB)
                   clear hB
                   try clear k0 k1 k2 k3
                   have k0 := r.out.cell (j := 0) rfl
                   have k1 := r.out.cell (j := 1) rfl
                   have k2 := r.out.cell (j := 2) rfl
                   have k3 := r.out.cell (j := 3) rfl)
                | (go_at_call 66; with_reducible refine (LN.out _).mono ?_; rintro e W ⟨rfl, hB⟩
                   replace r := hid (r.out.below hB r.out.lt)
                   replace b := hid (below_cat hB b.out)
                   replace hS := hid (hS.out.below hB)
                   clear hB
                   try clear k0 k1 k2 k3
                   have k0 := r.out.cell (j := 0) rfl
                   have k1 := r.out.cell (j := 1) rfl
                   have k2 := r.out.cell (j := 2) rfl
                   have k3 := r.out.cell (j := 3) rfl))
              go_ret
              exact ⟨rfl, b.out⟩
            · have hg2 : s.data.toList.getD 0 0 ≠ 48 := by rw [hg, ne_eq, ← UInt8.toNat_inj]; exact h4
              have e4 : ((s[0].toNat : Int) == 48) = false := by rw [beq_eq_false_iff_ne]; omega
              have hf : kindB 8 mn mx ss s = true := by unfold kindB inB; rw [hin, hn, decide_eq_false hg2]; simp [h0, h1]
              rw [hf]
              clear hf hin hn h1 hg hg2 h4
              replace h0 := hid h0
              go_enter Tryz.func23, Tryz.ntmps23
              go_wp2_with (first
                | (with_reducible refine at_op (some 19) (.load 42 (.tmp 2)) ?_
                   refine wpList_load_row (o := ⟨some 19, _, _, _, _, _⟩) rfl 42 (.tmp 2) rfl w.heap.size rfl 42 _ (0, 0) _ r.out Tryz.underlying42 rfl infoRefRule ?_)
                | (go_at_call 25; with_reducible refine (LC.out _).mono ?_; rintro e W ⟨rfl, hB⟩
                   replace r := hid (r.out.below hB r.out.lt)
                   replace b := hid (below_cat hB b.out)
                   replace hS := hid (hS.out.below hB)
                   clear hB
                   try clear k0 k1 k2 k3
                   have k0 := r.out.cell (j := 0) rfl
                   have k1 := r.out.cell (j := 1) rfl
                   have k2 := r.out.cell (j := 2) rfl
                   have k3 := r.out.cell (j := 3) rfl)
                | (go_at_call 66; with_reducible refine (LN.out _).mono ?_; rintro e W ⟨rfl, hB⟩
                   replace r := hid (r.out.below hB r.out.lt)
                   replace b := hid (below_cat hB b.out)
                   replace hS := hid (hS.out.below hB)
                   clear hB
                   try clear k0 k1 k2 k3
                   have k0 := r.out.cell (j := 0) rfl
                   have k1 := r.out.cell (j := 1) rfl
                   have k2 := r.out.cell (j := 2) rfl
                   have k3 := r.out.cell (j := 3) rfl))
              go_ret
              exact ⟨rfl, b.out⟩
    · have g2' : decide ((s.size : Int) ≤ mx) = false := decide_eq_false g2
      have hf : kindB 8 mn mx ss s = false := by unfold kindB inB; rw [g2']; simp
      rw [hf]
      clear hf
      go_enter Tryz.func23, Tryz.ntmps23
      go_wp2_with (first
        | (with_reducible refine at_op (some 19) (.load 42 (.tmp 2)) ?_
           refine wpList_load_row (o := ⟨some 19, _, _, _, _, _⟩) rfl 42 (.tmp 2) rfl w.heap.size rfl 42 _ (0, 0) _ r.out Tryz.underlying42 rfl infoRefRule ?_)
        | (go_at_call 25; with_reducible refine (LC.out _).mono ?_; rintro e W ⟨rfl, hB⟩
           replace r := hid (r.out.below hB r.out.lt)
           replace b := hid (below_cat hB b.out)
           replace hS := hid (hS.out.below hB)
           clear hB
           try clear k0 k1 k2 k3
           have k0 := r.out.cell (j := 0) rfl
           have k1 := r.out.cell (j := 1) rfl
           have k2 := r.out.cell (j := 2) rfl
           have k3 := r.out.cell (j := 3) rfl)
        | (go_at_call 66; with_reducible refine (LN.out _).mono ?_; rintro e W ⟨rfl, hB⟩
           replace r := hid (r.out.below hB r.out.lt)
           replace b := hid (below_cat hB b.out)
           replace hS := hid (hS.out.below hB)
           clear hB
           try clear k0 k1 k2 k3
           have k0 := r.out.cell (j := 0) rfl
           have k1 := r.out.cell (j := 1) rfl
           have k2 := r.out.cell (j := 2) rfl
           have k3 := r.out.cell (j := 3) rfl))
      go_ret
      exact ⟨rfl, b.out⟩
  · have g1' : decide (mn ≤ (s.size : Int)) = false := decide_eq_false g1
    have hf : kindB 8 mn mx ss s = false := by unfold kindB inB; rw [g1']; simp
    rw [hf]
    clear hf
    go_enter Tryz.func23, Tryz.ntmps23
    go_wp2_with (first
      | (with_reducible refine at_op (some 19) (.load 42 (.tmp 2)) ?_
         refine wpList_load_row (o := ⟨some 19, _, _, _, _, _⟩) rfl 42 (.tmp 2) rfl w.heap.size rfl 42 _ (0, 0) _ r.out Tryz.underlying42 rfl infoRefRule ?_)
      | (go_at_call 25; with_reducible refine (LC.out _).mono ?_; rintro e W ⟨rfl, hB⟩
         replace r := hid (r.out.below hB r.out.lt)
         replace b := hid (below_cat hB b.out)
         replace hS := hid (hS.out.below hB)
         clear hB
         try clear k0 k1 k2 k3
         have k0 := r.out.cell (j := 0) rfl
         have k1 := r.out.cell (j := 1) rfl
         have k2 := r.out.cell (j := 2) rfl
         have k3 := r.out.cell (j := 3) rfl)
      | (go_at_call 66; with_reducible refine (LN.out _).mono ?_; rintro e W ⟨rfl, hB⟩
         replace r := hid (r.out.below hB r.out.lt)
         replace b := hid (below_cat hB b.out)
         replace hS := hid (hS.out.below hB)
         clear hB
         try clear k0 k1 k2 k3
         have k0 := r.out.cell (j := 0) rfl
         have k1 := r.out.cell (j := 1) rfl
         have k2 := r.out.cell (j := 2) rfl
         have k3 := r.out.cell (j := 3) rfl))
    go_ret
    exact ⟨rfl, b.out⟩

set_option maxRecDepth 100000 in
set_option maxHeartbeats 8000000 in
theorem rfits7 (mn mx : Int) (a : Option Addr) (n c : Nat) (ss : List ByteArray) (s : ByteArray) (hs : s.size ≤ 1000) (w : World) (hS : IsStrs w a n ss) (hc : chkN 7 mn mx n = 0) :
    Calls Tryz.prog 23 #[.agg (ruleA 7 mn mx (.slice a n c)), .string s] w fun e w' => e = .returned (.bool (kindB 7 mn mx ss s)) ∧ Below w.heap.size w w' := by
  obtain ⟨d, ok, hy, hno, LD⟩ := refDecStd s (by omega)
  have hk : kindB 7 mn mx ss s = (ok && decide ((d.size : Int) = mn)) := by
    have : kindB 7 mn mx ss s = proofB mn s.data.toList := by simp [kindB]
    rw [this]
    unfold proofB
    cases ok with
    | true =>
      rw [(decP_iff good_std _ _).2 (hy rfl)]
      simp
    | false =>
      cases hd : decP stdL 6 true s.data.toList with
      | none => rfl
      | some o => exact absurd ((decP_iff good_std _ _).1 hd) (hno rfl o)
  rw [hk]
  have r := hid (RowAt.new w #[.int .i64 7, .int .i64 mn, .int .i64 mx, .slice a n c] 42)
  have b := hid (below_al (Below.refl w.heap.size w) (.cells #[.int .i64 7, .int .i64 mn, .int .i64 mx, .slice a n c] 42))
  replace hS := hid (hS.alloc (.cells #[.int .i64 7, .int .i64 mn, .int .i64 mx, .slice a n c] 42))
  have LC := hid (fun w => ruleRefCheck_any 7 mn mx a n c w)
  unfold ruleA at LC
  rw [hc] at LC
  replace LD := hid LD
  clear hc hk hy hno
  unfold ruleA
  cases ok with
  | false =>
    rw [Bool.false_and]
    go_enter Tryz.func23, Tryz.ntmps23
    go_wp2_with (first
      | (with_reducible refine at_op (some 19) (.load 42 (.tmp 2)) ?_
         refine wpList_load_row (o := ⟨some 19, _, _, _, _, _⟩) rfl 42 (.tmp 2) rfl w.heap.size rfl 42 _ (0, 0) _ r.out Tryz.underlying42 rfl infoRefRule ?_)
      | (go_at_call 25; with_reducible refine (LC.out _).mono ?_; rintro e W ⟨rfl, hB⟩
         replace r := hid (r.out.below hB r.out.lt)
         replace b := hid (below_cat hB b.out)
         replace hS := hid (hS.out.below hB)
         clear hB
         try clear k0 k1 k2 k3
         have k0 := r.out.cell (j := 0) rfl
         have k1 := r.out.cell (j := 1) rfl
         have k2 := r.out.cell (j := 2) rfl
         have k3 := r.out.cell (j := 3) rfl)
      | (go_at_call 50; with_reducible refine (LD.out _).mono ?_; rintro e W ⟨rfl, hB⟩
         replace r := hid (r.out.below hB r.out.lt)
         replace b := hid (below_cat hB b.out)
         replace hS := hid (hS.out.below hB)
         clear hB
         try clear k0 k1 k2 k3
         have k0 := r.out.cell (j := 0) rfl
         have k1 := r.out.cell (j := 1) rfl
         have k2 := r.out.cell (j := 2) rfl
         have k3 := r.out.cell (j := 3) rfl))
    go_ret
    exact ⟨rfl, b.out⟩
  | true =>
    rw [Bool.true_and]
    by_cases h0 : (d.size : Int) = mn
    · have e0 : ((d.size : Int) == mn) = true := by rw [beq_iff_eq]; exact h0
      have e1 : decide ((d.size : Int) = mn) = true := decide_eq_true h0
      rw [e1]
      clear h0 e1
      go_enter Tryz.func23, Tryz.ntmps23
      go_wp2_with (first
        | (with_reducible refine at_op (some 19) (.load 42 (.tmp 2)) ?_
           refine wpList_load_row (o := ⟨some 19, _, _, _, _, _⟩) rfl 42 (.tmp 2) rfl w.heap.size rfl 42 _ (0, 0) _ r.out Tryz.underlying42 rfl infoRefRule ?_)
        | (go_at_call 25; with_reducible refine (LC.out _).mono ?_; rintro e W ⟨rfl, hB⟩
           replace r := hid (r.out.below hB r.out.lt)
           replace b := hid (below_cat hB b.out)
           replace hS := hid (hS.out.below hB)
           clear hB
           try clear k0 k1 k2 k3
           have k0 := r.out.cell (j := 0) rfl
           have k1 := r.out.cell (j := 1) rfl
           have k2 := r.out.cell (j := 2) rfl
           have k3 := r.out.cell (j := 3) rfl)
        | (go_at_call 50; with_reducible refine (LD.out _).mono ?_; rintro e W ⟨rfl, hB⟩
           replace r := hid (r.out.below hB r.out.lt)
           replace b := hid (below_cat hB b.out)
           replace hS := hid (hS.out.below hB)
           clear hB
           try clear k0 k1 k2 k3
           have k0 := r.out.cell (j := 0) rfl
           have k1 := r.out.cell (j := 1) rfl
           have k2 := r.out.cell (j := 2) rfl
           have k3 := r.out.cell (j := 3) rfl))
      go_ret
      exact ⟨rfl, b.out⟩
    · have e0 : ((d.size : Int) == mn) = false := by rw [beq_eq_false_iff_ne]; exact h0
      have e1 : decide ((d.size : Int) = mn) = false := decide_eq_false h0
      rw [e1]
      clear h0 e1
      go_enter Tryz.func23, Tryz.ntmps23
      go_wp2_with (first
        | (with_reducible refine at_op (some 19) (.load 42 (.tmp 2)) ?_
           refine wpList_load_row (o := ⟨some 19, _, _, _, _, _⟩) rfl 42 (.tmp 2) rfl w.heap.size rfl 42 _ (0, 0) _ r.out Tryz.underlying42 rfl infoRefRule ?_)
        | (go_at_call 25; with_reducible refine (LC.out _).mono ?_; rintro e W ⟨rfl, hB⟩
           replace r := hid (r.out.below hB r.out.lt)
           replace b := hid (below_cat hB b.out)
           replace hS := hid (hS.out.below hB)
           clear hB
           try clear k0 k1 k2 k3
           have k0 := r.out.cell (j := 0) rfl
           have k1 := r.out.cell (j := 1) rfl
           have k2 := r.out.cell (j := 2) rfl
           have k3 := r.out.cell (j := 3) rfl)
        | (go_at_call 50; with_reducible refine (LD.out _).mono ?_; rintro e W ⟨rfl, hB⟩
           replace r := hid (r.out.below hB r.out.lt)
           replace b := hid (below_cat hB b.out)
           replace hS := hid (hS.out.below hB)
           clear hB
           try clear k0 k1 k2 k3
           have k0 := r.out.cell (j := 0) rfl
           have k1 := r.out.cell (j := 1) rfl
           have k2 := r.out.cell (j := 2) rfl
           have k3 := r.out.cell (j := 3) rfl))
      go_ret
      exact ⟨rfl, b.out⟩

set_option maxRecDepth 100000 in
set_option maxHeartbeats 8000000 in
theorem rfits4 (mn mx : Int) (a : Option Addr) (n c : Nat) (ss : List ByteArray) (s : ByteArray) (hs : s.size ≤ 1000) (w : World) (hS : IsStrs w a n ss) (hn : n ≤ 140737488351232) (hc : chkN 4 mn mx n = 0) :
    Calls Tryz.prog 23 #[.agg (ruleA 4 mn mx (.slice a n c)), .string s] w fun e w' => e = .returned (.bool (kindB 4 mn mx ss s)) ∧ Below w.heap.size w w' := by
  have r := hid (RowAt.new w #[.int .i64 4, .int .i64 mn, .int .i64 mx, .slice a n c] 42)
  have b := hid (below_al (Below.refl w.heap.size w) (.cells #[.int .i64 4, .int .i64 mn, .int .i64 mx, .slice a n c] 42))
  replace hS := hid (hS.alloc (.cells #[.int .i64 4, .int .i64 mn, .int .i64 mx, .slice a n c] 42))
  have LC := hid (fun w => ruleRefCheck_any 4 mn mx a n c w)
  unfold ruleA at LC
  rw [hc] at LC
  have hk : kindB 4 mn mx ss s = memS ss s := by simp [kindB]
  rw [hk]
  have hlen := hS.out.len
  clear hc hk
  unfold ruleA
  go_enter Tryz.func23, Tryz.ntmps23
  go_wp2_with (first
    | (with_reducible refine at_op (some 19) (.load 42 (.tmp 2)) ?_
       refine wpList_load_row (o := ⟨some 19, _, _, _, _, _⟩) rfl 42 (.tmp 2) rfl w.heap.size rfl 42 _ (0, 0) _ r.out Tryz.underlying42 rfl infoRefRule ?_)
    | (go_at_call 25; with_reducible refine (LC.out _).mono ?_; rintro e W ⟨rfl, hB⟩
       replace r := hid (r.out.below hB r.out.lt)
       replace b := hid (below_cat hB b.out)
       replace hS := hid (hS.out.below hB)
       clear hB
       try clear k0 k1 k2 k3
       have k0 := r.out.cell (j := 0) rfl
       have k1 := r.out.cell (j := 1) rfl
       have k2 := r.out.cell (j := 2) rfl
       have k3 := r.out.cell (j := 3) rfl))
  go_loop [108] (fun v => ∃ i : Nat, i ≤ n ∧ v = .int .i64 i ∧ Hid (∀ j, j < i → ss[j]? ≠ some s)) (fun v => n - (intOf v).toNat)
  case atStart => exact ⟨0, Nat.zero_le _, rfl, fun j hj => by omega⟩
  case round =>
    obtain ⟨i, hi, rfl, HN⟩ := hrel
    by_cases hlt : i < n
    · obtain ⟨t, ht⟩ : ∃ s, ss[i]? = some s := ⟨_, List.getElem?_eq_getElem (by omega)⟩
      obtain ⟨x, rfl, hx⟩ := hS.out.at ht
      have hd : decide ((i : Int) < (n : Int)) = true := by rw [decide_eq_true_iff]; omega
      replace ht := hid ht
      by_cases hst : t = s
      · have hq : (t.toList == s.toList) = true := by rw [hst]; simp
        have hmem : memS ss s = true := by rw [memS_iff, ← hst]; exact List.mem_of_getElem? ht.out
        replace hst := hid hst
        replace hmem := hid hmem
        go_wp2
        go_ret
        exact ⟨by rw [hmem.out]; rfl, b.out⟩
      · have hq : (t.toList == s.toList) = false := by
          rw [beq_eq_false_iff_ne]; intro e; apply hst
          rw [ByteArray.toList_eq, ByteArray.toList_eq] at e
          exact ByteArray.ext (Array.ext' e)
        replace hst := hid hst
        go_wp2
        go_round
        case rel =>
          refine ⟨i + 1, by omega, by go_num, fun j hj e => ?_⟩
          by_cases hji : j = i
          · subst hji; rw [ht.out] at e; exact hst.out (Option.some.inj e)
          · exact HN.out j (by omega) e
        case measure => simp [intOf]; omega
    · obtain rfl : i = n := by omega
      have hd : decide ((i : Int) < (i : Int)) = false := by rw [decide_eq_false_iff_not]; omega
      have hno : memS ss s = false := Bool.eq_false_iff.2 fun hm => by
        obtain ⟨j, hj, e⟩ := List.mem_iff_getElem.1 (memS_iff.1 hm)
        exact HN.out j (by omega) (by rw [List.getElem?_eq_getElem hj, e])
      replace hno := hid hno
      go_wp2
      go_ret
      exact ⟨by rw [hno.out]; rfl, b.out⟩

set_option maxRecDepth 100000 in
set_option maxHeartbeats 8000000 in
theorem rfits2 (mn mx : Int) (a : Option Addr) (n c : Nat) (ss : List ByteArray) (s : ByteArray) (hs : s.size ≤ 1000) (w : World) (hS : IsStrs w a n ss) (hc : chkN 2 mn mx n = 0) :
    Calls Tryz.prog 23 #[.agg (ruleA 2 mn mx (.slice a n c)), .string s] w fun e w' => e = .returned (.bool (kindB 2 mn mx ss s)) ∧ Below w.heap.size w w' := by
  have r := hid (RowAt.new w #[.int .i64 2, .int .i64 mn, .int .i64 mx, .slice a n c] 42)
  have b := hid (below_al (Below.refl w.heap.size w) (.cells #[.int .i64 2, .int .i64 mn, .int .i64 mx, .slice a n c] 42))
  replace hS := hid (hS.alloc (.cells #[.int .i64 2, .int .i64 mn, .int .i64 mx, .slice a n c] 42))
  have LC := hid (fun w => ruleRefCheck_any 2 mn mx a n c w)
  unfold ruleA at LC
  rw [hc] at LC
  have hk : kindB 2 mn mx ss s = (shownB s && inB mn mx (runesN s.data.toList).length) := by simp [kindB]
  rw [hk]
  have LR := hid (fun w => refRunes_any s hs w)
  have hsz : (runesN s.data.toList).length ≤ 1000 := by
    have h1 := runesN_len s.data.toList
    have h2 : s.data.toList.length = s.size := by simp
    omega
  clear hc hk
  unfold ruleA
  go_enter Tryz.func23, Tryz.ntmps23
  go_wp2_with (first
    | (with_reducible refine at_op (some 19) (.load 42 (.tmp 2)) ?_
       refine wpList_load_row (o := ⟨some 19, _, _, _, _, _⟩) rfl 42 (.tmp 2) rfl w.heap.size rfl 42 _ (0, 0) _ r.out Tryz.underlying42 rfl infoRefRule ?_)
    | (go_at_call 25; with_reducible refine (LC.out _).mono ?_; rintro e W ⟨rfl, hB⟩
       replace r := hid (r.out.below hB r.out.lt)
       replace b := hid (below_cat hB b.out)
       replace hS := hid (hS.out.below hB)
       clear hB
       try clear k0 k1 k2 k3
       have k0 := r.out.cell (j := 0) rfl
       have k1 := r.out.cell (j := 1) rfl
       have k2 := r.out.cell (j := 2) rfl
       have k3 := r.out.cell (j := 3) rfl)
    | (go_at_call 67; with_reducible refine (LR.out _).mono ?_; rintro e W2 ⟨v1, v2, rfl, hN1, hN2, hB⟩
       have r2 := hid (r.out.below hB r.out.lt)
       have b2 := hid (below_cat hB b.out)
       clear hB r b LR hN1 k0 k1 k2 k3
       have k1 := r2.out.cell (j := 1) rfl
       have k2 := r2.out.cell (j := 2) rfl
       obtain ⟨p2, c2, rfl, hp2⟩ := numsShape hN2
       rw [List.length_map] at hp2
       simp only [List.length_map]
       replace hp2 := hid hp2
       replace hN2 := hid hN2))
  obtain ⟨L, hL⟩ : ∃ L, runesN s.data.toList = L := ⟨_, rfl⟩
  have hsh : shownB s = (allC L && decide (badN s < 0)) := by rw [← hL]; rfl
  simp only [hL] at hN2 hp2 hsz ⊢
  obtain ⟨bad, hbad⟩ : ∃ x, badN s = x := ⟨_, rfl⟩
  simp only [hbad] at hsh ⊢
  replace hsh := hid hsh
  replace hL := hid hL
  clear hbad
  go_loop [57] (fun v => ∃ i : Nat, i ≤ L.length ∧ v = .int .i64 i ∧ Hid (allC (L.take i) = true)) (fun v => L.length - (intOf v).toNat)
  case atStart => exact ⟨0, Nat.zero_le _, rfl, rfl⟩
  case round =>
    obtain ⟨i, hi, rfl, HN⟩ := hrel
    by_cases hlt : i < L.length
    · have hd : decide ((i : Int) < (L.length : Int)) = true := by rw [decide_eq_true_iff]; omega
      have hlt' : (i : Int) < (L.length : Int) := by omega
      obtain ⟨g, rfl⟩ := hp2.out (by omega)
      have hx : (L.map Prod.snd)[i]? = some L[i].2 := by simp [hlt]
      have hcell := numsAt hN2.out hx
      have htk : allC (L.take (i + 1)) = okC L[i].2 := by
        rw [List.take_succ_eq_append_getElem hlt, allC_snoc, HN.out]; simp
      have hall : allC L = (allC (L.take (i + 1)) && allC (L.drop (i + 1))) := by rw [← allC_append, List.take_append_drop]
      obtain ⟨u, hu⟩ : ∃ u, u = L[i].2 := ⟨_, rfl⟩
      rw [← hu] at hcell htk
      rw [htk] at hall
      replace htk := hid htk
      replace hall := hid hall
      clear hx hu
      by_cases q1 : u < 32
      · have t1 : decide ((u : Int) < 32) = true := decide_eq_true (by omega)
        have q2 : (u : Int) < 32 := by omega
        have hf : okC u = false := by simp [okC, q1]
        replace hf := hid hf
        clear q1
        go_wp2
        go_ret
        exact ⟨by rw [hsh.out, hall.out, hf.out]; rfl, b2.out⟩
      · have t1 : decide ((u : Int) < 32) = false := decide_eq_false (by omega)
        have q2 : ¬ (u : Int) < 32 := by omega
        by_cases q3 : u = 127
        · have t2 : ((u : Int) == 127) = true := by rw [beq_iff_eq]; omega
          have hf : okC u = false := by simp [okC, q3]
          replace hf := hid hf
          clear q1 q3
          go_wp2
          go_ret
          exact ⟨by rw [hsh.out, hall.out, hf.out]; rfl, b2.out⟩
        · have t2 : ((u : Int) == 127) = false := by rw [beq_eq_false_iff_ne]; omega
          have hf : okC u = true := by simp [okC, q1, q3]
          replace hf := hid hf
          clear q1 q3
          go_wp2
          go_round
          case rel => exact ⟨i + 1, by omega, by go_num, hid (by rw [htk.out, hf.out])⟩
          case measure => simp [intOf]; omega
    · obtain rfl : i = L.length := by omega
      have hd : decide ((L.length : Int) < (L.length : Int)) = false := by rw [decide_eq_false_iff_not]; omega
      have hall : allC L = true := by have := HN.out; rwa [List.take_of_length_le (Nat.le_refl _)] at this
      have hs2 := hsh.out
      rw [hall, Bool.true_and] at hs2
      obtain ⟨m, hm⟩ : ∃ m, m = L.length := ⟨_, rfl⟩
      have hin : inB mn mx (L.length : Nat) = (decide (mn ≤ (m : Int)) && decide ((m : Int) ≤ mx)) := by rw [hm]; rfl
      rw [← hm] at hd
      simp only [← hm]
      replace hin := hid hin
      clear hsh hall HN hm
      by_cases h1 : bad < 0
      · have h1' : decide (bad < 0) = true := decide_eq_true h1
        rw [h1'] at hs2
        replace hs2 := hid hs2
        by_cases g1 : mn ≤ (m : Int)
        · have g1' : decide (mn ≤ (m : Int)) = true := decide_eq_true g1
          by_cases g2 : (m : Int) ≤ mx
          · have g2' : decide ((m : Int) ≤ mx) = true := decide_eq_true g2
            go_wp2
            go_ret
            exact ⟨by rw [hs2.out, hL.out, hin.out, g1', g2']; rfl, b2.out⟩
          · have g2' : decide ((m : Int) ≤ mx) = false := decide_eq_false g2
            go_wp2
            go_ret
            exact ⟨by rw [hs2.out, hL.out, hin.out, g1', g2']; rfl, b2.out⟩
        · have g1' : decide (mn ≤ (m : Int)) = false := decide_eq_false g1
          go_wp2
          go_ret
          exact ⟨by rw [hs2.out, hL.out, hin.out, g1']; rfl, b2.out⟩
      · have h1' : decide (bad < 0) = false := decide_eq_false h1
        rw [h1'] at hs2
        replace hs2 := hid hs2
        go_wp2
        go_ret
        exact ⟨by rw [hs2.out]; rfl, b2.out⟩

def zerosT (l : List UInt8) (k : Nat) : Bool := (l.take k).all (· == 0)
theorem zerosT_next (l : List UInt8) (k : Nat) (h : k < l.length) : zerosT l (k + 1) = (zerosT l k && (l.getD k 0 == 0)) := by
  unfold zerosT
  rw [List.take_succ_eq_append_getElem h, List.all_append]
  simp [List.getD_eq_getElem?_getD, h]
theorem zerosT_all (l : List UInt8) (h : l.length = 16) : zerosT l 16 = (l == List.replicate 16 0) := by
  unfold zerosT
  rw [List.take_of_length_le (by omega), Bool.eq_iff_iff, List.all_eq_true, beq_iff_eq, List.eq_replicate_iff]
  simp [h]
theorem index_id (l : List UInt8) (k : Nat) (hk : k < 16) (w : World) : (Instr.index 23 (.agg (idA l)) (.int .i64 (k : Int))).run Tryz.prog w = .ok (.int .u8 ((l.getD k 0).toNat : Int)) w := by
  exact run_index_row (P := Tryz.prog) 23 5 16 .u8 Tryz.underlying23 Tryz.underlying5 (by kernel_rfl) .i64 (idA l) k _ hk (rowA_get 16 (idV l) k hk) w

set_option maxRecDepth 100000 in
set_option maxHeartbeats 8000000 in
theorem rfits3 (mn mx : Int) (a : Option Addr) (n c : Nat) (ss : List ByteArray) (s : ByteArray) (hs : s.size ≤ 1000) (w : World) (hS : IsStrs w a n ss) (hc : chkN 3 mn mx n = 0) :
    Calls Tryz.prog 23 #[.agg (ruleA 3 mn mx (.slice a n c)), .string s] w fun e w' => e = .returned (.bool (kindB 3 mn mx ss s)) ∧ Below w.heap.size w w' := by
  obtain ⟨l, ok, hl, hk, LP⟩ : ∃ (l : List UInt8) (ok : Bool), l.length = 16 ∧ kindB 3 mn mx ss s = (ok && !(zerosT l 16)) ∧ ∀ w, Calls Tryz.prog 14 #[.string s] w fun e w' => e = .returned (.tuple #[.agg (idA l), .bool ok]) ∧ Below w.heap.size w w' := by
    have h0 : kindB 3 mn mx ss s = idB s.data.toList := by simp [kindB]
    rw [h0]
    unfold idB
    cases hd : parseO s.data.toList with
    | none => exact ⟨List.replicate 16 0, false, rfl, rfl, fun w => refParse_no s (parseO_none _ hd) w⟩
    | some l =>
      obtain ⟨hl, hsl⟩ := (parseO_some _ _).1 hd
      exact ⟨l, true, hl, by rw [zerosT_all l hl]; rfl, fun w => refParse_yes s l hl hsl w⟩
  rw [hk]
  have r := hid (RowAt.new w #[.int .i64 3, .int .i64 mn, .int .i64 mx, .slice a n c] 42)
  have b := hid (below_al (Below.refl w.heap.size w) (.cells #[.int .i64 3, .int .i64 mn, .int .i64 mx, .slice a n c] 42))
  replace hS := hid (hS.alloc (.cells #[.int .i64 3, .int .i64 mn, .int .i64 mx, .slice a n c] 42))
  have LC := hid (fun w => ruleRefCheck_any 3 mn mx a n c w)
  unfold ruleA at LC
  rw [hc] at LC
  replace LP := hid LP
  have hnx := fun k h => zerosT_next l k h
  have hix := fun k hk w => index_id l k hk w
  obtain ⟨A, hA⟩ : ∃ A, A = idA l := ⟨_, rfl⟩
  have hAs : A.size = 16 := by rw [hA, idA_size]
  have hA1 : A.all (·.oneCell') = true := by rw [hA]; exact idA_one _
  have hAi : (Tryz.prog.info? 23).map (·.size) = some A.size := by rw [info16, hAs]
  rw [← hA] at LP
  simp only [← hA] at hix
  replace hix := hid hix
  replace hnx := hid hnx
  replace hAs := hid hAs
  replace hA1 := hid hA1
  replace hAi := hid hAi
  clear hc hk hA
  unfold ruleA
  go_enter Tryz.func23, Tryz.ntmps23
  go_wp2_with (first
    | (with_reducible refine at_op (some 19) (.load 42 (.tmp 2)) ?_
       refine wpList_load_row (o := ⟨some 19, _, _, _, _, _⟩) rfl 42 (.tmp 2) rfl w.heap.size rfl 42 _ (0, 0) _ r.out Tryz.underlying42 rfl infoRefRule ?_)
    | (go_at_call 25; with_reducible refine (LC.out _).mono ?_; rintro e W ⟨rfl, hB⟩
       replace r := hid (r.out.below hB r.out.lt)
       replace b := hid (below_cat hB b.out)
       replace hS := hid (hS.out.below hB)
       clear hB
       try clear k0 k1 k2 k3
       have k0 := r.out.cell (j := 0) rfl
       have k1 := r.out.cell (j := 1) rfl
       have k2 := r.out.cell (j := 2) rfl
       have k3 := r.out.cell (j := 3) rfl)
    | (go_at_call 14; with_reducible refine (LP.out _).mono ?_; rintro e W2 ⟨rfl, hB⟩
       have b2 := hid (below_cat hB b.out)
       clear hB r b LP k0 k1 k2 k3)
    | (with_reducible refine at_op none (.store 23 (.tmp 10) (.tmp 89)) ?_
       refine wpList_store_row (o := ⟨none, .store _ (.tmp 10) (.tmp 89), _, _, _, _⟩) rfl 23 (.tmp 10) (.tmp 89) rfl W2.heap.size A rfl rfl 23 _ (RowAt.new W2 _ _) hAi.out (by rw [hAs.out]; rfl) hA1.out ?_
       generalize hY : World.setRow _ _ _ = Y
       have b3 : Below w.heap.size w Y := by rw [← hY]; exact below_setRow (below_al b2.out _) b2.out.size _
       have r3 : RowAt Y W2.heap.size 23 A := by rw [← hY]; exact (RowAt.new W2 _ _).setRow A
       generalize W2.heap.size = g at r3 ⊢
       replace b3 := hid b3
       replace r3 := hid r3
       clear hY b2)
    | (with_reducible refine at_op (some 91) (.load 23 (.tmp 10)) ?_
       refine wpList_load_row (o := ⟨some 91, _, _, _, _, _⟩) rfl 23 (.tmp 10) rfl g rfl 23 A (0, 0) _ r3.out Tryz.underlying23 rfl hAi.out ?_))
  go_loop [12, 92] (fun z v => ∃ i : Nat, i ≤ 16 ∧ v = .int .i64 i ∧ z = .bool (zerosT l i)) (fun _ v => 16 - (intOf v).toNat)
  case atStart => exact ⟨0, Nat.zero_le _, rfl, rfl⟩
  case round =>
    obtain ⟨i, hi, rfl, rfl⟩ := hrel
    by_cases hlt : i < 16
    · have hd : decide ((i : Int) < 16) = true := by rw [decide_eq_true_iff]; omega
      have hlt' : (i : Int) < 16 := by omega
      have hx := hix.out i hlt
      have hz := hnx.out i (by omega)
      obtain ⟨u, hu⟩ : ∃ u, u = (l.getD i 0).toNat := ⟨_, rfl⟩
      have hu0 : (l.getD i 0 == 0) = decide (u = 0) := by
        rw [hu, Bool.eq_iff_iff, beq_iff_eq, decide_eq_true_iff, ← UInt8.toNat_inj]; rfl
      rw [hu0] at hz
      rw [← hu] at hx
      obtain ⟨q, hq⟩ : ∃ q, q = zerosT l i := ⟨_, rfl⟩
      rw [← hq] at hz ⊢
      replace hz := hid hz
      clear hu hu0 hq
      by_cases h0 : u = 0
      · subst h0
        go_wp2
        go_round
        case rel => exact ⟨i + 1, by omega, by go_num, by rw [hz.out]; simp⟩
        case measure => simp [intOf]; omega
      · have t1 : ((u : Int) != 0) = true := by rw [bne_iff_ne]; omega
        have hd0 : decide (u = 0) = false := by simpa using h0
        replace hd0 := hid hd0
        clear h0
        go_wp2
        go_round
        case rel => exact ⟨i + 1, by omega, by go_num, by rw [hz.out, hd0.out]; simp⟩
        case measure => simp [intOf]; omega
    · obtain rfl : i = 16 := by omega
      have hd : decide (((16 : Nat) : Int) < 16) = false := by decide
      obtain ⟨q, hq⟩ : ∃ q, q = zerosT l 16 := ⟨_, rfl⟩
      rw [← hq]
      replace hq := hid hq
      cases ok
      · go_wp2
        go_ret
        exact ⟨rfl, b3.out⟩
      · go_wp2
        go_ret
        exact ⟨by rw [← hq.out]; rfl, b3.out⟩

end Go.Proofs.YtdjlpmelmhhooaaGreatDoor
