/- Ids: the walk of IdsTexts. -/
import Derived.Test.YtdjlpmelmhhooaaGreatDoorIdsX4
import Derived.Test.YtdjlpmelmhhooaaGreatDoorIdsX3
namespace Go.Proofs.YtdjlpmelmhhooaaGreatDoor
open Go Go.RowKit
set_option linter.unusedSimpArgs false
set_option linter.unusedVariables false

def cmpK (l m : List UInt8) (k : Nat) : Int := Lib.compareBytes (l.take k) (m.take k)
theorem cmpK_all (l m : List UInt8) (hl : l.length = 16) (hm : m.length = 16) : cmpK l m 16 = Lib.compareBytes l m := by
  unfold cmpK; rw [List.take_of_length_le (by omega), List.take_of_length_le (by omega)]
theorem cmpK_next (l m : List UInt8) (hl : l.length = 16) (hm : m.length = 16) (k : Nat) (hk : k < 16) :
    cmpK l m (k + 1) = if cmpK l m k = 0 then (if (l.getD k 0).toNat < (m.getD k 0).toNat then -1 else if (m.getD k 0).toNat < (l.getD k 0).toNat then 1 else 0) else cmpK l m k := by
  unfold cmpK
  have h1 : l.take (k + 1) = l.take k ++ [l.getD k 0] := by
    rw [List.take_succ_eq_append_getElem (by omega)]; simp [List.getD_eq_getElem?_getD, show k < l.length by omega]
  have h2 : m.take (k + 1) = m.take k ++ [m.getD k 0] := by
    rw [List.take_succ_eq_append_getElem (by omega)]; simp [List.getD_eq_getElem?_getD, show k < m.length by omega]
  rw [h1, h2, cmp_append _ _ _ _ (by simp; omega)]
  simp only [Lib.compareBytes, UInt8.lt_iff_toNat_lt]

/-- Rows in every world behind this one. -/
theorem Rows.one {W : World} {b : Nat} {t : TypeId} {A : Array Value} : ∀ {L : List (Nat × TypeId × Array Value)}, Rows W L → (b, t, A) ∈ L → RowAt W b t A
  | (_, _, _) :: _, h, hm => by
    rcases List.mem_cons.1 hm with e | e
    · obtain ⟨rfl, rfl, rfl⟩ : b = _ ∧ t = _ ∧ A = _ := by simpa using e
      exact h.1
    · exact Rows.one h.2 e

set_option maxRecDepth 100000 in
set_option maxHeartbeats 16000000 in
theorem idsTexts_core (l m : List UInt8) (hl : l.length = 16) (hm : m.length = 16) (s S : ByteArray) (X : Array Value) (ex : Int) (ok z : Bool) (hex : ex = 0 ∧ ok = true ∨ ex = 4 ∧ ok = false) (hs : s.size ≤ 200)
    (LT : ∀ w, Calls Tryz.prog 12 #[.agg (idA l)] w fun e w' => e = .returned (.string S) ∧ Below w.heap.size w w')
    (LU : ∀ w, Calls Tryz.prog 15 #[.agg (idA l)] w fun e w' => e = .returned (.string S) ∧ Below w.heap.size w w')
    (LP : ∀ w, MaxVar w → Calls Tryz.prog 13 #[.string S] w fun e w' => e = .returned (.tuple #[.agg (idA l), .int .i64 0]) ∧ Below w.heap.size w w')
    (LQ : ∀ w, MaxVar w → Calls Tryz.prog 13 #[.string s] w fun e w' => e = .returned (.tuple #[.agg X, .int .i64 ex]) ∧ Below w.heap.size w w')
    (LR : ∀ w, Calls Tryz.prog 14 #[.string s] w fun e w' => e = .returned (.tuple #[.agg X, .bool ok]) ∧ Below w.heap.size w w')
    (LZ : ∀ w, Calls Tryz.prog 16 #[.agg (idA l)] w fun e w' => e = .returned (.bool z) ∧ Below w.heap.size w w')
    (LV : ∀ w, Calls Tryz.prog 17 #[.agg (idA l)] w fun e w' => e = .returned (.int .i64 (((l.getD 6 0).toNat : Int) / 16)) ∧ Below w.heap.size w w')
    (LC : ∀ w, Calls Tryz.prog 18 #[.agg (idA l), .agg (idA m)] w fun e w' => e = .returned (.int .i64 (cmpK l m 16)) ∧ Below w.heap.size w w')
    (EA : ∀ w, (Op.equalIn 10000 23 (.agg (idA l)) (.agg (idA l))).run Tryz.prog w = .ok true w)
    (EX : ∀ w, (Op.equalIn 10000 23 (.agg X) (.agg X)).run Tryz.prog w = .ok true w)
    (EZ : ∀ w, (Op.equalIn 10000 23 (.agg (idA l)) (.agg #[.int .u8 0, .int .u8 0, .int .u8 0, .int .u8 0, .int .u8 0, .int .u8 0, .int .u8 0, .int .u8 0, .int .u8 0, .int .u8 0, .int .u8 0, .int .u8 0, .int .u8 0, .int .u8 0, .int .u8 0, .int .u8 0])).run Tryz.prog w = .ok z w)
    (hXs : X.size = 16) (hX1 : X.all (·.oneCell') = true) (w : World) (hM : MaxVar w) :
    Calls Tryz.prog 3 #[.agg (idA l), .agg (idA m), .string s] w fun e w' => e = .returned (.bool true) ∧ Below w.heap.size w w' := by
  have LA := hid idAwake_any
  have h1 : ¬ (200 : Int) < (s.size : Int) := by omega
  have h1' : decide ((200 : Int) < (s.size : Int)) = false := decide_eq_false h1
  have hXi : (Tryz.prog.info? 23).map (·.size) = some X.size := by rw [info16, hXs]
  have gA : ∀ k, k < 16 → (idA l)[k]? = some (.int .u8 ((l.getD k 0).toNat : Int)) := fun k hk => rowA_get 16 (idV l) k hk
  have gB : ∀ k, k < 16 → (idA m)[k]? = some (.int .u8 ((m.getD k 0).toNat : Int)) := fun k hk => rowA_get 16 (idV m) k hk
  have nx := cmpK_next l m hl hm
  have bd := fun k => cmp_bound (l.take k) (m.take k)
  have st0 : cmpK l m 0 = 0 := by simp [cmpK, Lib.compareBytes]
  obtain ⟨A, hA⟩ : ∃ A, A = idA l := ⟨_, rfl⟩
  obtain ⟨B, hB⟩ : ∃ A, A = idA m := ⟨_, rfl⟩
  have hAone : A.all (·.oneCell') = true := by rw [hA]; exact idA_one l
  have hAs : A.size = 16 := by rw [hA, idA_size]
  have hBs : B.size = 16 := by rw [hB, idA_size]
  have hAi : (Tryz.prog.info? 23).map (·.size) = some A.size := by rw [info16, hAs]
  have hBi : (Tryz.prog.info? 23).map (·.size) = some B.size := by rw [info16, hBs]
  simp only [← hA] at LT LU LP LZ LV LC EA EZ gA ⊢
  simp only [← hB] at LC gB ⊢
  have hcb : ∀ k, -1 ≤ cmpK l m k ∧ cmpK l m k ≤ 1 := fun k => cmp_bound _ _
  replace LT := hid LT
  replace LU := hid LU
  replace LP := hid LP
  replace LQ := hid LQ
  replace LR := hid LR
  replace LZ := hid LZ
  replace LV := hid LV
  replace LC := hid LC
  replace hAone := hid hAone
  replace hX1 := hid hX1
  replace hAs := hid hAs
  replace hBs := hid hBs
  replace hXs := hid hXs
  replace hAi := hid hAi
  replace hBi := hid hBi
  replace hXi := hid hXi
  replace gA := hid gA
  replace gB := hid gB
  replace nx := hid nx
  replace hcb := hid hcb
  replace st0 := hid st0
  have hM1 : ∀ o o', MaxVar ((w.alloc o).alloc o') := fun o o' => (hM.alloc o).alloc o'
  replace hM1 := hid hM1
  clear hA hB bd hl hm hM
  rcases hex with ⟨rfl, rfl⟩ | ⟨rfl, rfl⟩
  all_goals
    go_enter Tryz.func3, Tryz.ntmps3
    go_wp2_with (first
      | (go_at_call 11; refine (LA.out _).mono ?_; rintro e w1 ⟨rfl, hB1⟩
         have hM2 := (hM1.out _ _).below hB1
         have R1 : Rows w1 [(w.heap.size, 23, A), (w.heap.size + 1, 23, B)] := Rows.below hB1 ⟨(RowAt.new w A _).alloc _, RowAt.newS w A B _ _, trivial⟩
         have b1 := below_cat hB1 (below_al (below_al (Below.refl w.heap.size w) _) _)
         replace hM2 := hid hM2
         replace R1 := hid R1
         replace b1 := hid b1
         clear hB1 hM1)
      | (with_reducible refine at_op (some 21) (.load 23 (.tmp 3)) ?_
         refine wpList_load_row (o := ⟨some 21, _, _, _, _, _⟩) rfl 23 (.tmp 3) rfl w.heap.size rfl 23 _ (0, 0) _ R1.out.1 Tryz.underlying23 rfl hAi.out ?_)
      | (go_at_call 12; with_reducible refine (LT.out _).mono ?_; rintro e w2 ⟨rfl, hB2⟩
         have hM3 := hid (hM2.out.below hB2)
         have R2 := hid (Rows.below hB2 R1.out)
         have b2 := hid (below_cat hB2 b1.out)
         clear hB2 hM2 R1 b1 LT)
      | (go_at_call 13; with_reducible refine (LP.out _ hM3.out).mono ?_; rintro e w3 ⟨rfl, hB3⟩
         have hM4 := hid (hM3.out.below hB3)
         have R3 := hid (Rows.below hB3 R2.out)
         have b3 := hid (below_cat hB3 b2.out)
         clear hB3 hM3 R2 b2 LP)
      | (with_reducible refine at_op none (.store 23 (.tmp 8) (.tmp 26)) ?_
         refine wpList_store_row (o := ⟨none, .store _ (.tmp 8) (.tmp 26), _, _, _, _⟩) rfl 23 (.tmp 8) (.tmp 26) rfl w3.heap.size A rfl rfl 23 _ (RowAt.new w3 _ _) hAi.out (by rw [hAs.out]; rfl) hAone.out ?_
         generalize hY : World.setRow _ _ _ = Y
         have R4 : Rows Y ((w3.heap.size, 23, A) :: [(w.heap.size, 23, A), (w.heap.size + 1, 23, B)]) := by
           rw [← hY]
           refine ⟨(RowAt.new w3 _ _).setRow A, Rows.setRowOther _ _ ?_ (Rows.alloc _ R3.out)⟩
           intro r hr
           have q1 := R3.out.1.lt
           have q2 := R3.out.2.1.lt
           simp only [List.mem_cons, List.not_mem_nil, or_false] at hr
           rcases hr with rfl | rfl
           · show w.heap.size ≠ _; omega
           · show w.heap.size + 1 ≠ _; omega
         have b4 : Below w.heap.size w Y := by rw [← hY]; exact below_setRow (below_al b3.out _) b3.out.size _
         have hM5 : MaxVar Y := by
           rw [← hY]
           exact hM4.out.below (below_setRow (below_al (Below.refl _ _) _) (Nat.le_refl _) _)
         generalize w3.heap.size = p8 at R4 ⊢
         replace R4 := hid R4
         replace b4 := hid b4
         replace hM5 := hid hM5
         clear hY R3 b3 hM4)
      | (go_at_call 13; with_reducible refine (LQ.out _ hM5.out).mono ?_; rintro e w4 ⟨rfl, hB4⟩
         have R5 := hid (Rows.below hB4 R4.out)
         have b5 := hid (below_cat hB4 b4.out)
         clear hB4 hM5 R4 b4 LQ)
      | (with_reducible refine at_op none (.store 23 (.tmp 10) (.tmp 31)) ?_
         refine wpList_store_row (o := ⟨none, .store _ (.tmp 10) (.tmp 31), _, _, _, _⟩) rfl 23 (.tmp 10) (.tmp 31) rfl w4.heap.size X rfl rfl 23 _ (RowAt.new w4 _ _) hXi.out (by rw [hXs.out]; rfl) hX1.out ?_
         generalize hZ : World.setRow _ _ _ = Z
         have R6 : Rows Z ((w4.heap.size, 23, X) :: (p8, 23, A) :: [(w.heap.size, 23, A), (w.heap.size + 1, 23, B)]) := by
           rw [← hZ]
           refine ⟨(RowAt.new w4 _ _).setRow X, Rows.setRowOther _ _ ?_ (Rows.alloc _ R5.out)⟩
           intro r hr
           have q0 := R5.out.1.lt
           have q1 := R5.out.2.1.lt
           have q2 := R5.out.2.2.1.lt
           simp only [List.mem_cons, List.not_mem_nil, or_false] at hr
           rcases hr with rfl | rfl | rfl
           · show p8 ≠ _; omega
           · show w.heap.size ≠ _; omega
           · show w.heap.size + 1 ≠ _; omega
         have b6 : Below w.heap.size w Z := by rw [← hZ]; exact below_setRow (below_al b5.out _) b5.out.size _
         generalize w4.heap.size = p10 at R6 ⊢
         replace R6 := hid R6
         replace b6 := hid b6
         clear hZ R5 b5)
      | (go_at_call 14; with_reducible refine (LR.out _).mono ?_; rintro e w5 ⟨rfl, hB5⟩
         have R7 := hid (Rows.below hB5 R6.out)
         have b7 := hid (below_cat hB5 b6.out)
         clear hB5 R6 b6 LR)
      | (with_reducible refine at_op none (.store 23 (.tmp 12) (.tmp 36)) ?_
         refine wpList_store_row (o := ⟨none, .store _ (.tmp 12) (.tmp 36), _, _, _, _⟩) rfl 23 (.tmp 12) (.tmp 36) rfl w5.heap.size X rfl rfl 23 _ (RowAt.new w5 _ _) hXi.out (by rw [hXs.out]; rfl) hX1.out ?_
         generalize hV : World.setRow _ _ _ = V
         have R8 : Rows V ((w5.heap.size, 23, X) :: (p10, 23, X) :: (p8, 23, A) :: [(w.heap.size, 23, A), (w.heap.size + 1, 23, B)]) := by
           rw [← hV]
           refine ⟨(RowAt.new w5 _ _).setRow X, Rows.setRowOther _ _ ?_ (Rows.alloc _ R7.out)⟩
           intro r hr
           have q0 := R7.out.1.lt
           have q1 := R7.out.2.1.lt
           have q2 := R7.out.2.2.1.lt
           have q3 := R7.out.2.2.2.1.lt
           simp only [List.mem_cons, List.not_mem_nil, or_false] at hr
           rcases hr with rfl | rfl | rfl | rfl
           · show p10 ≠ _; omega
           · show p8 ≠ _; omega
           · show w.heap.size ≠ _; omega
           · show w.heap.size + 1 ≠ _; omega
         have b8 : Below w.heap.size w V := by rw [← hV]; exact below_setRow (below_al b7.out _) b7.out.size _
         generalize w5.heap.size = p12 at R8 ⊢
         replace R8 := hid R8
         replace b8 := hid b8
         clear hV R7 b7))
    generalize w.heap.size + 1 = p4 at R8 ⊢
    generalize hp3 : w.heap.size = p3 at R8 ⊢
    rw [hp3] at b8
    replace hp3 := hid hp3
    go_loopw [14, 38] (fun c i wr => ∃ k : Nat, i = .int .i64 k ∧ k ≤ 16 ∧ c = .int .i64 (cmpK l m k) ∧ Hid (Rows wr [(p12, 23, X), (p10, 23, X), (p8, 23, A), (p3, 23, A), (p4, 23, B)]) ∧ Hid (Below p3 w wr)) (fun _ i _ => 16 - (intOf i).toNat)
    case atStart => exact ⟨0, rfl, by omega, by rw [st0.out], R8, b8⟩
    case round =>
      clear R8 b8
      obtain ⟨k, rfl, hk, rfl, hR, hb⟩ := hrel
      by_cases hlt : k < 16
      · have hki : (k : Int) < 16 := by omega
        have hkd : decide ((k : Int) < 16) = true := decide_eq_true hki
        have hnx := nx.out k hlt
        have hc3 := hcb.out k
        have ha := gA.out k hlt
        have hbb := gB.out k hlt
        obtain ⟨a, ea⟩ : ∃ a, a = (l.getD k 0).toNat := ⟨_, rfl⟩
        obtain ⟨b, eb⟩ : ∃ a, a = (m.getD k 0).toNat := ⟨_, rfl⟩
        obtain ⟨c, ec⟩ : ∃ a, a = cmpK l m k := ⟨_, rfl⟩
        obtain ⟨c', ec'⟩ : ∃ a, a = cmpK l m (k + 1) := ⟨_, rfl⟩
        rw [← ea, ← eb, ← ec, ← ec'] at hnx
        rw [← ec] at hc3 ⊢
        rw [← ea] at ha
        rw [← eb] at hbb
        have hcase : (c = -1 ∧ c' = -1) ∨ (c = 1 ∧ c' = 1) ∨ (c = 0 ∧ a < b ∧ c' = -1) ∨ (c = 0 ∧ b < a ∧ c' = 1) ∨ (c = 0 ∧ a = b ∧ c' = 0) := by
          by_cases h0 : c = 0
          · rw [if_pos h0] at hnx
            by_cases h1 : a < b
            · rw [if_pos h1] at hnx; omega
            · rw [if_neg h1] at hnx
              by_cases h2 : b < a
              · rw [if_pos h2] at hnx; omega
              · rw [if_neg h2] at hnx; omega
          · rw [if_neg h0] at hnx; omega
        replace ec' := hid ec'
        clear hnx hc3 ea eb ec
        rcases hcase with ⟨rfl, rfl⟩ | ⟨rfl, rfl⟩ | ⟨rfl, g, rfl⟩ | ⟨rfl, g, rfl⟩ | ⟨rfl, g, rfl⟩
        case' inl => skip
        case' inr.inl => skip
        case' inr.inr.inl =>
          have t1 : decide ((a : Int) < (b : Int)) = true := decide_eq_true (by omega)
        case' inr.inr.inr.inl =>
          have t1 : decide ((a : Int) < (b : Int)) = false := decide_eq_false (by omega)
          have t2 : decide ((b : Int) < (a : Int)) = true := decide_eq_true (by omega)
        case' inr.inr.inr.inr =>
          subst g
          have t1 : decide ((a : Int) < (a : Int)) = false := decide_eq_false (by omega)
        all_goals
          have c1 := fun q : Sub wr => q.cell (hR.out.2.2.2.1) ha
          have c2 := fun q : Sub wr => q.cell (hR.out.2.2.2.2.1) hbb
          go_wp2
          refine wp_region_sub (by kernel_rfl) (by kernel_rfl) ?_
          repeat (go_big_quiet_step (fail))
          refine wpQuiet_nil ?_
          intro q
          have R2 := hid (Rows.below q.h hR.out)
          have b2 := hid (hb.out.trans (q.h.mono (Nat.le_of_lt hR.out.2.2.2.1.lt)))
          generalize q.x = W2 at R2 b2 ⊢
          clear c1 c2 q
          have c1 := fun q : Sub W2 => q.cell (R2.out.2.2.2.1) ha
          have c2 := fun q : Sub W2 => q.cell (R2.out.2.2.2.2.1) hbb
          go_wp2
          refine wp_region_sub (by kernel_rfl) (by kernel_rfl) ?_
          repeat (go_big_quiet_step (fail))
          refine wpQuiet_nil ?_
          intro q
          have R3 := hid (Rows.below q.h R2.out)
          have b3 := hid (b2.out.trans (q.h.mono (Nat.le_of_lt R2.out.2.2.2.1.lt)))
          generalize q.x = W3 at R3 b3 ⊢
          clear c1 c2 q R2 b2
          go_wp2
          go_roundw
          case rel => exact ⟨k + 1, by go_num, by omega, by rw [← ec'.out], R3, b3⟩
          case measure => simp [intOf]; omega
      · obtain rfl : k = 16 := by omega
        have hkd : decide (((16 : Nat) : Int) < 16) = false := by decide
        have hb' := hb
        rw [← hp3.out] at hb'
        have q3 := fun q : Sub wr => loadAt_row (hR.out.2.2.2.1.below q.h hR.out.2.2.2.1.lt) 23 _ Tryz.underlying23 rfl hAi.out
        have q4 := fun q : Sub wr => loadAt_row (hR.out.2.2.2.2.1.below q.h hR.out.2.2.2.2.1.lt) 23 _ Tryz.underlying23 rfl hBi.out
        have q8 := fun q : Sub wr => loadAt_row (hR.out.2.2.1.below q.h hR.out.2.2.1.lt) 23 _ Tryz.underlying23 rfl hAi.out
        have q10 := fun q : Sub wr => loadAt_row (hR.out.2.1.below q.h hR.out.2.1.lt) 23 _ Tryz.underlying23 rfl hXi.out
        have q12 := fun q : Sub wr => loadAt_row (hR.out.1.below q.h hR.out.1.lt) 23 _ Tryz.underlying23 rfl hXi.out
        have c6 := fun q : Sub wr => q.cell (hR.out.2.2.2.1) (gA.out 6 (by decide))
        obtain ⟨c, ec⟩ : ∃ a, a = cmpK l m 16 := ⟨_, rfl⟩
        obtain ⟨u, eu⟩ : ∃ a, a = (l.getD 6 0).toNat := ⟨_, rfl⟩
        have LC' := LC.out
        have LV' := LV.out
        rw [← ec] at LC' ⊢
        have hu1 : (0 : Int) ≤ (u : Int) := by omega
        have hu2 : (u : Int) < 256 := by have := (l.getD 6 0).toNat_lt; omega
        have hw6 : wrap64 ((u : Int) / 16) = (u : Int) / 16 := by
          have h1 : (0 : Int) ≤ (u : Int) / 16 := by omega
          have h2 : (u : Int) / 16 < 16 := by omega
          unfold wrap64
          omega
        rw [← eu] at LV' c6
        replace LC' := hid LC'
        replace LV' := hid LV'
        clear ec eu LC LV hb hp3 gA gB nx hcb
        go_wp2
        refine wp_region_sub (by kernel_rfl) (by kernel_rfl) ?_
        repeat (first
          | (go_big_quiet_want; refine quiet_load 23 (.tmp 3) rfl rfl q3 ?_; simp only [Act.put, List.setIfInBounds_toArray, List.set_cons_zero, List.set_cons_succ]; go_big_quiet_on)
          | (go_big_quiet_want; refine quiet_load 23 (.tmp 4) rfl rfl q4 ?_; simp only [Act.put, List.setIfInBounds_toArray, List.set_cons_zero, List.set_cons_succ]; go_big_quiet_on)
          | (go_big_quiet_want; refine quiet_load 23 (.tmp 8) rfl rfl q8 ?_; simp only [Act.put, List.setIfInBounds_toArray, List.set_cons_zero, List.set_cons_succ]; go_big_quiet_on)
          | (go_big_quiet_want; refine quiet_load 23 (.tmp 10) rfl rfl q10 ?_; simp only [Act.put, List.setIfInBounds_toArray, List.set_cons_zero, List.set_cons_succ]; go_big_quiet_on)
          | (go_big_quiet_want; refine quiet_load 23 (.tmp 12) rfl rfl q12 ?_; simp only [Act.put, List.setIfInBounds_toArray, List.set_cons_zero, List.set_cons_succ]; go_big_quiet_on)
          | go_big_quiet_step (first
          | (go_at_call 15; with_reducible refine Sub.call _ (LU.out _))
          | (go_at_call 16; with_reducible refine Sub.call _ (LZ.out _))
          | (go_at_call 17; with_reducible refine Sub.call _ (LV'.out _))
          | (go_at_call 18; with_reducible refine Sub.call _ (LC'.out _))))
        refine wpQuiet_nil ?_
        intro q
        go_wp2
        go_ret
        exact ⟨rfl, below_cat q.h hb'.out⟩

set_option maxRecDepth 100000 in
set_option maxHeartbeats 4000000 in
theorem idsTexts_big (l m : List UInt8) (s : ByteArray) (hs : ¬ s.size ≤ 200) (hs2 : s.size ≤ 140737488351232) (w : World) :
    Calls Tryz.prog 3 #[.agg (idA l), .agg (idA m), .string s] w fun e w' => e = .returned (.bool true) ∧ Below w.heap.size w w' := by
  have LA := hid idAwake_any
  have h1 : (200 : Int) < (s.size : Int) := by omega
  have h1' : decide ((200 : Int) < (s.size : Int)) = true := decide_eq_true h1
  generalize idA l = A
  generalize idA m = B
  go_enter Tryz.func3, Tryz.ntmps3
  go_wp2_with (first
      | (go_at_call 11; refine (LA.out _).mono ?_; rintro e w1 ⟨rfl, hB1⟩))
  go_ret
  exact ⟨rfl, below_cat hB1 (below_al (below_al (Below.refl w.heap.size w) _) _)⟩

theorem idsTexts_walk (l m : List UInt8) (s : ByteArray) (hl : l.length = 16) (hm : m.length = 16) (hs2 : s.size ≤ 140737488351232) (w : World) (hM : MaxVar w) :
    Calls Tryz.prog 3 #[.agg (idA l), .agg (idA m), .string s] w fun e w' => e = .returned (.bool true) ∧ Below w.heap.size w w' := by
  by_cases hs : s.size ≤ 200
  · have hz : ∀ w, (Op.equalIn 10000 23 (.agg (idA l)) (.agg #[.int .u8 0, .int .u8 0, .int .u8 0, .int .u8 0, .int .u8 0, .int .u8 0, .int .u8 0, .int .u8 0, .int .u8 0, .int .u8 0, .int .u8 0, .int .u8 0, .int .u8 0, .int .u8 0, .int .u8 0, .int .u8 0])).run Tryz.prog w = .ok (l == List.replicate 16 0) w := fun w => eq_id l (List.replicate 16 0) hl rfl w
    have LT := fun w => callsIn_wide.1 (idText_in l hl w)
    have LU := fun w => refText_id l hl w
    have LP := fun w h => parse_yes ⟨(textI l).toArray⟩ l hl (by simp) w h
    have LZ := fun w => zero_id l hl w
    have LV : ∀ w, Calls Tryz.prog 17 #[.agg (idA l)] w fun e w' => e = .returned (.int .i64 (((l.getD 6 0).toNat : Int) / 16)) ∧ Below w.heap.size w w' := fun w => by
      have := version_any l hl w
      rwa [Int.natCast_ediv] at this
    have LC : ∀ w, Calls Tryz.prog 18 #[.agg (idA l), .agg (idA m)] w fun e w' => e = .returned (.int .i64 (cmpK l m 16)) ∧ Below w.heap.size w w' := fun w => by
      rw [cmpK_all l m hl hm]; exact cmpId_any l m hl hm w
    have EA : ∀ w, (Op.equalIn 10000 23 (.agg (idA l)) (.agg (idA l))).run Tryz.prog w = .ok true w := fun w => by rw [eq_id l l hl hl w]; simp
    by_cases hp : ∃ o : List UInt8, o.length = 16 ∧ s.data.toList = textI o
    · obtain ⟨o, ho, hso⟩ := hp
      exact idsTexts_core l m hl hm s _ (idA o) 0 true _ (.inl ⟨rfl, rfl⟩) hs LT LU LP (fun w h => parse_yes s o ho hso w h) (fun w => refParse_yes s o ho hso w) LZ LV LC EA
        (fun w => by rw [eq_id o o ho ho w]; simp) hz (idA_size _) (idA_one _) w hM
    · have hno : ∀ o : List UInt8, o.length = 16 → s.data.toList ≠ textI o := fun o ho e => hp ⟨o, ho, e⟩
      exact idsTexts_core l m hl hm s _ (idA (List.replicate 16 0)) 4 false _ (.inr ⟨rfl, rfl⟩) hs LT LU LP (fun w h => parse_no s (by omega) hno w h) (fun w => refParse_no s hno w) LZ LV LC EA
        (fun w => by rw [eq_id _ _ rfl rfl w]; simp) hz (idA_size _) (idA_one _) w hM
  · exact idsTexts_big l m s hs hs2 w
end Go.Proofs.YtdjlpmelmhhooaaGreatDoor
