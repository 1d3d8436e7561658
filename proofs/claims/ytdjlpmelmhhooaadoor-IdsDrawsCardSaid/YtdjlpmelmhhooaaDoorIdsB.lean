/- Ids: the document's Draw, Derive; the chapter's awake. -/
import Derived.Test.YtdjlpmelmhhooaaDoorIdsA
import Derived.Test.YtdjlpmelmhhooaaDoorIds9
import Derived.Test.YtdjlpmelmhhooaaDoorIdQ
import Derived.Test.YtdjlpmelmhhooaaDoorIds2
import Derived.Test.YtdjlpmelmhhooaaDoorBasW
namespace Go.Proofs.YtdjlpmelmhhooaaDoor
open Go Go.RowKit
set_option linter.unusedSimpArgs false
set_option linter.unusedVariables false

theorem draw_set (l : List UInt8) (hl : l.length = 16) : ((idA l).setIfInBounds 6 (.int .u8 (((l.getD 6 0).toNat % 16 + 64 : Nat) : Int))).setIfInBounds 8 (.int .u8 (((l.getD 8 0).toNat % 64 + 128 : Nat) : Int)) = idA (drawL l) := by
  have hu6 : (l.getD 6 0).toNat < 256 := (l.getD 6 0).toNat_lt
  have hu8 : (l.getD 8 0).toNat < 256 := (l.getD 8 0).toNat_lt
  unfold idA
  rw [rowA_set, rowA_set]
  refine rowA_ext fun i hi => ?_
  have hil : i < l.length := by omega
  have m1 : (l.getD 6 0).toNat % 16 + 64 < 256 := by omega
  have m2 : (l.getD 8 0).toNat % 64 + 128 < 256 := by omega
  unfold idV drawL
  by_cases h8 : i = 8
  · subst h8; simp [List.getD_eq_getElem?_getD, hil]
    rw [List.getD_eq_getElem?_getD, List.getElem?_eq_getElem hil] at m2
    simp at m2; omega
  · by_cases h6 : i = 6
    · subst h6; simp [List.getD_eq_getElem?_getD, hil, h8]
      rw [List.getD_eq_getElem?_getD, List.getElem?_eq_getElem hil] at m1
      simp at m1; omega
    · simp [h6, h8, List.getD_eq_getElem?_getD, hil, Ne.symm h6, Ne.symm h8, List.getElem_set]

set_option maxRecDepth 100000 in
set_option maxHeartbeats 4000000 in
theorem refDraw_any (s : ByteArray) (hs : s.size = 16) (w : World) : Calls Tryd.prog 13 #[.string s] w fun e w' => e = .returned (.agg (idA (drawL s.data.toList))) ∧ Below w.heap.size w w' := by
  have LO := fun w => refOf_any s hs w
  obtain ⟨l, hl0⟩ : ∃ l, l = s.data.toList := ⟨_, rfl⟩
  have hl : l.length = 16 := by rw [hl0]; simpa using hs
  rw [← hl0] at LO ⊢
  have hfin := draw_set l hl
  obtain ⟨A, hA⟩ : ∃ A, A = idA l := ⟨_, rfl⟩
  have hAone : A.all (·.oneCell') = true := by rw [hA]; exact idA_one l
  have hAsz : A.size = 16 := by rw [hA, idA_size]
  have hAi : (Tryd.prog.info? 23).map (·.size) = some A.size := by rw [info16, hAsz]
  have hu6 : (l.getD 6 0).toNat < 256 := (l.getD 6 0).toNat_lt
  have hu8 : (l.getD 8 0).toNat < 256 := (l.getD 8 0).toNat_lt
  have hA6 : A[6]? = some (.int .u8 ((l.getD 6 0).toNat : Int)) := by rw [hA]; exact rowA_get 16 (idV l) 6 (by decide)
  have hA8 : A[8]? = some (.int .u8 ((l.getD 8 0).toNat : Int)) := by rw [hA]; exact rowA_get 16 (idV l) 8 (by decide)
  rw [← hA] at hfin LO
  obtain ⟨u6, e6⟩ : ∃ u, u = (l.getD 6 0).toNat := ⟨_, rfl⟩
  obtain ⟨u8, e8⟩ : ∃ u, u = (l.getD 8 0).toNat := ⟨_, rfl⟩
  rw [← e6] at hA6 hu6 hfin
  rw [← e8] at hA8 hu8 hfin
  have hb6 : (u6 : Int) % 16 + 64 = ((u6 % 16 + 64 : Nat) : Int) := by omega
  have hb8 : (u8 : Int) % 64 + 128 = ((u8 % 64 + 128 : Nat) : Int) := by omega
  have hc6 : (u6 : Int) % 16 + 64 < 256 := by omega
  have hc8 : (u8 : Int) % 64 + 128 < 256 := by omega
  have hd6 : 0 ≤ (u6 : Int) % 16 := by omega
  have hd8 : 0 ≤ (u8 : Int) % 64 := by omega
  have hp6 : 0 ≤ (u6 : Int) := by omega
  have hp8 : 0 ≤ (u8 : Int) := by omega
  rw [← hb6, ← hb8] at hfin
  obtain ⟨R, hR⟩ : ∃ R, R = idA (drawL l) := ⟨_, rfl⟩
  have hRone : R.all (·.oneCell') = true := by rw [hR]; exact idA_one _
  have hRsz : R.size = 16 := by rw [hR, idA_size]
  rw [← hR] at hfin ⊢
  have hRi : (Tryd.prog.info? 23).map (·.size) = some R.size := by rw [info16, hRsz]
  replace hb6 := hid hb6
  replace hb8 := hid hb8
  replace LO := hid LO
  replace hA6 := hid hA6
  replace hA8 := hid hA8
  replace hAone := hid hAone
  replace hAsz := hid hAsz
  replace hAi := hid hAi
  replace hRone := hid hRone
  replace hRsz := hid hRsz
  replace hRi := hid hRi
  replace hfin := hid hfin
  clear hA e6 e8 hl0 hs hl hR
  go_enter Tryd.func13, Tryd.ntmps13
  go_wp2_with (first
    | (go_at_call 23; with_reducible refine (LO.out _).mono ?_; rintro e w1 ⟨rfl, hB1⟩
       have b1 := below_cat hB1 (below_al (Below.refl w.heap.size w) _)
       have r1 := (RowAt.new w (idA (List.replicate 16 0)) 23).below hB1 (by simp)
       have s1 := r1.lt
       replace r1 := hid r1
       replace b1 := hid b1
       clear hB1 LO)
    | (with_reducible refine at_op none (.store 23 (.tmp 3) (.tmp 5)) ?_
       refine wpList_store_row (o := ⟨none, .store _ (.tmp 3) (.tmp 5), _, _, _, _⟩) rfl 23 (.tmp 3) (.tmp 5) rfl w1.heap.size A rfl rfl 23 _ (RowAt.new w1 _ _) hAi.out (by rw [hAsz.out]; rfl) hAone.out ?_
       generalize hY : World.setRow _ _ _ = Y
       have r2 : RowAt Y w1.heap.size 23 A := by rw [← hY]; exact (RowAt.new w1 _ _).setRow A
       have r3 : RowAt Y w.heap.size 23 (idA (List.replicate 16 0)) := by rw [← hY]; exact (r1.out.alloc _).setRowOther _ _ (by omega)
       have b2 : Below w.heap.size w Y := by rw [← hY]; exact below_setRow (below_al b1.out _) (by omega) _
       generalize hg : w1.heap.size = g
       rw [hg] at r2 s1
       have c6 := r2.cell hA6.out
       have c8 := r2.cell hA8.out
       have k6 := r2.free 6
       have k8 := r2.free 8
       have r4 := (((r2.set 6 (.int .u8 ((u6 : Int) % 16 + 64))).set 8 (.int .u8 ((u8 : Int) % 64 + 128)))).eqA hfin.out
       have r5 := ((r3.other ⟨g, 6, none⟩ (.int .u8 ((u6 : Int) % 16 + 64)) (by show w.heap.size ≠ g; omega)).other ⟨g, 8, none⟩ (.int .u8 ((u8 : Int) % 64 + 128)) (by show w.heap.size ≠ g; omega))
       have b3 := ((b2.setCell (p := ⟨g, 6, none⟩) (by show w.heap.size ≤ g; omega) (.int .u8 ((u6 : Int) % 16 + 64))).setCell (p := ⟨g, 8, none⟩) (by show w.heap.size ≤ g; omega) (.int .u8 ((u8 : Int) % 64 + 128)))
       replace r4 := hid r4
       replace r5 := hid r5
       replace b3 := hid b3
       clear hY hg r1 b1 r2 r3 b2)
    | (with_reducible refine at_op (some 16) (.load 23 (.tmp 3)) ?_
       refine wpList_load_row (o := ⟨some 16, _, _, _, _, _⟩) rfl 23 (.tmp 3) rfl g rfl 23 R (0, 0) _ r4.out Tryd.underlying23 rfl hRi.out ?_)
    | (with_reducible refine at_op none (.store 23 (.tmp 2) (.tmp 16)) ?_
       refine wpList_store_row (o := ⟨none, .store _ (.tmp 2) (.tmp 16), _, _, _, _⟩) rfl 23 (.tmp 2) (.tmp 16) rfl w.heap.size R rfl rfl 23 _ r5.out hRi.out (by rw [hRsz.out, idA_size]) hRone.out ?_))
  exact bodyPost_ret (results_cell_row rfl _ _ w.heap.size 23 R (0, 0) _ rfl (r5.out.setRow _) Tryd.underlying23 rfl hRi.out) rfl ⟨rfl, below_setRow b3.out (Nat.le_refl _) _⟩

set_option maxRecDepth 100000 in
set_option maxHeartbeats 4000000 in
theorem refDerive_any (key name : ByteArray) (hk : key.size ≤ 1000000) (hn : name.size ≤ 1000000) (w : World) : Calls Tryd.prog 10 #[.string key, .string name] w fun e w' => e = .returned (.agg (idA (deriveL key name))) ∧ Below w.heap.size w w' := by
  have hz := hmacS_size key name
  have hlen : ((hmacS key name).data.toList.take 16).length = 16 := by
    have h2 : (hmacS key name).data.toList.length = 32 := by rw [← hz]; simp
    rw [List.length_take, h2]; rfl
  have LS := fun w => refHmac_any key name hk hn w
  have LD := fun w => refDraw_any (idS ((hmacS key name).data.toList.take 16)) (by rw [idS_size, hlen]) w
  have e : drawL (idS ((hmacS key name).data.toList.take 16)).data.toList = deriveL key name := by simp [idS, deriveL]
  rw [e] at LD
  have hx := short16 _ hz
  obtain ⟨s, hs⟩ : ∃ s, s = idS ((hmacS key name).data.toList.take 16) := ⟨_, rfl⟩
  rw [← hs] at LD hx
  obtain ⟨T, hT⟩ : ∃ T, T = hmacS key name := ⟨_, rfl⟩
  rw [← hT] at LS hx hz
  obtain ⟨A, hA⟩ : ∃ A, A = idA (deriveL key name) := ⟨_, rfl⟩
  rw [← hA] at LD ⊢
  have hAone : A.all (·.oneCell') = true := by rw [hA]; exact idA_one _
  have hAsz : A.size = 16 := by rw [hA, idA_size]
  have hAi : (Tryd.prog.info? 23).map (·.size) = some A.size := by rw [info16, hAsz]
  have hz16 : ¬ (T.size : Int) < 16 := by omega
  have hz17 : (16 : Int) ≤ (T.size : Int) := by omega
  replace LS := hid LS
  replace LD := hid LD
  replace hAone := hid hAone
  replace hAsz := hid hAsz
  replace hAi := hid hAi
  clear hs hA e hlen hz hT
  go_enter Tryd.func10, Tryd.ntmps10
  go_wp2_with (first
    | (go_at_call 22; with_reducible refine (LS.out _).mono ?_; rintro e w1 ⟨rfl, hB1⟩)
    | (go_at_call 13; with_reducible refine (LD.out _).mono ?_; rintro e w2 ⟨rfl, hB2⟩
       have b2 := below_cat hB2 (below_cat hB1 (below_al (Below.refl w.heap.size w) _))
       have r0 := (RowAt.new w (idA (List.replicate 16 0)) 23).below (below_cat hB2 hB1) (by simp)
       replace b2 := hid b2
       replace r0 := hid r0
       clear hB1 hB2 LS LD)
    | (with_reducible refine at_op none (.store 23 (.tmp 4) (.tmp 9)) ?_
       refine wpList_store_row (o := ⟨none, .store _ (.tmp 4) (.tmp 9), _, _, _, _⟩) rfl 23 (.tmp 4) (.tmp 9) rfl w.heap.size A rfl rfl 23 _ r0.out hAi.out (by rw [hAsz.out, idA_size]) hAone.out ?_))
  exact bodyPost_ret (results_cell_row rfl _ _ w.heap.size 23 A (0, 0) _ rfl (r0.out.setRow _) Tryd.underlying23 rfl hAi.out) rfl ⟨rfl, below_setRow b2.out (Nat.le_refl _) _⟩

set_option maxRecDepth 100000 in
set_option maxHeartbeats 4000000 in
theorem idAwake_any (w : World) : Calls Tryd.prog 5 #[] w fun e w' => e = .returned (.bool true) ∧ Below w.heap.size w w' := by
  have LT := fun w => callsIn_wide.1 (idText_in (List.replicate 16 0) rfl w)
  rw [textI_zero] at LT
  rw [show idA (List.replicate 16 0) = #[.int .u8 0, .int .u8 0, .int .u8 0, .int .u8 0, .int .u8 0, .int .u8 0, .int .u8 0, .int .u8 0, .int .u8 0, .int .u8 0, .int .u8 0, .int .u8 0, .int .u8 0, .int .u8 0, .int .u8 0, .int .u8 0] from rfl] at LT
  have L2 : ∀ w, Calls Tryd.prog 14 #[] w fun e w' => e = .returned (.bool true) ∧ Below w.heap.size w w' := fun w => by
    go_enter Tryd.func14, Tryd.ntmps14
    go_wp2_with (go_at_call 24; with_reducible refine (basAwake_any _).mono ?_; rintro e w1 ⟨rfl, hB⟩)
    go_ret
    exact ⟨rfl, hB⟩
  have L6 : ∀ w, Calls Tryd.prog 15 #[] w fun e w' => e = .returned (.bool true) ∧ Below w.heap.size w w' := fun w => by
    go_enter Tryd.func15, Tryd.ntmps15
    go_wp2_with (go_at_call 25; with_reducible refine (hmacAwake_any _).mono ?_; rintro e w1 ⟨rfl, hB⟩)
    go_ret
    exact ⟨rfl, hB⟩
  replace LT := hid LT
  replace L2 := hid L2
  replace L6 := hid L6
  go_enter Tryd.func5, Tryd.ntmps5
  go_wp2_with (first
    | (go_at_call 14; with_reducible refine (L2.out _).mono ?_; rintro e w1 ⟨rfl, hB1⟩)
    | (go_at_call 15; with_reducible refine (L6.out _).mono ?_; rintro e w2 ⟨rfl, hB2⟩)
    | (go_at_call 6; with_reducible refine (LT.out _).mono ?_; rintro e w3 ⟨rfl, hB3⟩))
  go_ret
  exact ⟨rfl, by repeat (first | assumption | with_reducible apply below_cat)⟩
end Go.Proofs.YtdjlpmelmhhooaaDoor
