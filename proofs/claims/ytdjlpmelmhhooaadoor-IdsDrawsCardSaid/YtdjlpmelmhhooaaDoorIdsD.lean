/- Ids: the walk of IdsDraws. -/
import Derived.Test.YtdjlpmelmhhooaaDoorIdsB
import Derived.Test.YtdjlpmelmhhooaaDoorQLd
namespace Go.Proofs.YtdjlpmelmhhooaaDoor
open Go Go.RowKit
set_option linter.unusedSimpArgs false
set_option linter.unusedVariables false

theorem run_mx3i {P : Program} (ts : Array TypeId) (t : TypeId) (k : IntKind) (x y z : Int) (w : World) : (Builtin.max_ ts t #[.int k x, .int k y, .int k z]).run P w = .ok (.int k (max (max x y) z)) w := by
  have e : ∀ a b : Int, (if b > a then b else a) = max a b := fun a b => by omega
  simp only [Builtin.max_, List.foldlM_cons, List.foldlM_nil, Builtin.max2, Sem.run_bind, Sem.run_pure, Result.andThen, e]
theorem draw_ver (l : List UInt8) (hl : l.length = 16) : (((drawL l).getD 6 0).toNat / 16 : Nat) = 4 := by
  have hu6 : (l.getD 6 0).toNat < 256 := (l.getD 6 0).toNat_lt
  have m1 : (l.getD 6 0).toNat % 16 + 64 < 256 := by omega
  have h6 : 6 < l.length := by omega
  unfold drawL
  simp [List.getD_eq_getElem?_getD, h6]
  omega

set_option maxRecDepth 100000 in
set_option maxHeartbeats 4000000 in
theorem idsDraws_big (s key name : ByteArray) (w0 : s.size ≤ 140737488351232) (w1 : key.size ≤ 140737488351232) (w2 : name.size ≤ 140737488351232) (h : ¬ (max (max (s.size : Int) (key.size : Int)) (name.size : Int)) ≤ 200) (w : World) :
    Calls Tryd.prog 4 #[.string s, .string key, .string name] w fun e w' => e = .returned (.bool true) ∧ Below w.heap.size w w' := by
  have LA := hid idAwake_any
  have hmx := fun ts t w => run_mx3i (P := Tryd.prog) ts t .i64 (s.size : Int) (key.size : Int) (name.size : Int) w
  obtain ⟨M, hM⟩ : ∃ M : Nat, max (max (s.size : Int) (key.size : Int)) (name.size : Int) = (M : Int) := ⟨max (max s.size key.size) name.size, by omega⟩
  rw [hM] at hmx h
  have h1 : (200 : Int) < (M : Int) := by omega
  have h1' : decide ((200 : Int) < (M : Int)) = true := decide_eq_true h1
  clear hM
  go_enter Tryd.func4, Tryd.ntmps4
  go_wp2_with (go_at_call 5; refine (LA.out _).mono ?_; rintro e w1 ⟨rfl, hB1⟩)
  go_ret
  exact ⟨rfl, hB1⟩

set_option maxRecDepth 100000 in
set_option maxHeartbeats 8000000 in
theorem idsDraws_core (s key name : ByteArray) (U D : Array Value) (er : Int) (ok : Bool) (h : max (max (s.size : Int) (key.size : Int)) (name.size : Int) ≤ 200)
    (LD : ∀ w, Calls Tryd.prog 8 #[.string s] w fun e w' => e = .returned (.tuple #[.agg U, .int .i64 er]) ∧ Below w.heap.size w w')
    (LV : ∀ w, Calls Tryd.prog 9 #[.string key, .string name] w fun e w' => e = .returned (.agg D) ∧ Below w.heap.size w w')
    (LR : ∀ w, Calls Tryd.prog 10 #[.string key, .string name] w fun e w' => e = .returned (.agg D) ∧ Below w.heap.size w w')
    (LW : ∀ w, Calls Tryd.prog 11 #[.agg D] w fun e w' => e = .returned (.int .i64 4) ∧ Below w.heap.size w w')
    (hU : ok = true → er = 0 ∧ s.size = 16 ∧ (∀ w, Calls Tryd.prog 11 #[.agg U] w fun e w' => e = .returned (.int .i64 4) ∧ Below w.heap.size w w') ∧ (∀ w, Calls Tryd.prog 13 #[.string s] w fun e w' => e = .returned (.agg U) ∧ Below w.heap.size w w'))
    (hN : ok = false → er = 4 ∧ s.size ≠ 16 ∧ ∀ w, Calls Tryd.prog 12 #[.agg U] w fun e w' => e = .returned (.bool true) ∧ Below w.heap.size w w')
    (EU : ∀ w, (Op.equalIn 10000 23 (.agg U) (.agg U)).run Tryd.prog w = .ok true w)
    (ED : ∀ w, (Op.equalIn 10000 23 (.agg D) (.agg D)).run Tryd.prog w = .ok true w)
    (hUs : U.size = 16) (hDs : D.size = 16) (hU1 : U.all (·.oneCell') = true) (hD1 : D.all (·.oneCell') = true) (w : World) :
    Calls Tryd.prog 4 #[.string s, .string key, .string name] w fun e w' => e = .returned (.bool true) ∧ Below w.heap.size w w' := by
  have LA := hid idAwake_any
  have hmx := fun ts t w => run_mx3i (P := Tryd.prog) ts t .i64 (s.size : Int) (key.size : Int) (name.size : Int) w
  obtain ⟨M, hM⟩ : ∃ M : Nat, max (max (s.size : Int) (key.size : Int)) (name.size : Int) = (M : Int) := ⟨max (max s.size key.size) name.size, by omega⟩
  rw [hM] at hmx h
  have h1 : ¬ (200 : Int) < (M : Int) := by omega
  have h1' : decide ((200 : Int) < (M : Int)) = false := decide_eq_false h1
  have hUi : (Tryd.prog.info? 23).map (·.size) = some U.size := by rw [info16, hUs]
  have hDi : (Tryd.prog.info? 23).map (·.size) = some D.size := by rw [info16, hDs]
  clear hM
  replace LD := hid LD
  replace LV := hid LV
  replace LR := hid LR
  replace LW := hid LW
  replace hUs := hid hUs
  replace hDs := hid hDs
  replace hU1 := hid hU1
  replace hD1 := hid hD1
  replace hUi := hid hUi
  replace hDi := hid hDi
  replace hU := hid hU
  replace hN := hid hN
  go_enter Tryd.func4, Tryd.ntmps4
  go_wp2_with (first
    | (go_at_call 5; refine (LA.out _).mono ?_; rintro e w1 ⟨rfl, hB1⟩)
    | (go_at_call 8; with_reducible refine (LD.out _).mono ?_; rintro e w2 ⟨rfl, hB2⟩
       have b2 := hid (below_cat hB2 hB1)
       clear hB1 hB2)
    | (with_reducible refine at_op none (.store 23 (.tmp 7) (.tmp 23)) ?_
       refine wpList_store_row (o := ⟨none, .store _ (.tmp 7) (.tmp 23), _, _, _, _⟩) rfl 23 (.tmp 7) (.tmp 23) rfl w2.heap.size U rfl rfl 23 _ (RowAt.new w2 _ _) hUi.out (by rw [hUs.out]; rfl) hU1.out ?_
       generalize hY : World.setRow _ _ _ = Y
       have r1 : RowAt Y w2.heap.size 23 U := by rw [← hY]; exact (RowAt.new w2 _ _).setRow U
       have b3 : Below w.heap.size w Y := by rw [← hY]; exact below_setRow (below_al b2.out _) b2.out.size _
       generalize w2.heap.size = g at r1 ⊢
       replace r1 := hid r1
       replace b3 := hid b3
       clear hY b2)
    | (go_at_call 9; with_reducible refine (LV.out _).mono ?_; rintro e w3 ⟨rfl, hB3⟩
       have b4 := below_cat hB3 b3.out
       have r2 := r1.out.below hB3 r1.out.lt
       have hg : g < w3.heap.size := r2.lt
       replace b4 := hid b4
       replace r2 := hid r2
       clear hB3 b3 r1)
    | (with_reducible refine at_op none (.store 23 (.tmp 9) (.tmp 27)) ?_
       refine wpList_store_row (o := ⟨none, .store _ (.tmp 9) (.tmp 27), _, _, _, _⟩) rfl 23 (.tmp 9) (.tmp 27) rfl w3.heap.size D rfl rfl 23 _ (RowAt.new w3 _ _) hDi.out (by rw [hDs.out]; rfl) hD1.out ?_
       generalize hZ : World.setRow _ _ _ = Z
       have r3 : RowAt Z w3.heap.size 23 D := by rw [← hZ]; exact (RowAt.new w3 _ _).setRow D
       have r4 : RowAt Z g 23 U := by rw [← hZ]; exact (r2.out.alloc _).setRowOther _ _ (by omega)
       have b5 : Below w.heap.size w Z := by rw [← hZ]; exact below_setRow (below_al b4.out _) b4.out.size _
       generalize w3.heap.size = f at r3 ⊢
       have q1 := fun q : Sub Z => loadAt_row (r3.below q.h r3.lt) 23 _ Tryd.underlying23 rfl hDi.out
       replace r3 := hid r3
       replace r4 := hid r4
       replace b5 := hid b5
       clear hZ b4 r2 hg))
  simp only [Act.put]
  refine wp_region_sub (by kernel_rfl) (by kernel_rfl) ?_
  repeat (first
    | (go_big_quiet_want; refine quiet_load 23 (.tmp 9) rfl rfl q1 ?_; simp only [Act.put, List.setIfInBounds_toArray, List.set_cons_zero, List.set_cons_succ]; go_big_quiet_on)
    | go_big_quiet_step (first
    | (go_at_call 10; with_reducible refine Sub.call _ (LR.out _))
    | (go_at_call 11; with_reducible refine Sub.call _ (LW.out _))))
  refine wpQuiet_nil ?_
  intro q
  have r5 := r4.out.below q.h r4.out.lt
  have b6 := below_cat q.h b5.out
  generalize q.x = X at r5 b6 ⊢
  clear q r3 r4 b5 q1 LD LV LR LW ED hD1 hDs hDi
  have q2 := fun q : Sub X => loadAt_row (r5.below q.h r5.lt) 23 _ Tryd.underlying23 rfl hUi.out
  replace r5 := hid r5
  replace b6 := hid b6
  cases ok with
  | true =>
    obtain ⟨rfl, hs16, hV, hR⟩ := hU.out rfl
    have hd : ((s.size : Int) != 16) = false := by rw [hs16]; rfl
    replace hV := hid hV
    replace hR := hid hR
    clear hU hN hs16
    go_wp2
    refine wp_region_sub (by kernel_rfl) (by kernel_rfl) ?_
    repeat (first
      | (go_big_quiet_want; refine quiet_load 23 (.tmp 7) rfl rfl q2 ?_; simp only [Act.put, List.setIfInBounds_toArray, List.set_cons_zero, List.set_cons_succ]; go_big_quiet_on)
      | go_big_quiet_step (first
      | (go_at_call 13; with_reducible refine Sub.call _ (hR.out _))
      | (go_at_call 11; with_reducible refine Sub.call _ (hV.out _))))
    refine wpQuiet_nil ?_
    intro q
    go_wp2
    go_ret
    exact ⟨rfl, below_cat q.h b6.out⟩
  | false =>
    obtain ⟨rfl, hs16, hZ⟩ := hN.out rfl
    have hd : ((s.size : Int) != 16) = true := by rw [bne_iff_ne]; omega
    replace hZ := hid hZ
    clear hU hN hs16
    go_wp2_with (first
      | (go_at_call 12; with_reducible refine (hZ.out _).mono ?_; rintro e w5 ⟨rfl, hB5⟩)
      | (with_reducible refine at_op (some 44) (.load 23 (.tmp 7)) ?_
         refine wpList_load_rowG rfl 23 (.tmp 7) rfl g rfl 23 U _ r5.out Tryd.underlying23 rfl hUi.out ?_))
    go_ret
    exact ⟨rfl, below_cat hB5 b6.out⟩

theorem idsDraws_walk (s key name : ByteArray) (w0 : s.size ≤ 140737488351232) (w1 : key.size ≤ 140737488351232) (w2 : name.size ≤ 140737488351232) (w : World) :
    Calls Tryd.prog 4 #[.string s, .string key, .string name] w fun e w' => e = .returned (.bool true) ∧ Below w.heap.size w w' := by
  by_cases h : max (max (s.size : Int) (key.size : Int)) (name.size : Int) ≤ 200
  · have hk : key.size ≤ 1000000 := by omega
    have hn : name.size ≤ 1000000 := by omega
    have hDl := deriveL_len key name
    have hVd : ∀ w, Calls Tryd.prog 11 #[.agg (idA (deriveL key name))] w fun e w' => e = .returned (.int .i64 4) ∧ Below w.heap.size w w' := fun w => by
      have := version_any (deriveL key name) hDl w
      have e : ((deriveL key name).getD 6 0).toNat / 16 = 4 := draw_ver _ (by rw [← drawL_len]; exact hDl)
      rw [e] at this
      exact this
    have ED : ∀ w, (Op.equalIn 10000 23 (.agg (idA (deriveL key name))) (.agg (idA (deriveL key name)))).run Tryd.prog w = .ok true w := fun w => by
      rw [eq_id _ _ hDl hDl w]; simp
    by_cases h16 : s.size = 16
    · have hl : s.data.toList.length = 16 := by simpa using h16
      have hs : idS s.data.toList = s := by simp [idS]
      have hUl : (drawL s.data.toList).length = 16 := by rw [drawL_len, hl]
      refine idsDraws_core s key name (idA (drawL s.data.toList)) (idA (deriveL key name)) 0 true h (fun w => by have := draw_some _ hl w; rwa [hs] at this) (fun w => derive_any key name hk hn w) (fun w => refDerive_any key name hk hn w) hVd
        (fun _ => ⟨rfl, h16, fun w => by have := version_any _ hUl w; rw [draw_ver _ hl] at this; exact this, fun w => refDraw_any s h16 w⟩) (fun h => by cases h) (fun w => by rw [eq_id _ _ hUl hUl w]; simp) ED (idA_size _) (idA_size _) (idA_one _) (idA_one _) w
    · refine idsDraws_core s key name (idA (List.replicate 16 0)) (idA (deriveL key name)) 4 false h (fun w => draw_none s h16 w) (fun w => derive_any key name hk hn w) (fun w => refDerive_any key name hk hn w) hVd
        (fun h => by cases h) (fun _ => ⟨rfl, h16, fun w => by have := zero_id (List.replicate 16 0) rfl w; simpa using this⟩) (fun w => by rw [eq_id _ _ rfl rfl w]; simp) ED (idA_size _) (idA_size _) (idA_one _) (idA_one _) w
  · exact idsDraws_big s key name w0 w1 w2 h w
end Go.Proofs.YtdjlpmelmhhooaaDoor
