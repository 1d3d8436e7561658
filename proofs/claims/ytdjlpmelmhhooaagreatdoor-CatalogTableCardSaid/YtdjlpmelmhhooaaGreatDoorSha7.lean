/- next: the walk. -/
import Derived.Test.YtdjlpmelmhhooaaGreatDoorShY1
import Derived.Test.YtdjlpmelmhhooaaGreatDoorOctX
import Derived.Test.YtdjlpmelmhhooaaGreatDoorLibA
namespace Go.Proofs.YtdjlpmelmhhooaaGreatDoor
open Go Go.RowKit
set_option linter.unusedSimpArgs false

theorem wordsF_zero (L L' : List Nat) (n : Nat) : rowA n (wordsF L 0) = rowA n (wordsF L' 0) := rowA_ext fun _ _ => by simp [wordsF]
theorem wordsF_get (L : List Nat) (n k j : Nat) (hj : j < k) (hn : j < n) : (rowA n (wordsF L k))[j]? = some (.int .u32 (L.getD j 0 : Nat)) := by
  rw [rowA_get _ _ _ hn]; simp [wordsF, hj]
theorem wpList_build_to {P : Program} {ops : Array Oper} {rest : List Oper} {o : Oper} {a : Act} {w : World} {Q : Exit → Act → World → Prop} (hg : o.guard = none) (t : TypeId) (ps : List (Nat × Operand)) (ho : o.op = .build t ps.toArray) (cells : Array Value) (L : List (Nat × Value))
    (hb : P.built t L = some cells) (hL : ps.map (fun p => (p.1, a.eval p.2)) = L)
    (h : wpList P ops Q rest (a.put o.dst (.agg cells)) w) : wpList P ops Q (o :: rest) a w := by
  have e : P.built t (ps.toArray.map fun (i, x) => (i, a.eval x)).toList = some cells := by rw [← hb, ← hL]; simp
  exact wpList_build hg t ps.toArray ho (by rw [e]; rfl) (by rw [e]; exact h)
def St.list (s : St) : List (Nat × Value) := [(0, .int .u32 (s.a : Nat)), (1, .int .u32 (s.b : Nat)), (2, .int .u32 (s.c : Nat)), (3, .int .u32 (s.d : Nat)), (4, .int .u32 (s.e : Nat)), (5, .int .u32 (s.f : Nat)), (6, .int .u32 (s.g : Nat)), (7, .int .u32 (s.h : Nat))]
theorem built_state (s : St) : Tryz.prog.built 193 s.list = some s.cells := by kernel_rfl
theorem St.one (s : St) : s.cells.all (·.oneCell') = true := by rw [← Array.all_toList]; rfl
theorem St.size (s : St) : s.cells.size = 8 := rfl
theorem get_at (b : ByteArray) (hb : b.size = 64) (i : Nat) (hi : i < 16) (w : World) :
    Calls Tryz.prog 199 #[.string (b.extract (4 * i) (4 * i + 4))] w fun e w' => e = .returned (.tuple #[.int .u64 (wordAt b.data.toList i : Nat), .int .i64 0]) ∧ w = w' := by
  have hsz : (b.extract (4 * i) (4 * i + 4)).size = 4 := by rw [ByteArray.size_extract]; omega
  have := get_any (b.extract (4 * i) (4 * i + 4)) w (by omega) (by omega)
  have e : (b.extract (4 * i) (4 * i + 4)).data.toList = (b.data.toList.drop (4 * i)).take 4 := by
    rw [Lib.extract_data]
    rw [show 4 * i + 4 - 4 * i = 4 by omega]
  rw [e] at this
  exact this

theorem turn_lit (x n : Nat) (hx : x < 4294967296) (hn : 0 < n) (hn2 : n < 32) (w : World) : Calls Tryz.prog 200 #[.int .u32 x, .int .i64 (OfNat.ofNat n)] w fun e w' => e = .returned (.int .u32 (rot x n : Nat)) ∧ w = w' := turn_any x n hx hn hn2 w
set_option maxRecDepth 10000000 in
set_option maxHeartbeats 40000000 in
theorem next_any (s : St) (hs : s.Ok) (kb : Nat) (b : ByteArray) (hb : b.size = 64) (w : World) (hk : RowAt w kb 195 (rowA 64 (wordsF keyL 64))) :
    Calls Tryz.prog 184 #[.agg s.cells, .pointer (some ⟨kb, 0, none⟩), .string b] w fun e w' => e = .returned (.agg (comp s b.data.toList).cells) ∧ Below w.heap.size w w' := by
  have hz := zero64
  have hz8 := zero8
  obtain ⟨W, hW⟩ : ∃ W, W = sched b.data.toList 64 := ⟨_, rfl⟩
  rw [wordsF_zero keyL W] at hz
  have hbi : (b.size : Int) = 64 := by omega
  have hWlt : ∀ i, W.getD i 0 < 4294967296 := fun i => by rw [hW]; exact sched_lt _ _ _
  have hkb := hk.lt
  replace hk := hid hk
  replace hs := hid hs
  replace hWlt := hid hWlt
  replace hW := hid hW
  go_enter Tryz.func184, Tryz.ntmps184
  go_wp2
  clear hz hz8
  generalize hW0 : World.alloc _ (Obj.cells _ 195) = W0
  have m0 : RowAt W0 w.heap.size 193 s.cells := by rw [← hW0]; exact ((RowAt.new w _ _).alloc _).alloc _
  have m1 : RowAt W0 (w.heap.size + 1) 193 (rowA 8 (wordsF startL 0)) := by rw [← hW0]; have := RowAt.new (w.alloc (.cells s.cells 193)) (rowA 8 (wordsF startL 0)) 193; rw [World.size_alloc] at this; exact this.alloc _
  have m2 : RowAt W0 (w.heap.size + 2) 195 (rowA 64 (wordsF W 0)) := by rw [← hW0]; have := RowAt.new ((w.alloc (.cells s.cells 193)).alloc (.cells (rowA 8 (wordsF startL 0)) 193)) (rowA 64 (wordsF W 0)) 195; rwa [World.size_alloc, World.size_alloc] at this
  have hB0 : Below w.heap.size w W0 := by rw [← hW0]; exact below_al (below_al (below_al (Below.refl _ _) _) _) _
  clear hW0
  go_loopw [20] (fun v wr => ∃ i : Nat, i ≤ 64 ∧ v = .int .i64 (i : Nat) ∧ Hid (RowAt wr w.heap.size 193 s.cells) ∧ Hid (RowAt wr (w.heap.size + 1) 193 (rowA 8 (wordsF startL 0))) ∧ Hid (RowAt wr (w.heap.size + 2) 195 (rowA 64 (wordsF W i))) ∧ Hid (Below w.heap.size w wr)) (fun v _ => 64 - (intOf v).toNat)
  case atStart => exact ⟨0, by omega, rfl, m0, m1, m2, hB0⟩
  case round =>
    obtain ⟨i, hi, rfl, h0, h1, h2, hB⟩ := hrel
    clear m0 m1 m2 hB0
    by_cases h16 : i < 16
    · have G := fun w => get_at b hb i h16 w
      have hWi : W.getD i 0 = wordAt b.data.toList i := by rw [hW.out, sched_get _ _ _ (by omega), if_pos h16]
      obtain ⟨v, hv⟩ : ∃ v, v = wordAt b.data.toList i := ⟨_, rfl⟩
      rw [← hv] at G
      have hvw : (v : Int) % 4294967296 = (v : Int) := by have := wordAt_lt b.data.toList i; rw [← hv] at this; omega
      have hvw2 : IntKind.u32.wrap (v : Int) = (v : Int) := by rw [IntKind.wrap_u32]; exact hvw
      have hcf : wr.cell? ⟨w.heap.size + 2, i, none⟩ = some (.int .u32 0) := h2.out.cell (by rw [rowA_get _ _ _ (by omega)]; simp [wordsF])
      have hfr := h2.out.free i
      have hii : (i : Int) < 16 := by omega
      replace G := hid G
      replace hv := hid hv
      replace hWi := hid hWi
      go_wp2_with (go_at_call 199; with_reducible refine (G.out _).mono ?_; rintro e w' ⟨rfl, rfl⟩)
      go_roundw
      case rel =>
        refine ⟨i + 1, by omega, by go_num, h0.out.other _ _ (by simp <;> omega), h1.out.other _ _ (by simp), ?_, hB.out.setCell (by simp <;> omega) _⟩
        have := (h2.out.set i (.int .u32 (v : Nat))).eqA (A' := rowA 64 (wordsF W (i + 1))) (by rw [hv.out, ← hWi.out]; exact wordsF_set W 64 i (by omega))
        exact this
      case measure => simp [intOf]; omega
    · by_cases h64 : i = 64
      · subst h64
        have hz8 := zero8
        have g0 : wr.heap[w.heap.size]? = some (.cells s.cells 193 (0, 0)) := h0.out
        replace g0 := hid g0
        have hT : w.heap.size + 3 ≤ wr.heap.size := by have := h2.out.lt; omega
        go_wp2_with (first | (refine wpList_load_row rfl 193 _ rfl w.heap.size rfl 193 s.cells (0, 0) _ g0.out Tryz.underlying193 rfl (by rw [info8]; rfl) ?_) | (refine wpList_store_row rfl 193 _ _ rfl wr.heap.size s.cells rfl rfl 193 (rowA 8 (wordsF startL 0)) (RowAt.new _ _ _) (by rw [info8]; rfl) (by rw [rowA_size]; rfl) (St.one s) ?_))
        have mT := (RowAt.new wr (rowA 8 (wordsF startL 0)) 193).setRow s.cells
        have m0 := (h0.out.alloc (.cells (rowA 8 (wordsF startL 0)) 193)).setRowOther wr.heap.size s.cells (by omega)
        have m1 := (h1.out.alloc (.cells (rowA 8 (wordsF startL 0)) 193)).setRowOther wr.heap.size s.cells (by omega)
        have m2 := (h2.out.alloc (.cells (rowA 8 (wordsF startL 0)) 193)).setRowOther wr.heap.size s.cells (by omega)
        have mB := below_setRow (below_al hB.out (.cells (rowA 8 (wordsF startL 0)) 193)) (show w.heap.size ≤ wr.heap.size by omega) s.cells
        obtain ⟨W1, hW1⟩ : ∃ W1, W1 = (wr.alloc (.cells (rowA 8 (wordsF startL 0)) 193)).setRow wr.heap.size s.cells := ⟨_, rfl⟩
        obtain ⟨T, hTe⟩ : ∃ T, T = wr.heap.size := ⟨_, rfl⟩
        rw [← hTe] at mT m0 m1 m2 mB hW1 ⊢
        rw [← hW1] at mT m0 m1 m2 mB ⊢
        rw [← hTe] at hT
        clear hW1 hTe h0 h1 h2 hB hz8 g0
        clear wr
        go_loopw [79] (fun v wr => ∃ i : Nat, i ≤ 64 ∧ v = .int .i64 (i : Nat) ∧ Hid (RowAt wr T 193 (rnds keyL W s i).cells) ∧ Hid (RowAt wr w.heap.size 193 s.cells) ∧ Hid (RowAt wr (w.heap.size + 1) 193 (rowA 8 (wordsF startL 0))) ∧ Hid (RowAt wr (w.heap.size + 2) 195 (rowA 64 (wordsF W 64))) ∧ Hid (Below w.heap.size w wr)) (fun v _ => 64 - (intOf v).toNat)
        case atStart => exact ⟨0, by omega, rfl, mT, m0, m1, m2, mB⟩
        case round =>
          obtain ⟨i, hi, rfl, hT0, h0, h1, h2, hB⟩ := hrel
          clear mT m0 m1 m2 mB
          by_cases h64 : i = 64
          · have hT0' := hT0
            obtain ⟨t, ht⟩ : ∃ t, t = rnds keyL W s 64 := ⟨_, rfl⟩
            subst h64
            rw [← ht] at hT0
            have hcomp : comp s b.data.toList = plus s t := by rw [ht, hW.out]; rfl
            replace hcomp := hid hcomp
            replace ht := hid ht
            clear hT0'
            have hM : Hid (RowAt wr w.heap.size 193 (rowA 8 (mixV s t 0))) := h0.out.eqA (mix_zero s t)
            obtain ⟨wo, rfl⟩ : ∃ wo : World, wo = wr := ⟨_, rfl⟩
            clear h0 h2
            rw [show ((64 : Nat) : Int) = 64 from rfl]
            go_wp2
            go_loopw [163] (fun v wr => ∃ i : Nat, i ≤ 8 ∧ v = .int .i64 (i : Nat) ∧ Hid (RowAt wr T 193 t.cells) ∧ Hid (RowAt wr w.heap.size 193 (rowA 8 (mixV s t i))) ∧ Hid (RowAt wr (w.heap.size + 1) 193 (rowA 8 (wordsF startL 0))) ∧ Hid (Below w.heap.size w wr)) (fun v _ => 8 - (intOf v).toNat)
            case atStart => exact ⟨0, by omega, rfl, hT0, hM, h1, hB⟩
            case round =>
              clear hT0 hM h1 hB
              obtain ⟨i, hi, rfl, hT0, hM, h1, hB⟩ := hrel
              by_cases h8 : i = 8
              · subst h8
                have hM2 := hM.out.eqA (mix_all s t)
                have g0 : wr.heap[w.heap.size]? = some (.cells (plus s t).cells 193 (0, 0)) := hM2
                have g1 : wr.heap[w.heap.size + 1]? = some (.cells (rowA 8 (wordsF startL 0)) 193 (0, 0)) := h1.out
                replace g0 := hid g0
                replace g1 := hid g1
                clear hM2
                go_wp2_with (first | (refine wpList_load_row rfl 193 _ rfl w.heap.size rfl 193 (plus s t).cells (0, 0) _ g0.out Tryz.underlying193 rfl (by rw [info8]; rfl) ?_) | (refine wpList_store_row rfl 193 _ _ rfl (w.heap.size + 1) (plus s t).cells rfl rfl 193 (rowA 8 (wordsF startL 0)) g1.out (by rw [info8]; rfl) (by rw [rowA_size]; rfl) (St.one (plus s t)) ?_))
                have r1 := h1.out.setRow (plus s t).cells
                refine bodyPost_ret (results_cell_row rfl _ _ (w.heap.size + 1) 193 (plus s t).cells (0, 0) _ rfl r1 Tryz.underlying193 rfl (by rw [info8]; rfl)) rfl ⟨by rw [hcomp.out], ?_⟩
                exact below_setRow hB.out (by omega) _
              · have hlt8 : i < 8 := by omega
                have hlt8i : (i : Int) < 8 := by omega
                obtain ⟨sv, hsv⟩ : ∃ v, v = s.nth i := ⟨_, rfl⟩
                obtain ⟨tv, htv⟩ : ∃ v, v = t.nth i := ⟨_, rfl⟩
                obtain ⟨v, hv⟩ : ∃ v, v = ad sv tv := ⟨_, rfl⟩
                have hvi : ((sv : Int) + (tv : Int)) % 4294967296 = (v : Int) := by rw [hv]; unfold ad; simp
                have es : ∀ q : Sub wr, q.x.cell? ⟨w.heap.size, i, none⟩ = some (.int .u32 (sv : Nat)) := fun q => q.cell hM.out (by rw [rowA_get _ _ _ hlt8, hsv]; simp [mixV])
                have et : ∀ q : Sub wr, q.x.cell? ⟨T, i, none⟩ = some (.int .u32 (tv : Nat)) := fun q => q.cell hT0.out (by rw [htv]; exact cells_nth t hlt8)
                replace hsv := hid hsv
                replace htv := hid htv
                replace hv := hid hv
                go_wp2
                refine wp_region_last (by kernel_rfl) (by kernel_rfl) (by kernel_rfl) 8 _ rfl rfl ?_
                simp only [muted, mute]
                repeat (go_big_quiet_step (fail))
                refine wpQuiet_nil ?_
                intro q
                have yT := hT0.out.below q.h hT0.out.lt
                have yM := hM.out.below q.h hM.out.lt
                have y1 := h1.out.below q.h h1.out.lt
                have yB := below_cat q.h hB.out
                obtain ⟨Y, hY⟩ : ∃ Y, Y = q.x := ⟨_, rfl⟩
                rw [← hY] at yT yM y1 yB ⊢
                clear hY q es et
                have hcf : Y.cell? ⟨w.heap.size, i, none⟩ = some (.int .u32 (sv : Nat)) := yM.cell (by rw [rowA_get _ _ _ hlt8, hsv.out]; simp [mixV])
                have hfr := yM.free i
                unfold Oper.wp
                simp [go_sem, hcf, hfr]
                rw [hvi]
                have nT := yT.other ⟨w.heap.size, i, none⟩ (.int .u32 (v : Nat)) (by simp <;> omega)
                have n1 := y1.other ⟨w.heap.size, i, none⟩ (.int .u32 (v : Nat)) (by simp)
                have nM := (yM.set i (.int .u32 (v : Nat))).eqA (A' := rowA 8 (mixV s t (i + 1))) (by rw [hv.out, hsv.out, htv.out]; exact mix_set s t i hlt8)
                have nB := yB.setCell (p := ⟨w.heap.size, i, none⟩) (by simp) (.int .u32 (v : Nat))
                obtain ⟨Z, hZ⟩ : ∃ Z, Z = Y.setCell ⟨w.heap.size, i, none⟩ (.int .u32 (v : Nat)) := ⟨_, rfl⟩
                rw [← hZ] at nT n1 nM nB ⊢
                clear hZ yT yM y1 yB hcf hfr hT0 hM h1 hB
                replace nT := hid nT
                replace n1 := hid n1
                replace nM := hid nM
                replace nB := hid nB
                go_wp2
                go_roundw
                case rel => exact ⟨i + 1, by omega, by go_num, nT, nM, n1, nB⟩
                case measure => simp [intOf]; omega
          · have hlt : i < 64 := by omega
            have hlti : (i : Int) < 64 := by omega
            obtain ⟨t, ht⟩ : ∃ t, t = rnds keyL W s i := ⟨_, rfl⟩
            have hok : t.Ok := by rw [ht]; exact rnds_ok keyL W s hs.out i
            rw [← ht] at hT0
            replace ht := hid ht
            have e0 : ∀ q : Sub wr, q.x.cell? ⟨T, 0, none⟩ = some (.int .u32 (t.a : Nat)) := fun q => q.cell hT0.out rfl
            have e4 : ∀ q : Sub wr, q.x.cell? ⟨T, 4, none⟩ = some (.int .u32 (t.e : Nat)) := fun q => q.cell hT0.out rfl
            replace hok := hid hok
            go_wp2
            refine wp_region_sub (by kernel_rfl) (by kernel_rfl) ?_
            repeat (go_big_quiet_step (fail))
            refine wpQuiet_nil ?_
            intro q
            clear e0 e4
            have kT := hT0.out.below q.h hT0.out.lt
            have k0 := h0.out.below q.h h0.out.lt
            have k1 := h1.out.below q.h h1.out.lt
            have k2 := h2.out.below q.h h2.out.lt
            have kB := below_cat q.h hB.out
            obtain ⟨X, hX⟩ : ∃ X, X = q.x := ⟨_, rfl⟩
            rw [← hX] at kT k0 k1 k2 kB ⊢
            clear hX q h0 h1 h2 hB hT0
            replace kT := hid kT
            replace k0 := hid k0
            replace k1 := hid k1
            replace k2 := hid k2
            replace kB := hid kB
            obtain ⟨r6, hr6⟩ : ∃ r, r = rot t.e 6 := ⟨_, rfl⟩
            obtain ⟨r11, hr11⟩ : ∃ r, r = rot t.e 11 := ⟨_, rfl⟩
            obtain ⟨r25, hr25⟩ : ∃ r, r = rot t.e 25 := ⟨_, rfl⟩
            have T6 := fun w => turn_lit t.e 6 hok.out.e (by decide) (by decide) w
            have T11 := fun w => turn_lit t.e 11 hok.out.e (by decide) (by decide) w
            have T25 := fun w => turn_lit t.e 25 hok.out.e (by decide) (by decide) w
            have eS := sg1_bits t.e hok.out.e
            have eC := chF_bits t.e t.f t.g hok.out.e hok.out.f hok.out.g
            rw [← hr6] at T6 eS
            rw [← hr11] at T11 eS
            rw [← hr25] at T25 eS
            obtain ⟨kk, hkk⟩ : ∃ k, k = keyL.getD i 0 := ⟨_, rfl⟩
            obtain ⟨ww, hww⟩ : ∃ k, k = W.getD i 0 := ⟨_, rfl⟩
            have f7 : ∀ q : Sub X, q.x.cell? ⟨T, 7, none⟩ = some (.int .u32 (t.h : Nat)) := fun q => q.cell kT.out rfl
            have f5 : ∀ q : Sub X, q.x.cell? ⟨T, 5, none⟩ = some (.int .u32 (t.f : Nat)) := fun q => q.cell kT.out rfl
            have f6 : ∀ q : Sub X, q.x.cell? ⟨T, 6, none⟩ = some (.int .u32 (t.g : Nat)) := fun q => q.cell kT.out rfl
            have fk : ∀ q : Sub X, q.x.cell? ⟨kb, i, none⟩ = some (.int .u32 (kk : Nat)) := fun q => by rw [hkk]; exact q.cell (hk.out.below kB.out hkb) (wordsF_get keyL 64 64 i hlt hlt)
            have fw : ∀ q : Sub X, q.x.cell? ⟨w.heap.size + 2, i, none⟩ = some (.int .u32 (ww : Nat)) := fun q => by rw [hww]; exact q.cell k2.out (wordsF_get W 64 64 i hlt hlt)
            obtain ⟨p1, p2, p3, xv, ep1, ep2, ep3, ex, hxv⟩ := xF_int t kk ww
            have eN := not_bits t.e hok.out.e
            obtain ⟨S, hS⟩ : ∃ S, S = sg1 t.e := ⟨_, rfl⟩
            obtain ⟨C, hC⟩ : ∃ C, C = chF t.e t.f t.g := ⟨_, rfl⟩
            rw [← hS] at eS ep1
            rw [← hC] at eC ep2
            rw [hkk, hww] at hxv
            replace hxv := hid hxv
            replace hS := hid hS
            replace hC := hid hC
            replace hkk := hid hkk
            replace hww := hid hww
            replace T6 := hid T6
            replace T11 := hid T11
            replace T25 := hid T25
            replace hr6 := hid hr6
            replace hr11 := hid hr11
            replace hr25 := hid hr25
            go_wp2
            refine wp_region_sub (by kernel_rfl) (by kernel_rfl) ?_
            repeat (go_big_quiet_step (first
              | (go_at_call 200; with_reducible refine Sub.same _ (T6.out _))
              | (go_at_call 200; with_reducible refine Sub.same _ (T11.out _))
              | (go_at_call 200; with_reducible refine Sub.same _ (T25.out _))))
            refine wpQuiet_nil ?_
            intro q
            rw [ex]
            clear f7 f5 f6 fk fw eS eC ep1 ep2 ep3 ex eN T6 T11 T25 hr6 hr11 hr25 hS hC
            have jT := kT.out.below q.h kT.out.lt
            have j0 := k0.out.below q.h k0.out.lt
            have j1 := k1.out.below q.h k1.out.lt
            have j2 := k2.out.below q.h k2.out.lt
            have jB := below_cat q.h kB.out
            obtain ⟨Y, hY⟩ : ∃ Y, Y = q.x := ⟨_, rfl⟩
            rw [← hY] at jT j0 j1 j2 jB ⊢
            clear hY q k0 k1 k2 kB kT
            clear X
            replace jT := hid jT
            replace j0 := hid j0
            replace j1 := hid j1
            replace j2 := hid j2
            replace jB := hid jB
            obtain ⟨r2, hr2⟩ : ∃ r, r = rot t.a 2 := ⟨_, rfl⟩
            obtain ⟨r13, hr13⟩ : ∃ r, r = rot t.a 13 := ⟨_, rfl⟩
            obtain ⟨r22, hr22⟩ : ∃ r, r = rot t.a 22 := ⟨_, rfl⟩
            have T2 := fun w => turn_lit t.a 2 hok.out.a (by decide) (by decide) w
            have T13 := fun w => turn_lit t.a 13 hok.out.a (by decide) (by decide) w
            have T22 := fun w => turn_lit t.a 22 hok.out.a (by decide) (by decide) w
            have eS := sg0_bits t.a hok.out.a
            have eM := majF_bits t.a t.b t.c hok.out.a hok.out.b hok.out.c
            rw [← hr2] at T2 eS
            rw [← hr13] at T13 eS
            rw [← hr22] at T22 eS
            have f1 : ∀ q : Sub Y, q.x.cell? ⟨T, 1, none⟩ = some (.int .u32 (t.b : Nat)) := fun q => q.cell jT.out rfl
            have f2 : ∀ q : Sub Y, q.x.cell? ⟨T, 2, none⟩ = some (.int .u32 (t.c : Nat)) := fun q => q.cell jT.out rfl
            obtain ⟨yv, hyv⟩ : ∃ y, y = yF t := ⟨_, rfl⟩
            have ey : ((sg0 t.a : Nat) : Int) + (majF t.a t.b t.c : Nat) = ((sg0 t.a + majF t.a t.b t.c : Nat) : Int) := by simp
            have ey2 : (((sg0 t.a : Nat) : Int) + (majF t.a t.b t.c : Nat)) % 4294967296 = (yv : Int) := by rw [hyv]; unfold yF ad; simp
            obtain ⟨S, hS⟩ : ∃ S, S = sg0 t.a := ⟨_, rfl⟩
            obtain ⟨M, hM⟩ : ∃ C, C = majF t.a t.b t.c := ⟨_, rfl⟩
            rw [← hS] at eS ey2
            rw [← hM] at eM ey2
            clear ey
            replace hS := hid hS
            replace hM := hid hM
            replace hyv := hid hyv
            replace T2 := hid T2
            replace T13 := hid T13
            replace T22 := hid T22
            replace hr2 := hid hr2
            replace hr13 := hid hr13
            replace hr22 := hid hr22
            go_wp2
            refine wp_region_sub (by kernel_rfl) (by kernel_rfl) ?_
            repeat (go_big_quiet_step (first
              | (go_at_call 200; with_reducible refine Sub.same _ (T2.out _))
              | (go_at_call 200; with_reducible refine Sub.same _ (T13.out _))
              | (go_at_call 200; with_reducible refine Sub.same _ (T22.out _))))
            refine wpQuiet_nil ?_
            intro q
            rw [ey2]
            clear f1 f2 eS eM ey2 T2 T13 T22 hr2 hr13 hr22 hS hM
            have kT := jT.out.below q.h jT.out.lt
            have k0 := j0.out.below q.h j0.out.lt
            have k1 := j1.out.below q.h j1.out.lt
            have k2 := j2.out.below q.h j2.out.lt
            have kB := below_cat q.h jB.out
            obtain ⟨X, hX⟩ : ∃ X, X = q.x := ⟨_, rfl⟩
            rw [← hX] at kT k0 k1 k2 kB ⊢
            clear hX q j0 j1 j2 jB jT
            clear Y
            have c0 : X.cell? ⟨T, 0, none⟩ = some (.int .u32 (t.a : Nat)) := kT.cell rfl
            have c1 : X.cell? ⟨T, 1, none⟩ = some (.int .u32 (t.b : Nat)) := kT.cell rfl
            have c2 : X.cell? ⟨T, 2, none⟩ = some (.int .u32 (t.c : Nat)) := kT.cell rfl
            have c3 : X.cell? ⟨T, 3, none⟩ = some (.int .u32 (t.d : Nat)) := kT.cell rfl
            have c4 : X.cell? ⟨T, 4, none⟩ = some (.int .u32 (t.e : Nat)) := kT.cell rfl
            have c5 : X.cell? ⟨T, 5, none⟩ = some (.int .u32 (t.f : Nat)) := kT.cell rfl
            have c6 : X.cell? ⟨T, 6, none⟩ = some (.int .u32 (t.g : Nat)) := kT.cell rfl
            obtain ⟨na, hna⟩ : ∃ n, n = ad xv yv := ⟨_, rfl⟩
            obtain ⟨nd, hnd⟩ : ∃ n, n = ad t.d xv := ⟨_, rfl⟩
            have ena : ((xv : Int) + (yv : Int)) % 4294967296 = (na : Int) := by rw [hna]; unfold ad; simp
            have ena2 : IntKind.u32.wrap ((xv : Int) + (yv : Int)) = (na : Int) := by rw [IntKind.wrap_u32]; exact ena
            have end1 : ((t.d : Int) + (xv : Int)) % 4294967296 = (nd : Int) := by rw [hnd]; unfold ad; simp
            have end2 : IntKind.u32.wrap ((t.d : Int) + (xv : Int)) = (nd : Int) := by rw [IntKind.wrap_u32]; exact end1
            have hnew : (⟨na, t.a, t.b, t.c, nd, t.e, t.f, t.g⟩ : St) = rnds keyL W s (i + 1) := by
              rw [rnds, ← ht.out, hna, hnd, hyv.out, hxv.out]; rfl
            have gT : X.heap[T]? = some (.cells t.cells 193 (0, 0)) := kT
            replace gT := hid gT
            replace hnew := hid hnew
            replace hna := hid hna
            replace hnd := hid hnd
            replace kT := hid kT
            replace k0 := hid k0
            replace k1 := hid k1
            replace k2 := hid k2
            replace kB := hid kB
            go_wp2_with (first | (refine wpList_build_to rfl 193 [(0, .tmp 144), (1, .tmp 146), (2, .tmp 148), (3, .tmp 150), (4, .tmp 154), (5, .tmp 156), (6, .tmp 158), (7, .tmp 160)] rfl (St.cells ⟨na, t.a, t.b, t.c, nd, t.e, t.f, t.g⟩) (St.list ⟨na, t.a, t.b, t.c, nd, t.e, t.f, t.g⟩) (built_state _) rfl ?_) | (refine wpList_store_row rfl 193 _ _ rfl T (St.cells ⟨na, t.a, t.b, t.c, nd, t.e, t.f, t.g⟩) rfl rfl 193 t.cells gT.out (by rw [info8]; rfl) rfl (St.one _) ?_))
            go_roundw
            case rel => exact ⟨i + 1, by omega, by go_num, by rw [← hnew.out]; exact kT.out.setRow _, k0.out.setRowOther _ _ (by omega), k1.out.setRowOther _ _ (by omega), k2.out.setRowOther _ _ (by omega), below_setRow kB.out (by omega) _⟩
            case measure => simp [intOf]; omega
      · have hlt : i < 64 := by omega
        have hlti : (i : Int) < 64 := by omega
        have hgei : decide ((i : Int) < 16) = false := by rw [decide_eq_false_iff_not]; omega
        have hWi : W.getD i 0 = nextW W i := by rw [hW.out, sched_next _ _ _ hlt (by omega)]
        obtain ⟨j16, h16e⟩ : ∃ j, i = j + 16 := ⟨i - 16, by omega⟩
        have q16 : (i : Int) - 16 = (j16 : Int) := by omega
        obtain ⟨j15, h15e⟩ : ∃ j, i = j + 15 := ⟨i - 15, by omega⟩
        have q15 : (i : Int) - 15 = (j15 : Int) := by omega
        obtain ⟨j7, h7e⟩ : ∃ j, i = j + 7 := ⟨i - 7, by omega⟩
        have q7 : (i : Int) - 7 = (j7 : Int) := by omega
        obtain ⟨j2, h2e⟩ : ∃ j, i = j + 2 := ⟨i - 2, by omega⟩
        have q2 : (i : Int) - 2 = (j2 : Int) := by omega
        have p16 : (j16 : Int) < 64 := by omega
        have p15 : (j15 : Int) < 64 := by omega
        have p7 : (j7 : Int) < 64 := by omega
        have p2 : (j2 : Int) < 64 := by omega
        obtain ⟨a15, ha15⟩ : ∃ a, a = W.getD j15 0 := ⟨_, rfl⟩
        obtain ⟨a2, ha2⟩ : ∃ a, a = W.getD j2 0 := ⟨_, rfl⟩
        obtain ⟨a16, ha16⟩ : ∃ a, a = W.getD j16 0 := ⟨_, rfl⟩
        obtain ⟨a7, ha7⟩ : ∃ a, a = W.getD j7 0 := ⟨_, rfl⟩
        have l15 : a15 < 4294967296 := by rw [ha15]; exact hWlt.out _
        have l2 : a2 < 4294967296 := by rw [ha2]; exact hWlt.out _
        have l16 : a16 < 4294967296 := by rw [ha16]; exact hWlt.out _
        have l7 : a7 < 4294967296 := by rw [ha7]; exact hWlt.out _
        have x15 : ∀ q : Sub wr, q.x.cell? ⟨w.heap.size + 2, j15, none⟩ = some (.int .u32 (a15 : Nat)) := fun q => by rw [ha15]; exact q.cell h2.out (wordsF_get W 64 i j15 (by omega) (by omega))
        have x2 : ∀ q : Sub wr, q.x.cell? ⟨w.heap.size + 2, j2, none⟩ = some (.int .u32 (a2 : Nat)) := fun q => by rw [ha2]; exact q.cell h2.out (wordsF_get W 64 i j2 (by omega) (by omega))
        have T7 := fun w => turn_lit a15 7 l15 (by decide) (by decide) w
        have T18 := fun w => turn_lit a15 18 l15 (by decide) (by decide) w
        have T17 := fun w => turn_lit a2 17 l2 (by decide) (by decide) w
        have T19 := fun w => turn_lit a2 19 l2 (by decide) (by decide) w
        obtain ⟨r7, hr7⟩ : ∃ r, r = rot a15 7 := ⟨_, rfl⟩
        obtain ⟨r18, hr18⟩ : ∃ r, r = rot a15 18 := ⟨_, rfl⟩
        obtain ⟨r17, hr17⟩ : ∃ r, r = rot a2 17 := ⟨_, rfl⟩
        obtain ⟨r19, hr19⟩ : ∃ r, r = rot a2 19 := ⟨_, rfl⟩
        rw [← hr7] at T7
        rw [← hr18] at T18
        rw [← hr17] at T17
        rw [← hr19] at T19
        have es0 := sm0_bits a15 l15
        have es1 := sm1_bits a2 l2
        rw [← hr7, ← hr18] at es0
        rw [← hr17, ← hr19] at es1
        obtain ⟨s0, hs0⟩ : ∃ r, r = sm0 a15 := ⟨_, rfl⟩
        obtain ⟨s1, hs1⟩ : ∃ r, r = sm1 a2 := ⟨_, rfl⟩
        rw [← hs0] at es0
        rw [← hs1] at es1
        have eV := nextW_int W i a16 a15 a7 a2 s0 s1 (by rw [ha16]; congr 1; omega) (by rw [hs0, ha15]; congr 2; omega) (by rw [ha7]; congr 1; omega) (by rw [hs1, ha2]; congr 2; omega)
        rw [← hWi] at eV
        obtain ⟨v, hv⟩ : ∃ v, v = W.getD i 0 := ⟨_, rfl⟩
        rw [← hv] at eV
        replace eV := hid eV
        replace hv := hid hv
        replace hs0 := hid hs0
        replace hs1 := hid hs1
        replace T7 := hid T7
        replace T18 := hid T18
        replace T17 := hid T17
        replace T19 := hid T19
        replace l15 := hid l15
        replace l2 := hid l2
        replace l16 := hid l16
        replace l7 := hid l7
        replace hr7 := hid hr7
        replace hr18 := hid hr18
        replace hr17 := hid hr17
        replace hr19 := hid hr19
        replace ha15 := hid ha15
        replace ha16 := hid ha16
        replace ha7 := hid ha7
        replace ha2 := hid ha2
        replace h16e := hid h16e
        replace h15e := hid h15e
        replace h7e := hid h7e
        replace h2e := hid h2e
        replace hWi := hid hWi
        go_wp2
        refine wp_region_sub (by kernel_rfl) (by kernel_rfl) ?_
        repeat (go_big_quiet_step (fail))
        refine wpQuiet_nil ?_
        intro q
        clear x15 x2
        have k0 := h0.out.below q.h h0.out.lt
        have k1 := h1.out.below q.h h1.out.lt
        have k2 := h2.out.below q.h h2.out.lt
        have kB := below_cat q.h hB.out
        obtain ⟨X, hX⟩ : ∃ X, X = q.x := ⟨_, rfl⟩
        rw [← hX] at k0 k1 k2 kB ⊢
        clear hX q h0 h1 h2 hB
        replace k0 := hid k0
        replace k1 := hid k1
        replace k2 := hid k2
        replace kB := hid kB
        have x16 : ∀ q : Sub X, q.x.cell? ⟨w.heap.size + 2, j16, none⟩ = some (.int .u32 (a16 : Nat)) := fun q => by rw [ha16.out]; exact q.cell k2.out (wordsF_get W 64 i j16 (by have := h16e.out; omega) (by omega))
        have x7 : ∀ q : Sub X, q.x.cell? ⟨w.heap.size + 2, j7, none⟩ = some (.int .u32 (a7 : Nat)) := fun q => by rw [ha7.out]; exact q.cell k2.out (wordsF_get W 64 i j7 (by have := h7e.out; omega) (by omega))
        go_wp2
        refine wp_region_last (by kernel_rfl) (by kernel_rfl) (by kernel_rfl) 29 _ rfl rfl ?_
        simp only [muted, mute]
        repeat (go_big_quiet_step (first
          | (go_at_call 200; with_reducible refine Sub.same _ (T7.out _))
          | (go_at_call 200; with_reducible refine Sub.same _ (T18.out _))
          | (go_at_call 200; with_reducible refine Sub.same _ (T17.out _))
          | (go_at_call 200; with_reducible refine Sub.same _ (T19.out _))))
        refine wpQuiet_nil ?_
        intro q
        have y0 := k0.out.below q.h k0.out.lt
        have y1 := k1.out.below q.h k1.out.lt
        have y2 := k2.out.below q.h k2.out.lt
        have yB := below_cat q.h kB.out
        obtain ⟨Y, hY⟩ : ∃ Y, Y = q.x := ⟨_, rfl⟩
        rw [← hY] at y0 y1 y2 yB ⊢
        clear hY q x16 x7
        have hcf : Y.cell? ⟨w.heap.size + 2, i, none⟩ = some (.int .u32 0) := y2.cell (by rw [rowA_get _ _ _ (by omega)]; simp [wordsF])
        have hfr := y2.free i
        unfold Oper.wp
        simp [go_sem, hcf, hfr]
        rw [eV.out]
        have n0 := y0.other ⟨w.heap.size + 2, i, none⟩ (.int .u32 (v : Nat)) (by simp <;> omega)
        have n1 := y1.other ⟨w.heap.size + 2, i, none⟩ (.int .u32 (v : Nat)) (by simp)
        have n2 := (y2.set i (.int .u32 (v : Nat))).eqA (A' := rowA 64 (wordsF W (i + 1))) (by rw [hv.out]; exact wordsF_set W 64 i hlt)
        have nB := yB.setCell (p := ⟨w.heap.size + 2, i, none⟩) (by simp <;> omega) (.int .u32 (v : Nat))
        obtain ⟨Z, hZ⟩ : ∃ Z, Z = Y.setCell ⟨w.heap.size + 2, i, none⟩ (.int .u32 (v : Nat)) := ⟨_, rfl⟩
        rw [← hZ] at n0 n1 n2 nB
        have hZ2 : Z = Y.setCell ⟨w.heap.size + 1 + 1, i, none⟩ (.int .u32 (v : Nat)) := hZ
        rw [← hZ2]
        clear hZ hZ2 y0 y1 y2 yB k0 k1 k2 kB hcf hfr
        replace n0 := hid n0
        replace n1 := hid n1
        replace n2 := hid n2
        replace nB := hid nB
        go_wp2
        go_roundw
        case rel =>
          exact ⟨i + 1, by omega, by go_num, n0, n1, n2, nB⟩
        case measure => simp [intOf]; omega
end Go.Proofs.YtdjlpmelmhhooaaGreatDoor
