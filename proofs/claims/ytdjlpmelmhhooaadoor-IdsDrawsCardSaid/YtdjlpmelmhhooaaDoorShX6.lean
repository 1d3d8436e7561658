/- The document's sum. -/
import Derived.Test.YtdjlpmelmhhooaaDoorShX5
import Derived.Test.YtdjlpmelmhhooaaDoorShaD
import Derived.Test.YtdjlpmelmhhooaaDoorShaF
import Derived.Test.YtdjlpmelmhhooaaDoorShX4
namespace Go.Proofs.YtdjlpmelmhhooaaDoor
section
open Go Go.RowKit
set_option linter.unusedSimpArgs false

theorem make64 (w : World) : (Instr.makeSlice 85 (.int .i64 64) (.int .i64 64)).run Tryd.prog w = .ok (.slice (some ⟨w.heap.size, 0, none⟩) 64 64) (w.alloc (.cells (rowA 64 (wordsF keyL 0)) 77)) := by kernel_rfl
theorem initS_cells : initS.cells = #[.int .u32 1779033703, .int .u32 3144134277, .int .u32 1013904242, .int .u32 2773480762, .int .u32 1359893119, .int .u32 2600822924, .int .u32 528734635, .int .u32 1541459225] := by kernel_rfl
set_option maxRecDepth 10000000 in
set_option maxHeartbeats 8000000 in
theorem refSum_any (s : ByteArray) (hs : s.size ≤ 1000000000) (w : World) : Calls Tryd.prog 48 #[.string s] w fun e w' => e = .returned (.agg (sumA s)) ∧ Below w.heap.size w w' := by
  obtain ⟨t, ht⟩ : ∃ t, t = lastS s := ⟨_, rfl⟩
  have hz := zero32 t
  have hmk := make64
  have LP := fun w => refPad_any s hs w
  have LK := fun w => refK_any w
  have hpm := padS_mod s
  have hpl := padS_le s
  have hlast : lastS s = compAll initS (blocksTo (padS s) ((padS s).size / 64)) := rfl
  obtain ⟨p, hp⟩ : ∃ p, p = padS s := ⟨_, rfl⟩
  rw [← hp] at LP hpm hpl hlast
  obtain ⟨N, hN⟩ : ∃ N, N = p.size / 64 := ⟨_, rfl⟩
  have hpN : p.size = 64 * N := by omega
  rw [← hN] at hlast
  have hNi : (p.size : Int) = 64 * (N : Int) := by omega
  have hNb : (N : Int) ≤ 100000000 := by omega
  replace LP := hid LP
  replace LK := hid LK
  replace hlast := hid hlast
  replace hpN := hid hpN
  replace hNi := hid hNi
  replace ht := hid ht
  clear hp hpm hN
  go_enter Tryd.func48, Tryd.ntmps48
  go_wp2_with (first
    | (go_at_call 57; with_reducible refine (LP.out _).mono ?_; rintro e w1 ⟨rfl, hB1⟩
       have hB1' := below_cat hB1 (below_al (Below.refl w.heap.size w) (.cells (rowA 32 (outV t 0)) 73))
       have hR1 := (RowAt.new w (rowA 32 (outV t 0)) 73).below hB1 (by simp)
       replace hB1' := hid hB1'
       replace hR1 := hid hR1
       clear hB1)
    | (go_at_call 58; with_reducible refine (LK.out _).mono ?_; rintro e w2 ⟨rfl, hK1, hB2⟩
       have hB2' := below_cat hB2 hB1'.out
       have hR2 := hR1.out.below hB2 hR1.out.lt
       have hKw := hB1'.out.size
       obtain ⟨Kb, hKb⟩ : ∃ Kb, Kb = w1.heap.size := ⟨_, rfl⟩
       rw [← hKb] at hK1 hKw ⊢
       clear hKb hB2 hB1' hR1
       clear w1
       replace hK1 := hid hK1
       replace hB2' := hid hB2'
       replace hR2 := hid hR2))
  obtain ⟨Hb, hHb⟩ : ∃ Hb, Hb = w2.heap.size := ⟨_, rfl⟩
  have hH : RowAt (w2.alloc (.cells initS.cells 77)) Hb 77 initS.cells := by rw [hHb]; exact RowAt.new _ _ _
  have hKH : Kb < Hb := by rw [hHb]; exact hK1.out.lt
  have hRK : w.heap.size < Hb := by rw [hHb]; exact hR2.out.lt
  rw [← initS_cells]
  rw [← hHb]
  have hK3 := hK1.out.alloc (.cells initS.cells 77)
  have hR3 := hR2.out.alloc (.cells initS.cells 77)
  have hB3 := below_al hB2'.out (.cells initS.cells 77)
  obtain ⟨w3, hw3⟩ : ∃ w3, w3 = w2.alloc (.cells initS.cells 77) := ⟨_, rfl⟩
  rw [← hw3] at hH hK3 hR3 hB3 ⊢
  clear hHb hw3 hK1 hR2 hB2' hz
  clear w2
  replace hH := hid hH
  replace hK3 := hid hK3
  replace hR3 := hid hR3
  replace hB3 := hid hB3
  go_loopw [6] (fun v wr => ∃ n : Nat, v = .int .i64 ((64 * n : Nat) : Int) ∧ n ≤ N ∧ Hid (RowAt wr Hb 77 (compAll initS (blocksTo p n)).cells) ∧ Hid (RowAt wr Kb 77 (rowA 64 (wordsF keyL 64))) ∧ Hid (RowAt wr w.heap.size 73 (rowA 32 (outV t 0))) ∧ Hid (Below w.heap.size w wr)) (fun v _ => 64 * N - (intOf v).toNat)
  case atStart => exact ⟨0, rfl, Nat.zero_le _, hH, hK3, hR3, hB3⟩
  case round =>
    clear hH hK3 hR3 hB3
    obtain ⟨n, rfl, hn, hH, hKr, hR, hB⟩ := hrel
    obtain ⟨a, ha⟩ : ∃ a, a = 64 * n := ⟨_, rfl⟩
    rw [← ha]
    by_cases hlt : n < N
    · have hd : decide ((a : Int) < (p.size : Int)) = true := by rw [decide_eq_true_iff]; have := hNi.out; omega
      have hd' : decide (a < p.size) = true := by rw [decide_eq_true_iff]; have := hpN.out; omega
      obtain ⟨Wb, hWb⟩ : ∃ Wb, Wb = wr.heap.size := ⟨_, rfl⟩
      have hHW : Hb < Wb := by rw [hWb]; exact hH.out.lt
      obtain ⟨c, hc⟩ : ∃ c, c = compAll initS (blocksTo p n) := ⟨_, rfl⟩
      have hok : c.Ok := by rw [hc]; exact compAll_ok _ initS_ok _
      have hnext : comp c (blk p n).data.toList = compAll initS (blocksTo p (n + 1)) := by rw [hc, blocksTo_succ, compAll_snoc]
      rw [← hc] at hH
      replace hc := hid hc
      replace hok := hid hok
      replace hnext := hid hnext
      replace ha := hid ha
      go_wp2
      have hn64 : 64 * n + 64 ≤ p.size := by have := hpN.out; omega
      have hW0 : RowAt (wr.alloc (.cells (rowA 64 (wordsF keyL 0)) 77)) wr.heap.size 77 (rowA 64 (wordsF (sched (blk p n).data.toList 64) 0)) := (RowAt.new _ _ _).eqA (wordsF_zero _ _ _)
      have hH1 := hH.out.alloc (.cells (rowA 64 (wordsF keyL 0)) 77)
      have hKr1 := hKr.out.alloc (.cells (rowA 64 (wordsF keyL 0)) 77)
      have hR1 := hR.out.alloc (.cells (rowA 64 (wordsF keyL 0)) 77)
      have hB1 := below_al hB.out (.cells (rowA 64 (wordsF keyL 0)) 77)
      rw [← hWb] at hW0 ⊢
      obtain ⟨W1, hW1⟩ : ∃ W1, W1 = wr.alloc (.cells (rowA 64 (wordsF keyL 0)) 77) := ⟨_, rfl⟩
      rw [← hW1] at hW0 hH1 hKr1 hR1 hB1 ⊢
      clear hW1 hH hKr hR hB hWb hmk
      clear wr
      refine refsum_own p n a ha.out hn64 (by omega) Wb W1 _ hW0 ?_
      intro v8 v9 v34 v35 v36 v37 v38 v39 v40 v41 v42 v43 v44 v45 v46 v47 v48 v49 v50 v51 v52 v53 v54 v55 v56 v57 v58 v59 W2 hW2 hk2
      have hH2 := hk2.row hH1 (by omega)
      have hKr2 := hk2.row hKr1 (by omega)
      have hR2 := hk2.row hR1 (by omega)
      have hB2 := below_kept hB1 hk2 (Nat.le_refl _) (fun k hk => by omega)
      clear hW0 hH1 hKr1 hR1 hB1 hk2
      clear W1
      go_wp2
      refine refsum_words (blk p n).data.toList Wb W2 _ hW2 ?_
      intro y10 y11 y12 y60 y61 y62 y63 y64 y65 y66 y67 y68 y69 y70 y71 y72 y73 y74 y75 y76 y77 y78 y79 y80 y81 y82 y83 y84 y85 y86 y87 y88 y89 y90 y91 y92 y93 y94 y95 y96 y97 y98 y99 y100 y101 y102 y103 y104 y105 y106 y107 y108 y109 y110 y111 y112 y113 y114 y115 y116 y117 y118 y119 y120 y121 W3 hW3 hk3
      have hH3 := hk3.row hH2 (by omega)
      have hKr3 := hk3.row hKr2 (by omega)
      have hR3 := hk3.row hR2 (by omega)
      have hB3 := below_kept hB2 hk3 (Nat.le_refl _) (fun k hk => by omega)
      clear hW2 hH2 hKr2 hR2 hB2 hk3
      clear W2
      have f0 : ∀ q : Sub W3, q.x.cell? ⟨Hb, 0, none⟩ = some (.int .u32 (c.a : Nat)) := fun q => q.cell hH3 rfl
      have f1 : ∀ q : Sub W3, q.x.cell? ⟨Hb, 1, none⟩ = some (.int .u32 (c.b : Nat)) := fun q => q.cell hH3 rfl
      have f2 : ∀ q : Sub W3, q.x.cell? ⟨Hb, 2, none⟩ = some (.int .u32 (c.c : Nat)) := fun q => q.cell hH3 rfl
      have f3 : ∀ q : Sub W3, q.x.cell? ⟨Hb, 3, none⟩ = some (.int .u32 (c.d : Nat)) := fun q => q.cell hH3 rfl
      have f4 : ∀ q : Sub W3, q.x.cell? ⟨Hb, 4, none⟩ = some (.int .u32 (c.e : Nat)) := fun q => q.cell hH3 rfl
      have f5 : ∀ q : Sub W3, q.x.cell? ⟨Hb, 5, none⟩ = some (.int .u32 (c.f : Nat)) := fun q => q.cell hH3 rfl
      have f6 : ∀ q : Sub W3, q.x.cell? ⟨Hb, 6, none⟩ = some (.int .u32 (c.g : Nat)) := fun q => q.cell hH3 rfl
      have f7 : ∀ q : Sub W3, q.x.cell? ⟨Hb, 7, none⟩ = some (.int .u32 (c.h : Nat)) := fun q => q.cell hH3 rfl
      replace hH3 := hid hH3
      replace hKr3 := hid hKr3
      replace hR3 := hid hR3
      replace hB3 := hid hB3
      replace hW3 := hid hW3
      go_wp2
      refine wp_region_tail 24 (by kernel_rfl) (by kernel_rfl) (by kernel_rfl) ?_
      simp only [muteFrom, mute]
      repeat (go_big_quiet_step (fail))
      refine wpQuiet_nil ?_
      intro q
      clear f0 f1 f2 f3 f4 f5 f6 f7
      have hH4 := hH3.out.below q.h hH3.out.lt
      have hKr4 := hKr3.out.below q.h hKr3.out.lt
      have hR4 := hR3.out.below q.h hR3.out.lt
      have hW4 := hW3.out.below q.h hW3.out.lt
      have hB4 := below_cat q.h hB3.out
      obtain ⟨Y, hY⟩ : ∃ Y, Y = q.x := ⟨_, rfl⟩
      rw [← hY] at hH4 hKr4 hR4 hW4 hB4 ⊢
      clear hY q hH3 hKr3 hR3 hW3 hB3
      clear W3
      replace hH4 := hid hH4
      replace hKr4 := hid hKr4
      replace hR4 := hid hR4
      replace hB4 := hid hB4
      replace hW4 := hid hW4
      simp only [List.drop_succ_cons, List.drop_zero]
      go_wp2
      have hV5 : RowAt (Y.alloc (.cells c.cells 77)) Y.heap.size 77 c.cells := RowAt.new _ _ _
      have hH5 := hH4.out.alloc (.cells c.cells 77)
      have hKr5 := hKr4.out.alloc (.cells c.cells 77)
      have hR5 := hR4.out.alloc (.cells c.cells 77)
      have hW5 := hW4.out.alloc (.cells c.cells 77)
      have hB5 := below_al hB4.out (.cells c.cells 77)
      have hHY : Hb < Y.heap.size := hH4.out.lt
      obtain ⟨V0, hV0⟩ : ∃ V0, V0 = Y.heap.size := ⟨_, rfl⟩
      rw [← hV0] at hV5 hHY ⊢
      have hcc : c.cells = #[.int .u32 (c.a : Nat), .int .u32 (c.b : Nat), .int .u32 (c.c : Nat), .int .u32 (c.d : Nat), .int .u32 (c.e : Nat), .int .u32 (c.f : Nat), .int .u32 (c.g : Nat), .int .u32 (c.h : Nat)] := rfl
      rw [← hcc]
      obtain ⟨Z, hZ⟩ : ∃ Z, Z = Y.alloc (.cells c.cells 77) := ⟨_, rfl⟩
      rw [← hZ] at hV5 hH5 hKr5 hR5 hW5 hB5 ⊢
      clear hZ hV0 hcc hH4 hKr4 hR4 hW4 hB4
      clear Y
      refine refsum_rounds c hok.out (blk p n).data.toList Kb Wb V0 Z _ hKr5 hW5 hV5 ?_
      intro V z14 z15 z16 z17 z18 z19 z147 z148 z149 z150 z151 z152 z153 z154 z155 z156 z157 z158 z159 z160 z161 z162 z163 z164 z165 z166 z167 z168 z169 z170 z171 z172 z173 z174 z175 z176 z177 z178 z179 z180 z181 z182 z183 z184 z185 z186 z187 z188 z189 z190 z191 z192 z193 z194 z195 z196 z197 z198 z199 z200 z201 z202 z203 z204 z205 z206 z207 z208 z209 z210 z211 z212 z213 z214 z215 z216 z217 z218 z219 z220 z221 z222 z223 z224 z225 z226 z227 z228 z229 z230 z231 z232 z233 z234 z235 z236 z237 z238 z239 z240 z241 z242 z243 z244 z245 z246 z247 z248 z249 z250 z251 z252 z253 z254 z255 z256 z257 z258 z259 z260 z261 z262 z263 X hVX hVn hBX
      have hH6 := hH5.below hBX hH5.lt
      have hKr6 := hKr5.below hBX hKr5.lt
      have hR6 := hR5.below hBX hR5.lt
      have hB6 := below_cat hBX hB5
      have hVH : V ≠ Hb := by have := hH5.lt; rcases hVn with h | h <;> omega
      clear hV5 hH5 hKr5 hR5 hW5 hB5 hBX hVn
      clear Z
      replace hH6 := hid hH6
      replace hKr6 := hid hKr6
      replace hR6 := hid hR6
      replace hB6 := hid hB6
      replace hVX := hid hVX
      go_wp2
      refine refsum_plus c _ Hb V X _ hH6.out hVX.out hVH ?_
      intro x20 x264 x265 x266 x267 x268 x269 x270 x271 x272 x273 x274 x275 x276 x277 x278 x279 U hHU hkU
      have hKr7 : Hid (RowAt U Kb 77 (rowA 64 (wordsF keyL 64))) := hkU.row hKr6.out (by omega)
      have hR7 : Hid (RowAt U w.heap.size 73 (rowA 32 (outV t 0))) := hkU.row hR6.out (by omega)
      have hB7 : Hid (Below w.heap.size w U) := below_kept hB6.out hkU (Nat.le_refl _) (fun k hk => by omega)
      have hH7 : Hid (RowAt U Hb 77 (compAll initS (blocksTo p (n + 1))).cells) := by rw [← hnext.out]; exact hHU
      clear hHU hkU hH6 hKr6 hR6 hB6 hVX
      clear X
      have hai : (a : Int) ≤ 10000000000 := by have := hpN.out; have := ha.out; omega
      go_wp2
      go_roundw
      case rel => exact ⟨n + 1, by have := ha.out; go_num, by omega, hH7, hKr7, hR7, hB7⟩
      case measure => have := ha.out; simp [intOf]; omega
    · obtain rfl : n = N := by omega
      have hd : decide ((a : Int) < (p.size : Int)) = false := by rw [decide_eq_false_iff_not]; have := hNi.out; omega
      have hd' : decide (a < p.size) = false := by rw [decide_eq_false_iff_not]; have := hpN.out; omega
      have hz := zero32 t
      have htn : compAll initS (blocksTo p n) = t := by rw [← hlast.out, ht.out]
      have htk : t.Ok := by rw [← htn]; exact compAll_ok _ initS_ok _
      rw [htn] at hH
      replace htk := hid htk
      replace htn := hid htn
      replace ha := hid ha
      go_wp2
      have hO : RowAt (wr.alloc (.cells (rowA 32 (outV t 0)) 73)) wr.heap.size 73 (rowA 32 (outV t 0)) := RowAt.new _ _ _
      have hH1 := hH.out.alloc (.cells (rowA 32 (outV t 0)) 73)
      have hR1 := hR.out.alloc (.cells (rowA 32 (outV t 0)) 73)
      have hB1 := below_al hB.out (.cells (rowA 32 (outV t 0)) 73)
      have hHO : Hb < wr.heap.size := hH.out.lt
      have hRO : w.heap.size < wr.heap.size := hR.out.lt
      obtain ⟨O, hOe⟩ : ∃ O, O = wr.heap.size := ⟨_, rfl⟩
      rw [← hOe] at hO hHO hRO ⊢
      obtain ⟨Z, hZ⟩ : ∃ Z, Z = wr.alloc (.cells (rowA 32 (outV t 0)) 73) := ⟨_, rfl⟩
      rw [← hZ] at hO hH1 hR1 hB1 ⊢
      clear hZ hOe hH hKr hR hB hz hmk
      clear wr
      refine refsum_bytes t htk.out Hb O Z _ hH1 hO (by omega) ?_
      intro x22 x280 x281 x282 x283 x284 x285 x286 x287 x288 x289 x290 x291 x292 x293 x294 x295 x296 U hOU hkU
      have hR2 := hkU.row hR1 (by omega)
      have hB2 := below_kept hB1 hkU (Nat.le_refl _) (fun k hk => by omega)
      have hsum : (rowA 32 fun j => .int .u8 ((shaByte t j).toNat : Int)) = sumA s := by rw [ht.out]; rfl
      rw [hsum] at hOU
      have g0 : U.heap[O]? = some (.cells (sumA s) 73 (0, 0)) := hOU
      have g1 : U.heap[w.heap.size]? = some (.cells (rowA 32 (outV t 0)) 73 (0, 0)) := hR2
      replace g0 := hid g0
      replace g1 := hid g1
      clear hO hH1 hR1 hB1 hkU hsum hOU
      go_wp2_with (first
        | (refine wpList_load_row rfl 73 _ rfl O rfl 73 (sumA s) (0, 0) _ g0.out Tryd.underlying73 rfl (by rw [info32]; simp [sumA, rowA_size]) ?_)
        | (refine wpList_store_row rfl 73 _ _ rfl w.heap.size (sumA s) rfl rfl 73 (rowA 32 (outV t 0)) g1.out (by rw [info32]; simp [sumA, rowA_size]) (by simp [sumA, rowA_size]) (sumA_one _) ?_))
      refine bodyPost_ret (results_cell_row rfl _ _ w.heap.size 73 (sumA s) (0, 0) _ rfl (hR2.setRow _) Tryd.underlying73 rfl (by rw [info32]; simp [sumA, rowA_size])) rfl ⟨rfl, below_setRow hB2 (Nat.le_refl _) _⟩
end
section
open Go Go.RowKit
set_option linter.unusedSimpArgs false

theorem make32' (w : World) : (Instr.makeSlice 44 (.int .i64 32) (.int .i64 32)).run Tryd.prog w = .ok (.slice (some ⟨w.heap.size, 0, none⟩) 32 32) (w.alloc (.cells (rowA 32 fun _ => .int .u8 0) 5)) := by kernel_rfl
theorem make32 (t : St) (w : World) : (Instr.makeSlice 44 (.int .i64 32) (.int .i64 32)).run Tryd.prog w = .ok (.slice (some ⟨w.heap.size, 0, none⟩) 32 32) (w.alloc (.cells (rowA 32 (outB t 0)) 5)) :=
  (make32' w).trans (by rw [outB_zero, outV_zero])
theorem sumA_outB (s : ByteArray) : sumA s = rowA 32 (outB (lastS s) 32) := by rw [outB_all]; rfl
theorem outB_none (s t : St) : rowA 32 (outB s 0) = rowA 32 (outB t 0) := by rw [outB_zero, outB_zero, outV_zero, outV_zero]
set_option maxRecDepth 100000 in
set_option maxHeartbeats 1000000 in
theorem refText_any (s : ByteArray) (hs : s.size ≤ 1000000000) (w : World) : Calls Tryd.prog 36 #[.string s] w fun e w' => e = .returned (.string (sumS s)) ∧ Below w.heap.size w w' := by
  obtain ⟨t, ht⟩ : ∃ t, t = lastS s := ⟨_, rfl⟩
  have hz := zero32 t
  have hmk := make32 t
  have LS := fun w => refSum_any s hs w
  rw [sumA_outB, ← ht] at LS
  have hout : (⟨((List.range 32).map (shaByte t)).toArray⟩ : ByteArray) = sumS s := by rw [ht]; rfl
  replace LS := hid LS
  replace ht := hid ht
  replace hout := hid hout
  go_enter Tryd.func36, Tryd.ntmps36
  go_wp2_with (first
    | (go_at_call 48; with_reducible refine (LS.out _).mono ?_; rintro e w1 ⟨rfl, hB1⟩)
    | (refine wpList_store_row rfl 73 _ _ rfl w1.heap.size (rowA 32 (outB t 32)) rfl rfl 73 (rowA 32 (outV t 0)) (RowAt.new _ _ _) (by rw [info32, rowA_size]) (by rw [rowA_size, rowA_size]) (by rw [Array.all_eq_true]; intro i h; simp only [rowA, Array.getElem_ofFn, outB]; rfl) ?_
       have hX := (RowAt.new w1 (rowA 32 (outV t 0)) 73).setRow (rowA 32 (outB t 32))
       have hBX := below_setRow (below_al hB1 (.cells (rowA 32 (outV t 0)) 73)) hB1.size (rowA 32 (outB t 32))
       have hbz := hB1.size
       obtain ⟨X, hXe⟩ : ∃ X, X = (w1.alloc (.cells (rowA 32 (outV t 0)) 73)).setRow w1.heap.size (rowA 32 (outB t 32)) := ⟨_, rfl⟩
       obtain ⟨A, hA⟩ : ∃ A, A = w1.heap.size := ⟨_, rfl⟩
       rw [← hA] at hX hBX hXe hbz ⊢
       rw [← hXe] at hX hBX ⊢
       clear hXe hB1 hA hz
       clear w1
       replace hX := hid hX
       replace hBX := hid hBX))
  have hb := RowAt.new X (rowA 32 (outB t 0)) 5
  have hX2 := hX.out.alloc (.cells (rowA 32 (outB t 0)) 5)
  have hB2 := below_al hBX.out (.cells (rowA 32 (outB t 0)) 5)
  have hAX : A < X.heap.size := hX.out.lt
  obtain ⟨b, hbe⟩ : ∃ b, b = X.heap.size := ⟨_, rfl⟩
  rw [← hbe] at hb hAX ⊢
  obtain ⟨Y, hY⟩ : ∃ Y, Y = X.alloc (.cells (rowA 32 (outB t 0)) 5) := ⟨_, rfl⟩
  rw [← hY] at hb hX2 hB2 ⊢
  clear hY hbe hX hBX hmk
  clear X
  replace hb := hid hb
  replace hX2 := hid hX2
  replace hB2 := hid hB2
  go_loopw [5] (fun v wr => ∃ i : Nat, i ≤ 32 ∧ v = .int .i64 (i : Nat) ∧ Hid (RowAt wr b 5 (rowA 32 (outB t i))) ∧ Hid (RowAt wr A 73 (rowA 32 (outB t 32))) ∧ Hid (Below w.heap.size w wr)) (fun v _ => 32 - (intOf v).toNat)
  case atStart => exact ⟨0, by omega, rfl, hb, hX2, hB2⟩
  case round =>
    clear hb hX2 hB2
    obtain ⟨i, hi, rfl, hb, hX, hB⟩ := hrel
    by_cases h32 : i = 32
    · subst h32
      have hcv := conv_row (P := Tryd.prog) 44 9 5 Tryd.underlying44 Tryd.underlying5 Tryd.underlying9 32 (hb.out.eqA (outB_all t))
      rw [hout.out] at hcv
      go_wp2
      go_ret
      exact ⟨rfl, hB.out⟩
    · have hlt : i < 32 := by omega
      have hlti : (i : Int) < 32 := by omega
      obtain ⟨c, hc⟩ : ∃ c, c = (shaByte t i).toNat := ⟨_, rfl⟩
      have e1 : wr.cell? ⟨A, i, none⟩ = some (.int .u8 (c : Nat)) := hX.out.cell (by rw [rowA_get _ _ _ hlt, hc]; simp [outB, hlt])
      have e2 : wr.cell? ⟨b, i, none⟩ = some (.int .u8 0) := hb.out.cell (by rw [rowA_get _ _ _ hlt]; simp [outB])
      have f2 := hb.out.free i
      replace hc := hid hc
      go_wp2
      go_roundw
      case rel => exact ⟨i + 1, by omega, by go_num, (hb.out.set i _).eqA (by rw [hc.out]; exact outB_set t i), hX.out.other _ _ (by simp <;> omega), hB.out.setCell (by simp <;> omega) _⟩
      case measure => simp [intOf]; omega
end
end Go.Proofs.YtdjlpmelmhhooaaDoor
