/- The document's sum, its rounds: the walk. -/
import Derived.Test.YtdjlpmelmhhooaaDoorShX5
import Derived.Test.YtdjlpmelmhhooaaDoorLibA
namespace Go.Proofs.YtdjlpmelmhhooaaDoor
open Go Go.RowKit
set_option linter.unusedSimpArgs false

set_option maxRecDepth 10000000 in
set_option maxHeartbeats 8000000 in
theorem refsum_rounds (s : St) (hs : s.Ok) (b : List UInt8) (Kb Wb V0 : Nat) (w : World) {u0 u1 u2 u3 u5 u6 u8 u9 u10 u11 u12 u15 u16 u17 u18 u19 u20 u21 u22 u23 u24 u25 u26 u27 u28 u29 u30 u31 u32 u33 u34 u35 u36 u37 u38 u39 u40 u41 u42 u43 u44 u45 u46 u47 u48 u49 u50 u51 u52 u53 u54 u55 u56 u57 u58 u59 u60 u61 u62 u63 u64 u65 u66 u67 u68 u69 u70 u71 u72 u73 u74 u75 u76 u77 u78 u79 u80 u81 u82 u83 u84 u85 u86 u87 u88 u89 u90 u91 u92 u93 u94 u95 u96 u97 u98 u99 u100 u101 u102 u103 u104 u105 u106 u107 u108 u109 u110 u111 u112 u113 u114 u115 u116 u117 u118 u119 u120 u121 u122 u123 u124 u125 u126 u127 u128 u129 u130 u131 u132 u133 u134 u135 u136 u137 u138 u139 u140 u141 u142 u143 u144 u145 u146 u147 u148 u149 u150 u151 u152 u153 u154 u155 u156 u157 u158 u159 u160 u161 u162 u163 u164 u165 u166 u167 u168 u169 u170 u171 u172 u173 u174 u175 u176 u177 u178 u179 u180 u181 u182 u183 u184 u185 u186 u187 u188 u189 u190 u191 u192 u193 u194 u195 u196 u197 u198 u199 u200 u201 u202 u203 u204 u205 u206 u207 u208 u209 u210 u211 u212 u213 u214 u215 u216 u217 u218 u219 u220 u221 u222 u223 u224 u225 u226 u227 u228 u229 u230 u231 u232 u233 u234 u235 u236 u237 u238 u239 u240 u241 u242 u243 u244 u245 u246 u247 u248 u249 u250 u251 u252 u253 u254 u255 u256 u257 u258 u259 u260 u261 u262 u263 u264 u265 u266 u267 u268 u269 u270 u271 u272 u273 u274 u275 u276 u277 u278 u279 u280 u281 u282 u283 u284 u285 u286 u287 u288 u289 u290 u291 u292 u293 u294 u295 u296 u297 : Value} (Q : Exit → Act → World → Prop)
    (hKr : RowAt w Kb 77 (rowA 64 (wordsF keyL 64))) (hW : RowAt w Wb 77 (rowA 64 (wordsF (sched b 64) 64))) (hV : RowAt w V0 77 s.cells)
    (hK : ∀ (V : Nat) (v14 v15 v16 v17 v18 v19 v147 v148 v149 v150 v151 v152 v153 v154 v155 v156 v157 v158 v159 v160 v161 v162 v163 v164 v165 v166 v167 v168 v169 v170 v171 v172 v173 v174 v175 v176 v177 v178 v179 v180 v181 v182 v183 v184 v185 v186 v187 v188 v189 v190 v191 v192 v193 v194 v195 v196 v197 v198 v199 v200 v201 v202 v203 v204 v205 v206 v207 v208 v209 v210 v211 v212 v213 v214 v215 v216 v217 v218 v219 v220 v221 v222 v223 v224 v225 v226 v227 v228 v229 v230 v231 v232 v233 v234 v235 v236 v237 v238 v239 v240 v241 v242 v243 v244 v245 v246 v247 v248 v249 v250 v251 v252 v253 v254 v255 v256 v257 v258 v259 v260 v261 v262 v263 : Value) (w' : World), RowAt w' V 77 (rnds keyL (sched b 64) s 64).cells → (V = V0 ∨ w.heap.size ≤ V) → Below w.heap.size w w' → Q .normal { tmps := #[u0, u1, u2, u3, .slice (some ⟨Kb, 0, none⟩) 64 64, u5, u6, .slice (some ⟨Wb, 0, none⟩) 64 64, u8, u9, u10, u11, u12, .slice (some ⟨V, 0, none⟩) 8 8, v14, v15, v16, v17, v18, v19, u20, u21, u22, u23, u24, u25, u26, u27, u28, u29, u30, u31, u32, u33, u34, u35, u36, u37, u38, u39, u40, u41, u42, u43, u44, u45, u46, u47, u48, u49, u50, u51, u52, u53, u54, u55, u56, u57, u58, u59, u60, u61, u62, u63, u64, u65, u66, u67, u68, u69, u70, u71, u72, u73, u74, u75, u76, u77, u78, u79, u80, u81, u82, u83, u84, u85, u86, u87, u88, u89, u90, u91, u92, u93, u94, u95, u96, u97, u98, u99, u100, u101, u102, u103, u104, u105, u106, u107, u108, u109, u110, u111, u112, u113, u114, u115, u116, u117, u118, u119, u120, u121, u122, u123, u124, u125, u126, u127, u128, u129, u130, u131, u132, u133, u134, u135, u136, u137, u138, u139, u140, u141, u142, u143, u144, u145, u146, v147, v148, v149, v150, v151, v152, v153, v154, v155, v156, v157, v158, v159, v160, v161, v162, v163, v164, v165, v166, v167, v168, v169, v170, v171, v172, v173, v174, v175, v176, v177, v178, v179, v180, v181, v182, v183, v184, v185, v186, v187, v188, v189, v190, v191, v192, v193, v194, v195, v196, v197, v198, v199, v200, v201, v202, v203, v204, v205, v206, v207, v208, v209, v210, v211, v212, v213, v214, v215, v216, v217, v218, v219, v220, v221, v222, v223, v224, v225, v226, v227, v228, v229, v230, v231, v232, v233, v234, v235, v236, v237, v238, v239, v240, v241, v242, v243, v244, v245, v246, v247, v248, v249, v250, v251, v252, v253, v254, v255, v256, v257, v258, v259, v260, v261, v262, v263, u264, u265, u266, u267, u268, u269, u270, u271, u272, u273, u274, u275, u276, u277, u278, u279, u280, u281, u282, u283, u284, u285, u286, u287, u288, u289, u290, u291, u292, u293, u294, u295, u296, u297], defers := [] } w') :
    (frag Tryd.f48 8).wp Tryd.prog (Exit.inBlock 8 Q) { tmps := #[u0, u1, u2, u3, .slice (some ⟨Kb, 0, none⟩) 64 64, u5, u6, .slice (some ⟨Wb, 0, none⟩) 64 64, u8, u9, u10, u11, u12, .slice (some ⟨V0, 0, none⟩) 8 8, .int .i64 0, u15, u16, u17, u18, u19, u20, u21, u22, u23, u24, u25, u26, u27, u28, u29, u30, u31, u32, u33, u34, u35, u36, u37, u38, u39, u40, u41, u42, u43, u44, u45, u46, u47, u48, u49, u50, u51, u52, u53, u54, u55, u56, u57, u58, u59, u60, u61, u62, u63, u64, u65, u66, u67, u68, u69, u70, u71, u72, u73, u74, u75, u76, u77, u78, u79, u80, u81, u82, u83, u84, u85, u86, u87, u88, u89, u90, u91, u92, u93, u94, u95, u96, u97, u98, u99, u100, u101, u102, u103, u104, u105, u106, u107, u108, u109, u110, u111, u112, u113, u114, u115, u116, u117, u118, u119, u120, u121, u122, u123, u124, u125, u126, u127, u128, u129, u130, u131, u132, u133, u134, u135, u136, u137, u138, u139, u140, u141, u142, u143, u144, u145, u146, u147, u148, u149, u150, u151, u152, u153, u154, u155, u156, u157, u158, u159, u160, u161, u162, u163, u164, u165, u166, u167, u168, u169, u170, u171, u172, u173, u174, u175, u176, u177, u178, u179, u180, u181, u182, u183, u184, u185, u186, u187, u188, u189, u190, u191, u192, u193, u194, u195, u196, u197, u198, u199, u200, u201, u202, u203, u204, u205, u206, u207, u208, u209, u210, u211, u212, u213, u214, u215, u216, u217, u218, u219, u220, u221, u222, u223, u224, u225, u226, u227, u228, u229, u230, u231, u232, u233, u234, u235, u236, u237, u238, u239, u240, u241, u242, u243, u244, u245, u246, u247, u248, u249, u250, u251, u252, u253, u254, u255, u256, u257, u258, u259, u260, u261, u262, u263, u264, u265, u266, u267, u268, u269, u270, u271, u272, u273, u274, u275, u276, u277, u278, u279, u280, u281, u282, u283, u284, u285, u286, u287, u288, u289, u290, u291, u292, u293, u294, u295, u296, u297], defers := [] } w := by
  obtain ⟨W, hWe⟩ : ∃ W, W = sched b 64 := ⟨_, rfl⟩
  rw [← hWe] at hW hK
  have hkb := hKr.lt
  have hwb := hW.lt
  replace hs := hid hs
  replace hWe := hid hWe
  replace hK := hid hK
  replace hW := hid hW
  replace hKr := hid hKr
  replace hV := hid hV
  have hB0 : Hid (Below w.heap.size w w) := Below.refl _ _
  dsimp only
  rw [show frag Tryd.f48 8 = Code.loop _ from rfl]
  go_loopw [13, 14] (fun vv v wr => ∃ i V : Nat, i ≤ 64 ∧ v = .int .i64 (i : Nat) ∧ vv = .slice (some ⟨V, 0, none⟩) 8 8 ∧ (V = V0 ∨ w.heap.size ≤ V) ∧ Hid (RowAt wr V 77 (rnds keyL W s i).cells) ∧ Hid (Below w.heap.size w wr)) (fun _ v _ => 64 - (intOf v).toNat)
  case atStart => exact ⟨0, V0, by omega, rfl, rfl, .inl rfl, hV, hB0⟩
  case round =>
    clear hV hB0
    obtain ⟨i, V, hi, rfl, rfl, hVn, hV, hB⟩ := hrel
    replace hVn := hid hVn
    by_cases h64 : i = 64
    · subst h64
      go_wp2
      exact hK.out V _ _ _ _ _ _ _ _ _ _ _ _ _ _ _ _ _ _ _ _ _ _ _ _ _ _ _ _ _ _ _ _ _ _ _ _ _ _ _ _ _ _ _ _ _ _ _ _ _ _ _ _ _ _ _ _ _ _ _ _ _ _ _ _ _ _ _ _ _ _ _ _ _ _ _ _ _ _ _ _ _ _ _ _ _ _ _ _ _ _ _ _ _ _ _ _ _ _ _ _ _ _ _ _ _ _ _ _ _ _ _ _ _ _ _ _ _ _ _ _ _ _ _ _ hV.out hVn.out hB.out
    · have hlt : i < 64 := by omega
      have hlti : (i : Int) < 64 := by omega
      obtain ⟨t, ht⟩ : ∃ t, t = rnds keyL W s i := ⟨_, rfl⟩
      have hok : t.Ok := by rw [ht]; exact rnds_ok keyL W s hs.out i
      rw [← ht] at hV
      replace ht := hid ht
      replace hok := hid hok
      -- what lies at hand
      obtain ⟨r6, hr6⟩ : ∃ r, r = rot t.e 6 := ⟨_, rfl⟩
      obtain ⟨r11, hr11⟩ : ∃ r, r = rot t.e 11 := ⟨_, rfl⟩
      obtain ⟨r25, hr25⟩ : ∃ r, r = rot t.e 25 := ⟨_, rfl⟩
      have T6 := fun w => rotr_lit t.e 6 hok.out.e (by decide) (by decide) w
      have T11 := fun w => rotr_lit t.e 11 hok.out.e (by decide) (by decide) w
      have T25 := fun w => rotr_lit t.e 25 hok.out.e (by decide) (by decide) w
      have eS := sg1_bits t.e hok.out.e
      rw [← hr6] at T6 eS
      rw [← hr11] at T11 eS
      rw [← hr25] at T25 eS
      obtain ⟨S, hS⟩ : ∃ S, S = sg1 t.e := ⟨_, rfl⟩
      rw [← hS] at eS
      replace hS := hid hS
      have f4 : ∀ q : Sub wr, q.x.cell? ⟨V, 4, none⟩ = some (.int .u32 (t.e : Nat)) := fun q => q.cell hV.out rfl
      replace T6 := hid T6
      replace T11 := hid T11
      replace T25 := hid T25
      clear hr6 hr11 hr25
      go_wp2
      refine wp_region_sub (by kernel_rfl) (by kernel_rfl) ?_
      repeat (go_big_quiet_step (first
        | (go_at_call 59; with_reducible refine Sub.call _ (T6.out _))
        | (go_at_call 59; with_reducible refine Sub.call _ (T11.out _))
        | (go_at_call 59; with_reducible refine Sub.call _ (T25.out _))))
      refine wpQuiet_nil ?_
      intro q
      clear f4 eS T6 T11 T25
      have kV := hV.out.below q.h hV.out.lt
      have kB := below_cat q.h hB.out
      obtain ⟨X, hX⟩ : ∃ X, X = q.x := ⟨_, rfl⟩
      rw [← hX] at kV kB ⊢
      clear hX q hV hB
      replace kV := hid kV
      replace kB := hid kB
      -- ch
      have eC := chF_bits t.e t.f t.g hok.out.e hok.out.f hok.out.g
      obtain ⟨C, hC⟩ : ∃ C, C = chF t.e t.f t.g := ⟨_, rfl⟩
      rw [← hC] at eC
      replace hC := hid hC
      have f4 : ∀ q : Sub X, q.x.cell? ⟨V, 4, none⟩ = some (.int .u32 (t.e : Nat)) := fun q => q.cell kV.out rfl
      have f5 : ∀ q : Sub X, q.x.cell? ⟨V, 5, none⟩ = some (.int .u32 (t.f : Nat)) := fun q => q.cell kV.out rfl
      have f6 : ∀ q : Sub X, q.x.cell? ⟨V, 6, none⟩ = some (.int .u32 (t.g : Nat)) := fun q => q.cell kV.out rfl
      have he32 : (t.e : Int) < 4294967296 := by have := hok.out.e; omega
      have eN : IntKind.u32.wrap (4294967295 - (t.e : Int)) = 4294967295 - (t.e : Int) := by rw [IntKind.wrap_u32]; omega
      go_wp2
      refine wp_region_sub (by kernel_rfl) (by kernel_rfl) ?_
      repeat (go_big_quiet_step (fail))
      refine wpQuiet_nil ?_
      intro q
      clear f4 f5 f6 eC eN
      have jV := kV.out.below q.h kV.out.lt
      have jB := below_cat q.h kB.out
      obtain ⟨Y, hY⟩ : ∃ Y, Y = q.x := ⟨_, rfl⟩
      rw [← hY] at jV jB ⊢
      clear hY q kV kB
      replace jV := hid jV
      replace jB := hid jB
      -- t1
      obtain ⟨kk, hkk⟩ : ∃ k, k = keyL.getD i 0 := ⟨_, rfl⟩
      obtain ⟨ww, hww⟩ : ∃ k, k = W.getD i 0 := ⟨_, rfl⟩
      have f7 : ∀ q : Sub Y, q.x.cell? ⟨V, 7, none⟩ = some (.int .u32 (t.h : Nat)) := fun q => q.cell jV.out rfl
      have fk : ∀ q : Sub Y, q.x.cell? ⟨Kb, i, none⟩ = some (.int .u32 (kk : Nat)) := fun q => by rw [hkk]; exact q.cell (hKr.out.below jB.out hkb) (wordsF_get keyL 64 64 i hlt hlt)
      have fw : ∀ q : Sub Y, q.x.cell? ⟨Wb, i, none⟩ = some (.int .u32 (ww : Nat)) := fun q => by rw [hww]; exact q.cell (hW.out.below jB.out hwb) (wordsF_get W 64 64 i hlt hlt)
      obtain ⟨p1, p2, p3, xv, ep1, ep2, ep3, ex, hxv⟩ := xF_int t kk ww
      rw [← hS.out] at ep1
      rw [← hC.out] at ep2
      rw [hkk, hww] at hxv
      replace hxv := hid hxv
      replace hkk := hid hkk
      replace hww := hid hww
      go_wp2
      refine wp_region_sub (by kernel_rfl) (by kernel_rfl) ?_
      repeat (go_big_quiet_step (fail))
      refine wpQuiet_nil ?_
      intro q
      rw [ex]
      clear f7 fk fw ep1 ep2 ep3 ex
      have kV := jV.out.below q.h jV.out.lt
      have kB := below_cat q.h jB.out
      obtain ⟨X, hX⟩ : ∃ X, X = q.x := ⟨_, rfl⟩
      rw [← hX] at kV kB ⊢
      clear hX q jV jB
      replace kV := hid kV
      replace kB := hid kB
      -- s0
      obtain ⟨r2, hr2⟩ : ∃ r, r = rot t.a 2 := ⟨_, rfl⟩
      obtain ⟨r13, hr13⟩ : ∃ r, r = rot t.a 13 := ⟨_, rfl⟩
      obtain ⟨r22, hr22⟩ : ∃ r, r = rot t.a 22 := ⟨_, rfl⟩
      have T2 := fun w => rotr_lit t.a 2 hok.out.a (by decide) (by decide) w
      have T13 := fun w => rotr_lit t.a 13 hok.out.a (by decide) (by decide) w
      have T22 := fun w => rotr_lit t.a 22 hok.out.a (by decide) (by decide) w
      have eS := sg0_bits t.a hok.out.a
      rw [← hr2] at T2 eS
      rw [← hr13] at T13 eS
      rw [← hr22] at T22 eS
      obtain ⟨S0, hS0⟩ : ∃ S, S = sg0 t.a := ⟨_, rfl⟩
      rw [← hS0] at eS
      replace hS0 := hid hS0
      replace T2 := hid T2
      replace T13 := hid T13
      replace T22 := hid T22
      clear hr2 hr13 hr22
      have f0 : ∀ q : Sub X, q.x.cell? ⟨V, 0, none⟩ = some (.int .u32 (t.a : Nat)) := fun q => q.cell kV.out rfl
      go_wp2
      refine wp_region_sub (by kernel_rfl) (by kernel_rfl) ?_
      repeat (go_big_quiet_step (first
        | (go_at_call 59; with_reducible refine Sub.call _ (T2.out _))
        | (go_at_call 59; with_reducible refine Sub.call _ (T13.out _))
        | (go_at_call 59; with_reducible refine Sub.call _ (T22.out _))))
      refine wpQuiet_nil ?_
      intro q
      clear f0 eS T2 T13 T22
      have jV := kV.out.below q.h kV.out.lt
      have jB := below_cat q.h kB.out
      obtain ⟨Y, hY⟩ : ∃ Y, Y = q.x := ⟨_, rfl⟩
      rw [← hY] at jV jB ⊢
      clear hY q kV kB
      replace jV := hid jV
      replace jB := hid jB
      -- t2
      have eM := majF_bits t.a t.b t.c hok.out.a hok.out.b hok.out.c
      obtain ⟨yv, hyv⟩ : ∃ y, y = yF t := ⟨_, rfl⟩
      have ey2 : (((sg0 t.a : Nat) : Int) + (majF t.a t.b t.c : Nat)) % 4294967296 = (yv : Int) := by rw [hyv]; unfold yF ad; simp
      obtain ⟨M, hM⟩ : ∃ C, C = majF t.a t.b t.c := ⟨_, rfl⟩
      rw [← hM] at eM ey2
      rw [← hS0.out] at ey2
      replace hM := hid hM
      replace hyv := hid hyv
      have f0 : ∀ q : Sub Y, q.x.cell? ⟨V, 0, none⟩ = some (.int .u32 (t.a : Nat)) := fun q => q.cell jV.out rfl
      have f1 : ∀ q : Sub Y, q.x.cell? ⟨V, 1, none⟩ = some (.int .u32 (t.b : Nat)) := fun q => q.cell jV.out rfl
      have f2 : ∀ q : Sub Y, q.x.cell? ⟨V, 2, none⟩ = some (.int .u32 (t.c : Nat)) := fun q => q.cell jV.out rfl
      go_wp2
      refine wp_region_sub (by kernel_rfl) (by kernel_rfl) ?_
      repeat (go_big_quiet_step (fail))
      refine wpQuiet_nil ?_
      intro q
      rw [ey2]
      clear f0 f1 f2 eM ey2
      have kV := jV.out.below q.h jV.out.lt
      have kB := below_cat q.h jB.out
      obtain ⟨X, hX⟩ : ∃ X, X = q.x := ⟨_, rfl⟩
      rw [← hX] at kV kB ⊢
      clear hX q jV jB
      replace kV := hid kV
      replace kB := hid kB
      -- the new words
      obtain ⟨na, hna⟩ : ∃ n, n = ad xv yv := ⟨_, rfl⟩
      obtain ⟨nd, hnd⟩ : ∃ n, n = ad t.d xv := ⟨_, rfl⟩
      have ena : ((xv : Int) + (yv : Int)) % 4294967296 = (na : Int) := by rw [hna]; unfold ad; simp
      have ena2 : IntKind.u32.wrap ((xv : Int) + (yv : Int)) = (na : Int) := by rw [IntKind.wrap_u32]; exact ena
      have end1 : ((t.d : Int) + (xv : Int)) % 4294967296 = (nd : Int) := by rw [hnd]; unfold ad; simp
      have end2 : IntKind.u32.wrap ((t.d : Int) + (xv : Int)) = (nd : Int) := by rw [IntKind.wrap_u32]; exact end1
      have hnew : (⟨na, t.a, t.b, t.c, nd, t.e, t.f, t.g⟩ : St) = rnds keyL W s (i + 1) := by
        rw [rnds, ← ht.out, hna, hnd, hyv.out, hxv.out]; rfl
      replace hnew := hid hnew
      replace hna := hid hna
      replace hnd := hid hnd
      have f0 : ∀ q : Sub X, q.x.cell? ⟨V, 0, none⟩ = some (.int .u32 (t.a : Nat)) := fun q => q.cell kV.out rfl
      have f1 : ∀ q : Sub X, q.x.cell? ⟨V, 1, none⟩ = some (.int .u32 (t.b : Nat)) := fun q => q.cell kV.out rfl
      have f2 : ∀ q : Sub X, q.x.cell? ⟨V, 2, none⟩ = some (.int .u32 (t.c : Nat)) := fun q => q.cell kV.out rfl
      have f3 : ∀ q : Sub X, q.x.cell? ⟨V, 3, none⟩ = some (.int .u32 (t.d : Nat)) := fun q => q.cell kV.out rfl
      have f4 : ∀ q : Sub X, q.x.cell? ⟨V, 4, none⟩ = some (.int .u32 (t.e : Nat)) := fun q => q.cell kV.out rfl
      have f5 : ∀ q : Sub X, q.x.cell? ⟨V, 5, none⟩ = some (.int .u32 (t.f : Nat)) := fun q => q.cell kV.out rfl
      have f6 : ∀ q : Sub X, q.x.cell? ⟨V, 6, none⟩ = some (.int .u32 (t.g : Nat)) := fun q => q.cell kV.out rfl
      go_wp2
      refine wp_region_tail 26 (by kernel_rfl) (by kernel_rfl) (by kernel_rfl) ?_
      simp only [muteFrom, mute]
      repeat (go_big_quiet_step (fail))
      refine wpQuiet_nil ?_
      intro q
      clear f0 f1 f2 f3 f4 f5 f6 ena ena2 end1 end2
      have jB := below_cat q.h kB.out
      obtain ⟨Y, hY⟩ : ∃ Y, Y = q.x := ⟨_, rfl⟩
      rw [← hY] at jB ⊢
      clear hY q kV kB
      replace jB := hid jB
      simp only [List.drop_succ_cons, List.drop_zero]
      go_wp2
      go_roundw
      case rel => exact ⟨i + 1, Y.heap.size, by omega, by go_num, rfl, .inr jB.out.size, by rw [← hnew.out]; exact RowAt.new Y (St.cells ⟨na, t.a, t.b, t.c, nd, t.e, t.f, t.g⟩) _, below_al jB.out _⟩
      case measure => simp [intOf]; omega
end Go.Proofs.YtdjlpmelmhhooaaDoor
