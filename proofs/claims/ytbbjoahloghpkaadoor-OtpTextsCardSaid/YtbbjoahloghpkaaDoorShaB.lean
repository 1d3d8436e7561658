/- The document's sum, its second loop (the words behind the block's own): the walk. -/
import Derived.Test.YtbbjoahloghpkaaDoorSha7
import Derived.Test.YtbbjoahloghpkaaDoorFrag
namespace Go.Proofs.YtbbjoahloghpkaaDoor
open Go Go.RowKit
set_option linter.unusedSimpArgs false

theorem rotr_lit (x n : Nat) (hx : x < 4294967296) (hn : 0 < n) (hn2 : n < 32) (w : World) : Calls Tryd.prog 80 #[.int .u32 x, .int .i64 (OfNat.ofNat n)] w fun e w' => e = .returned (.int .u32 (rot x n : Nat)) ∧ Below w.heap.size w w' := rotr_any x n hx hn hn2 w
set_option maxRecDepth 10000000 in
set_option maxHeartbeats 4000000 in
theorem refsum_words (b : List UInt8) (Wb : Nat) (w : World) {u0 u1 u2 u3 u4 u5 u6 u8 u9 u11 u12 u13 u14 u15 u16 u17 u18 u19 u20 u21 u22 u23 u24 u25 u26 u27 u28 u29 u30 u31 u32 u33 u34 u35 u36 u37 u38 u39 u40 u41 u42 u43 u44 u45 u46 u47 u48 u49 u50 u51 u52 u53 u54 u55 u56 u57 u58 u59 u60 u61 u62 u63 u64 u65 u66 u67 u68 u69 u70 u71 u72 u73 u74 u75 u76 u77 u78 u79 u80 u81 u82 u83 u84 u85 u86 u87 u88 u89 u90 u91 u92 u93 u94 u95 u96 u97 u98 u99 u100 u101 u102 u103 u104 u105 u106 u107 u108 u109 u110 u111 u112 u113 u114 u115 u116 u117 u118 u119 u120 u121 u122 u123 u124 u125 u126 u127 u128 u129 u130 u131 u132 u133 u134 u135 u136 u137 u138 u139 u140 u141 u142 u143 u144 u145 u146 u147 u148 u149 u150 u151 u152 u153 u154 u155 u156 u157 u158 u159 u160 u161 u162 u163 u164 u165 u166 u167 u168 u169 u170 u171 u172 u173 u174 u175 u176 u177 u178 u179 u180 u181 u182 u183 u184 u185 u186 u187 u188 u189 u190 u191 u192 u193 u194 u195 u196 u197 u198 u199 u200 u201 u202 u203 u204 u205 u206 u207 u208 u209 u210 u211 u212 u213 u214 u215 u216 u217 u218 u219 u220 u221 u222 u223 u224 u225 u226 u227 u228 u229 u230 u231 u232 u233 u234 u235 u236 u237 u238 u239 u240 u241 u242 u243 u244 u245 u246 u247 u248 u249 u250 u251 u252 u253 u254 u255 u256 u257 u258 u259 u260 u261 u262 u263 u264 u265 u266 u267 u268 u269 u270 u271 u272 u273 u274 u275 u276 u277 u278 u279 u280 u281 u282 u283 u284 u285 u286 u287 u288 u289 u290 u291 u292 u293 u294 u295 u296 u297 : Value} (Q : Exit → Act → World → Prop)
    (hW : RowAt w Wb 93 (rowA 64 (wordsF (sched b 64) 16)))
    (hK : ∀ (v10 v11 v12 v60 v61 v62 v63 v64 v65 v66 v67 v68 v69 v70 v71 v72 v73 v74 v75 v76 v77 v78 v79 v80 v81 v82 v83 v84 v85 v86 v87 v88 v89 v90 v91 v92 v93 v94 v95 v96 v97 v98 v99 v100 v101 v102 v103 v104 v105 v106 v107 v108 v109 v110 v111 v112 v113 v114 v115 v116 v117 v118 v119 v120 v121 : Value) (w' : World), RowAt w' Wb 93 (rowA 64 (wordsF (sched b 64) 64)) → Kept (fun k => k = Wb) w w' → Q .normal { tmps := #[u0, u1, u2, u3, u4, u5, u6, .slice (some ⟨Wb, 0, none⟩) 64 64, u8, u9, v10, v11, v12, u13, u14, u15, u16, u17, u18, u19, u20, u21, u22, u23, u24, u25, u26, u27, u28, u29, u30, u31, u32, u33, u34, u35, u36, u37, u38, u39, u40, u41, u42, u43, u44, u45, u46, u47, u48, u49, u50, u51, u52, u53, u54, u55, u56, u57, u58, u59, v60, v61, v62, v63, v64, v65, v66, v67, v68, v69, v70, v71, v72, v73, v74, v75, v76, v77, v78, v79, v80, v81, v82, v83, v84, v85, v86, v87, v88, v89, v90, v91, v92, v93, v94, v95, v96, v97, v98, v99, v100, v101, v102, v103, v104, v105, v106, v107, v108, v109, v110, v111, v112, v113, v114, v115, v116, v117, v118, v119, v120, v121, u122, u123, u124, u125, u126, u127, u128, u129, u130, u131, u132, u133, u134, u135, u136, u137, u138, u139, u140, u141, u142, u143, u144, u145, u146, u147, u148, u149, u150, u151, u152, u153, u154, u155, u156, u157, u158, u159, u160, u161, u162, u163, u164, u165, u166, u167, u168, u169, u170, u171, u172, u173, u174, u175, u176, u177, u178, u179, u180, u181, u182, u183, u184, u185, u186, u187, u188, u189, u190, u191, u192, u193, u194, u195, u196, u197, u198, u199, u200, u201, u202, u203, u204, u205, u206, u207, u208, u209, u210, u211, u212, u213, u214, u215, u216, u217, u218, u219, u220, u221, u222, u223, u224, u225, u226, u227, u228, u229, u230, u231, u232, u233, u234, u235, u236, u237, u238, u239, u240, u241, u242, u243, u244, u245, u246, u247, u248, u249, u250, u251, u252, u253, u254, u255, u256, u257, u258, u259, u260, u261, u262, u263, u264, u265, u266, u267, u268, u269, u270, u271, u272, u273, u274, u275, u276, u277, u278, u279, u280, u281, u282, u283, u284, u285, u286, u287, u288, u289, u290, u291, u292, u293, u294, u295, u296, u297], defers := [] } w') :
    (frag Tryd.f59 6).wp Tryd.prog (Exit.inBlock 6 Q) { tmps := #[u0, u1, u2, u3, u4, u5, u6, .slice (some ⟨Wb, 0, none⟩) 64 64, u8, u9, .int .i64 16, u11, u12, u13, u14, u15, u16, u17, u18, u19, u20, u21, u22, u23, u24, u25, u26, u27, u28, u29, u30, u31, u32, u33, u34, u35, u36, u37, u38, u39, u40, u41, u42, u43, u44, u45, u46, u47, u48, u49, u50, u51, u52, u53, u54, u55, u56, u57, u58, u59, u60, u61, u62, u63, u64, u65, u66, u67, u68, u69, u70, u71, u72, u73, u74, u75, u76, u77, u78, u79, u80, u81, u82, u83, u84, u85, u86, u87, u88, u89, u90, u91, u92, u93, u94, u95, u96, u97, u98, u99, u100, u101, u102, u103, u104, u105, u106, u107, u108, u109, u110, u111, u112, u113, u114, u115, u116, u117, u118, u119, u120, u121, u122, u123, u124, u125, u126, u127, u128, u129, u130, u131, u132, u133, u134, u135, u136, u137, u138, u139, u140, u141, u142, u143, u144, u145, u146, u147, u148, u149, u150, u151, u152, u153, u154, u155, u156, u157, u158, u159, u160, u161, u162, u163, u164, u165, u166, u167, u168, u169, u170, u171, u172, u173, u174, u175, u176, u177, u178, u179, u180, u181, u182, u183, u184, u185, u186, u187, u188, u189, u190, u191, u192, u193, u194, u195, u196, u197, u198, u199, u200, u201, u202, u203, u204, u205, u206, u207, u208, u209, u210, u211, u212, u213, u214, u215, u216, u217, u218, u219, u220, u221, u222, u223, u224, u225, u226, u227, u228, u229, u230, u231, u232, u233, u234, u235, u236, u237, u238, u239, u240, u241, u242, u243, u244, u245, u246, u247, u248, u249, u250, u251, u252, u253, u254, u255, u256, u257, u258, u259, u260, u261, u262, u263, u264, u265, u266, u267, u268, u269, u270, u271, u272, u273, u274, u275, u276, u277, u278, u279, u280, u281, u282, u283, u284, u285, u286, u287, u288, u289, u290, u291, u292, u293, u294, u295, u296, u297], defers := [] } w := by
  obtain ⟨W, hWe⟩ : ∃ W, W = sched b 64 := ⟨_, rfl⟩
  rw [← hWe] at hW hK
  have hWlt : ∀ i, W.getD i 0 < 4294967296 := fun i => by rw [hWe]; exact sched_lt _ _ _
  replace hWlt := hid hWlt
  replace hWe := hid hWe
  replace hK := hid hK
  have hk0 : Hid (Kept (fun k => k = Wb) w w) := Kept.refl _ _
  replace hW := hid hW
  dsimp only
  rw [show frag Tryd.f59 6 = Code.loop _ from rfl]
  go_loopw [10] (fun v wr => ∃ i : Nat, 16 ≤ i ∧ i ≤ 64 ∧ v = .int .i64 (i : Nat) ∧ Hid (RowAt wr Wb 93 (rowA 64 (wordsF W i))) ∧ Hid (Kept (fun k => k = Wb) w wr)) (fun v _ => 64 - (intOf v).toNat)
  case atStart => exact ⟨16, by omega, by omega, rfl, hW, hk0⟩
  case round =>
    clear hW hk0
    obtain ⟨i, hi16, hi, rfl, hW, hk⟩ := hrel
    by_cases h64 : i = 64
    · subst h64
      go_wp2
      exact hK.out _ _ _ _ _ _ _ _ _ _ _ _ _ _ _ _ _ _ _ _ _ _ _ _ _ _ _ _ _ _ _ _ _ _ _ _ _ _ _ _ _ _ _ _ _ _ _ _ _ _ _ _ _ _ _ _ _ _ _ _ _ _ _ _ _ _ hW.out hk.out
    · have hlt : i < 64 := by omega
      have hlti : (i : Int) < 64 := by omega
      have hWi : W.getD i 0 = nextW W i := by rw [hWe.out, sched_next _ _ _ hlt (by omega)]
      obtain ⟨j16, h16e⟩ : ∃ j, i = j + 16 := ⟨i - 16, by omega⟩
      have q16 : (i : Int) - 16 = (j16 : Int) := by omega
      have r16 : IntKind.i64.wrap ((i : Int) - 16) = (j16 : Int) := by rw [IntKind.wrap_i64]; omega
      obtain ⟨j15, h15e⟩ : ∃ j, i = j + 15 := ⟨i - 15, by omega⟩
      have q15 : (i : Int) - 15 = (j15 : Int) := by omega
      have r15 : IntKind.i64.wrap ((i : Int) - 15) = (j15 : Int) := by rw [IntKind.wrap_i64]; omega
      obtain ⟨j7, h7e⟩ : ∃ j, i = j + 7 := ⟨i - 7, by omega⟩
      have q7 : (i : Int) - 7 = (j7 : Int) := by omega
      have r7' : IntKind.i64.wrap ((i : Int) - 7) = (j7 : Int) := by rw [IntKind.wrap_i64]; omega
      obtain ⟨j2, h2e⟩ : ∃ j, i = j + 2 := ⟨i - 2, by omega⟩
      have q2 : (i : Int) - 2 = (j2 : Int) := by omega
      have r2' : IntKind.i64.wrap ((i : Int) - 2) = (j2 : Int) := by rw [IntKind.wrap_i64]; omega
      have p16 : (j16 : Int) < 64 := by omega
      have p15 : (j15 : Int) < 64 := by omega
      have p7 : (j7 : Int) < 64 := by omega
      have p2 : (j2 : Int) < 64 := by omega
      obtain ⟨a15, ha15⟩ : ∃ a, a = W.getD j15 0 := ⟨_, rfl⟩
      obtain ⟨a2, ha2⟩ : ∃ a, a = W.getD j2 0 := ⟨_, rfl⟩
      obtain ⟨a16, ha16⟩ : ∃ a, a = W.getD j16 0 := ⟨_, rfl⟩
      obtain ⟨a7, ha7⟩ : ∃ a, a = W.getD j7 0 := ⟨_, rfl⟩
      have l15 : a15 < 4294967296 := by rw [ha15]; exact hWlt.out _
      have l2 : a2 < 4294967296 := by rw [ha2]; exact hWlt.out _
      have x15 : ∀ q : Sub wr, q.x.cell? ⟨Wb, j15, none⟩ = some (.int .u32 (a15 : Nat)) := fun q => by rw [ha15]; exact q.cell hW.out (wordsF_get W 64 i j15 (by omega) (by omega))
      have T7 := fun w => rotr_lit a15 7 l15 (by decide) (by decide) w
      have T18 := fun w => rotr_lit a15 18 l15 (by decide) (by decide) w
      have T17 := fun w => rotr_lit a2 17 l2 (by decide) (by decide) w
      have T19 := fun w => rotr_lit a2 19 l2 (by decide) (by decide) w
      obtain ⟨r7, hr7⟩ : ∃ r, r = rot a15 7 := ⟨_, rfl⟩
      obtain ⟨r18, hr18⟩ : ∃ r, r = rot a15 18 := ⟨_, rfl⟩
      obtain ⟨r17, hr17⟩ : ∃ r, r = rot a2 17 := ⟨_, rfl⟩
      obtain ⟨r19, hr19⟩ : ∃ r, r = rot a2 19 := ⟨_, rfl⟩
      rw [← hr7] at T7
      rw [← hr18] at T18
      rw [← hr17] at T17
      rw [← hr19] at T19
      have es0 := sm0_bits a15 l15
      have es1 := sm1_bits a2 l2
      rw [← hr7, ← hr18] at es0
      rw [← hr17, ← hr19] at es1
      obtain ⟨s0, hs0⟩ : ∃ r, r = sm0 a15 := ⟨_, rfl⟩
      obtain ⟨s1, hs1⟩ : ∃ r, r = sm1 a2 := ⟨_, rfl⟩
      rw [← hs0] at es0
      rw [← hs1] at es1
      have eV := nextW_int W i a16 a15 a7 a2 s0 s1 (by rw [ha16]; congr 1; omega) (by rw [hs0, ha15]; congr 2; omega) (by rw [ha7]; congr 1; omega) (by rw [hs1, ha2]; congr 2; omega)
      rw [← hWi] at eV
      obtain ⟨v, hv⟩ : ∃ v, v = W.getD i 0 := ⟨_, rfl⟩
      rw [← hv] at eV
      replace eV := hid eV
      replace hv := hid hv
      replace hs0 := hid hs0
      replace hs1 := hid hs1
      replace T7 := hid T7
      replace T18 := hid T18
      replace T17 := hid T17
      replace T19 := hid T19
      replace l15 := hid l15
      replace l2 := hid l2
      replace hr7 := hid hr7
      replace hr18 := hid hr18
      replace hr17 := hid hr17
      replace hr19 := hid hr19
      replace ha15 := hid ha15
      replace ha16 := hid ha16
      replace ha7 := hid ha7
      replace ha2 := hid ha2
      replace h16e := hid h16e
      replace h15e := hid h15e
      replace h7e := hid h7e
      replace h2e := hid h2e
      replace hWi := hid hWi
      go_wp2
      refine wp_region_sub (by kernel_rfl) (by kernel_rfl) ?_
      repeat (go_big_quiet_step (first
        | (go_at_call 80; with_reducible refine Sub.call _ (T7.out _))
        | (go_at_call 80; with_reducible refine Sub.call _ (T18.out _))))
      refine wpQuiet_nil ?_
      intro q
      clear x15
      have k2 := hW.out.below q.h hW.out.lt
      have kk := hk.out.below q.h
      obtain ⟨X, hX⟩ : ∃ X, X = q.x := ⟨_, rfl⟩
      rw [← hX] at k2 kk ⊢
      clear hX q hW hk
      replace k2 := hid k2
      replace kk := hid kk
      have x2 : ∀ q : Sub X, q.x.cell? ⟨Wb, j2, none⟩ = some (.int .u32 (a2 : Nat)) := fun q => by rw [ha2.out]; exact q.cell k2.out (wordsF_get W 64 i j2 (by have := h2e.out; omega) (by omega))
      go_wp2
      refine wp_region_sub (by kernel_rfl) (by kernel_rfl) ?_
      repeat (go_big_quiet_step (first
        | (go_at_call 80; with_reducible refine Sub.call _ (T17.out _))
        | (go_at_call 80; with_reducible refine Sub.call _ (T19.out _))))
      refine wpQuiet_nil ?_
      intro q
      clear x2
      have y2 := k2.out.below q.h k2.out.lt
      have yk := kk.out.below q.h
      obtain ⟨Y, hY⟩ : ∃ Y, Y = q.x := ⟨_, rfl⟩
      rw [← hY] at y2 yk ⊢
      clear hY q k2 kk
      replace y2 := hid y2
      replace yk := hid yk
      have x16 : ∀ q : Sub Y, q.x.cell? ⟨Wb, j16, none⟩ = some (.int .u32 (a16 : Nat)) := fun q => by rw [ha16.out]; exact q.cell y2.out (wordsF_get W 64 i j16 (by have := h16e.out; omega) (by omega))
      have x7 : ∀ q : Sub Y, q.x.cell? ⟨Wb, j7, none⟩ = some (.int .u32 (a7 : Nat)) := fun q => by rw [ha7.out]; exact q.cell y2.out (wordsF_get W 64 i j7 (by have := h7e.out; omega) (by omega))
      go_wp2
      refine wp_region_last (by kernel_rfl) (by kernel_rfl) (by kernel_rfl) 18 _ rfl rfl ?_
      simp only [muted, mute]
      repeat (go_big_quiet_step (fail))
      refine wpQuiet_nil ?_
      intro q
      have z2 := y2.out.below q.h y2.out.lt
      have zk := yk.out.below q.h
      obtain ⟨Z, hZ⟩ : ∃ Z, Z = q.x := ⟨_, rfl⟩
      rw [← hZ] at z2 zk ⊢
      clear hZ q x16 x7 y2 yk
      have hcf : Z.cell? ⟨Wb, i, none⟩ = some (.int .u32 0) := z2.cell (by rw [rowA_get _ _ _ (by omega)]; simp [wordsF])
      have hfr := z2.free i
      unfold Oper.wp
      simp [go_sem, hcf, hfr]
      rw [eV.out]
      have n2 := (z2.set i (.int .u32 (v : Nat))).eqA (A' := rowA 64 (wordsF W (i + 1))) (by rw [hv.out]; exact wordsF_set W 64 i hlt)
      have nk := zk.setCell ⟨Wb, i, none⟩ (.inl rfl) (.int .u32 (v : Nat))
      obtain ⟨V, hV⟩ : ∃ V, V = Z.setCell ⟨Wb, i, none⟩ (.int .u32 (v : Nat)) := ⟨_, rfl⟩
      rw [← hV] at n2 nk ⊢
      clear hV z2 zk hcf hfr
      replace n2 := hid n2
      replace nk := hid nk
      go_wp2
      go_roundw
      case rel => exact ⟨i + 1, by omega, by omega, by go_num, n2, nk⟩
      case measure => simp [intOf]; omega
end Go.Proofs.YtbbjoahloghpkaaDoor
