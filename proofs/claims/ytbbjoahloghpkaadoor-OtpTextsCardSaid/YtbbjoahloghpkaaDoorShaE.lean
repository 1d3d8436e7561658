/- The document's sum, its sixth loop (the words added): the walk; its last loop (the bytes). -/
import Derived.Test.YtbbjoahloghpkaaDoorShaB
import Derived.Test.YtbbjoahloghpkaaDoorSha9
import Derived.Test.YtbbjoahloghpkaaDoorFrag
namespace Go.Proofs.YtbbjoahloghpkaaDoor
open Go Go.RowKit
set_option linter.unusedSimpArgs false

set_option maxRecDepth 10000000 in
set_option maxHeartbeats 4000000 in
theorem refsum_plus (s t : St) (Hb V : Nat) (w : World) {u0 u1 u2 u3 u4 u6 u7 u8 u9 u10 u11 u12 u14 u15 u16 u17 u18 u19 u21 u22 u23 u24 u25 u26 u27 u28 u29 u30 u31 u32 u33 u34 u35 u36 u37 u38 u39 u40 u41 u42 u43 u44 u45 u46 u47 u48 u49 u50 u51 u52 u53 u54 u55 u56 u57 u58 u59 u60 u61 u62 u63 u64 u65 u66 u67 u68 u69 u70 u71 u72 u73 u74 u75 u76 u77 u78 u79 u80 u81 u82 u83 u84 u85 u86 u87 u88 u89 u90 u91 u92 u93 u94 u95 u96 u97 u98 u99 u100 u101 u102 u103 u104 u105 u106 u107 u108 u109 u110 u111 u112 u113 u114 u115 u116 u117 u118 u119 u120 u121 u122 u123 u124 u125 u126 u127 u128 u129 u130 u131 u132 u133 u134 u135 u136 u137 u138 u139 u140 u141 u142 u143 u144 u145 u146 u147 u148 u149 u150 u151 u152 u153 u154 u155 u156 u157 u158 u159 u160 u161 u162 u163 u164 u165 u166 u167 u168 u169 u170 u171 u172 u173 u174 u175 u176 u177 u178 u179 u180 u181 u182 u183 u184 u185 u186 u187 u188 u189 u190 u191 u192 u193 u194 u195 u196 u197 u198 u199 u200 u201 u202 u203 u204 u205 u206 u207 u208 u209 u210 u211 u212 u213 u214 u215 u216 u217 u218 u219 u220 u221 u222 u223 u224 u225 u226 u227 u228 u229 u230 u231 u232 u233 u234 u235 u236 u237 u238 u239 u240 u241 u242 u243 u244 u245 u246 u247 u248 u249 u250 u251 u252 u253 u254 u255 u256 u257 u258 u259 u260 u261 u262 u263 u264 u265 u266 u267 u268 u269 u270 u271 u272 u273 u274 u275 u276 u277 u278 u279 u280 u281 u282 u283 u284 u285 u286 u287 u288 u289 u290 u291 u292 u293 u294 u295 u296 u297 : Value} (Q : Exit → Act → World → Prop)
    (hH : RowAt w Hb 93 s.cells) (hV : RowAt w V 93 t.cells) (hne : V ≠ Hb)
    (hK : ∀ (v20 v264 v265 v266 v267 v268 v269 v270 v271 v272 v273 v274 v275 v276 v277 v278 v279 : Value) (w' : World), RowAt w' Hb 93 (plus s t).cells → Kept (fun k => k = Hb) w w' → Q .normal { tmps := #[u0, u1, u2, u3, u4, .slice (some ⟨Hb, 0, none⟩) 8 8, u6, u7, u8, u9, u10, u11, u12, .slice (some ⟨V, 0, none⟩) 8 8, u14, u15, u16, u17, u18, u19, v20, u21, u22, u23, u24, u25, u26, u27, u28, u29, u30, u31, u32, u33, u34, u35, u36, u37, u38, u39, u40, u41, u42, u43, u44, u45, u46, u47, u48, u49, u50, u51, u52, u53, u54, u55, u56, u57, u58, u59, u60, u61, u62, u63, u64, u65, u66, u67, u68, u69, u70, u71, u72, u73, u74, u75, u76, u77, u78, u79, u80, u81, u82, u83, u84, u85, u86, u87, u88, u89, u90, u91, u92, u93, u94, u95, u96, u97, u98, u99, u100, u101, u102, u103, u104, u105, u106, u107, u108, u109, u110, u111, u112, u113, u114, u115, u116, u117, u118, u119, u120, u121, u122, u123, u124, u125, u126, u127, u128, u129, u130, u131, u132, u133, u134, u135, u136, u137, u138, u139, u140, u141, u142, u143, u144, u145, u146, u147, u148, u149, u150, u151, u152, u153, u154, u155, u156, u157, u158, u159, u160, u161, u162, u163, u164, u165, u166, u167, u168, u169, u170, u171, u172, u173, u174, u175, u176, u177, u178, u179, u180, u181, u182, u183, u184, u185, u186, u187, u188, u189, u190, u191, u192, u193, u194, u195, u196, u197, u198, u199, u200, u201, u202, u203, u204, u205, u206, u207, u208, u209, u210, u211, u212, u213, u214, u215, u216, u217, u218, u219, u220, u221, u222, u223, u224, u225, u226, u227, u228, u229, u230, u231, u232, u233, u234, u235, u236, u237, u238, u239, u240, u241, u242, u243, u244, u245, u246, u247, u248, u249, u250, u251, u252, u253, u254, u255, u256, u257, u258, u259, u260, u261, u262, u263, v264, v265, v266, v267, v268, v269, v270, v271, v272, v273, v274, v275, v276, v277, v278, v279, u280, u281, u282, u283, u284, u285, u286, u287, u288, u289, u290, u291, u292, u293, u294, u295, u296, u297], defers := [] } w') :
    (frag Tryd.f59 10).wp Tryd.prog (Exit.inBlock 10 Q) { tmps := #[u0, u1, u2, u3, u4, .slice (some ⟨Hb, 0, none⟩) 8 8, u6, u7, u8, u9, u10, u11, u12, .slice (some ⟨V, 0, none⟩) 8 8, u14, u15, u16, u17, u18, u19, .int .i64 0, u21, u22, u23, u24, u25, u26, u27, u28, u29, u30, u31, u32, u33, u34, u35, u36, u37, u38, u39, u40, u41, u42, u43, u44, u45, u46, u47, u48, u49, u50, u51, u52, u53, u54, u55, u56, u57, u58, u59, u60, u61, u62, u63, u64, u65, u66, u67, u68, u69, u70, u71, u72, u73, u74, u75, u76, u77, u78, u79, u80, u81, u82, u83, u84, u85, u86, u87, u88, u89, u90, u91, u92, u93, u94, u95, u96, u97, u98, u99, u100, u101, u102, u103, u104, u105, u106, u107, u108, u109, u110, u111, u112, u113, u114, u115, u116, u117, u118, u119, u120, u121, u122, u123, u124, u125, u126, u127, u128, u129, u130, u131, u132, u133, u134, u135, u136, u137, u138, u139, u140, u141, u142, u143, u144, u145, u146, u147, u148, u149, u150, u151, u152, u153, u154, u155, u156, u157, u158, u159, u160, u161, u162, u163, u164, u165, u166, u167, u168, u169, u170, u171, u172, u173, u174, u175, u176, u177, u178, u179, u180, u181, u182, u183, u184, u185, u186, u187, u188, u189, u190, u191, u192, u193, u194, u195, u196, u197, u198, u199, u200, u201, u202, u203, u204, u205, u206, u207, u208, u209, u210, u211, u212, u213, u214, u215, u216, u217, u218, u219, u220, u221, u222, u223, u224, u225, u226, u227, u228, u229, u230, u231, u232, u233, u234, u235, u236, u237, u238, u239, u240, u241, u242, u243, u244, u245, u246, u247, u248, u249, u250, u251, u252, u253, u254, u255, u256, u257, u258, u259, u260, u261, u262, u263, u264, u265, u266, u267, u268, u269, u270, u271, u272, u273, u274, u275, u276, u277, u278, u279, u280, u281, u282, u283, u284, u285, u286, u287, u288, u289, u290, u291, u292, u293, u294, u295, u296, u297], defers := [] } w := by
  have hM : Hid (RowAt w Hb 93 (rowA 8 (mixV s t 0))) := hH.eqA (mix_zero s t)
  have hk0 : Hid (Kept (fun k => k = Hb) w w) := Kept.refl _ _
  replace hK := hid hK
  replace hV := hid hV
  clear hH
  dsimp only
  rw [show frag Tryd.f59 10 = Code.loop _ from rfl]
  go_loopw [20] (fun v wr => ∃ i : Nat, i ≤ 8 ∧ v = .int .i64 (i : Nat) ∧ Hid (RowAt wr Hb 93 (rowA 8 (mixV s t i))) ∧ Hid (RowAt wr V 93 t.cells) ∧ Hid (Kept (fun k => k = Hb) w wr)) (fun v _ => 8 - (intOf v).toNat)
  case atStart => exact ⟨0, by omega, rfl, hM, hV, hk0⟩
  case round =>
    clear hM hk0 hV
    obtain ⟨i, hi, rfl, hM, hV, hk⟩ := hrel
    by_cases h8 : i = 8
    · subst h8
      go_wp2
      exact hK.out _ _ _ _ _ _ _ _ _ _ _ _ _ _ _ _ _ _ (hM.out.eqA (mix_all s t)) hk.out
    · have hlt8 : i < 8 := by omega
      have hlt8i : (i : Int) < 8 := by omega
      obtain ⟨sv, hsv⟩ : ∃ v, v = s.nth i := ⟨_, rfl⟩
      obtain ⟨tv, htv⟩ : ∃ v, v = t.nth i := ⟨_, rfl⟩
      obtain ⟨v, hv⟩ : ∃ v, v = ad sv tv := ⟨_, rfl⟩
      have hvi : ((sv : Int) + (tv : Int)) % 4294967296 = (v : Int) := by rw [hv]; unfold ad; simp
      have es : ∀ q : Sub wr, q.x.cell? ⟨Hb, i, none⟩ = some (.int .u32 (sv : Nat)) := fun q => q.cell hM.out (by rw [rowA_get _ _ _ hlt8, hsv]; simp [mixV])
      have et : ∀ q : Sub wr, q.x.cell? ⟨V, i, none⟩ = some (.int .u32 (tv : Nat)) := fun q => q.cell hV.out (by rw [htv]; exact cells_nth t hlt8)
      replace hsv := hid hsv
      replace htv := hid htv
      replace hv := hid hv
      go_wp2
      refine wp_region_last (by kernel_rfl) (by kernel_rfl) (by kernel_rfl) 12 _ rfl rfl ?_
      simp only [muted, mute]
      repeat (go_big_quiet_step (fail))
      refine wpQuiet_nil ?_
      intro q
      have yM := hM.out.below q.h hM.out.lt
      have yV := hV.out.below q.h hV.out.lt
      have yk := hk.out.below q.h
      obtain ⟨Y, hY⟩ : ∃ Y, Y = q.x := ⟨_, rfl⟩
      rw [← hY] at yM yV yk ⊢
      clear hY q es et
      have hcf : Y.cell? ⟨Hb, i, none⟩ = some (.int .u32 (sv : Nat)) := yM.cell (by rw [rowA_get _ _ _ hlt8, hsv.out]; simp [mixV])
      have hfr := yM.free i
      unfold Oper.wp
      simp [go_sem, hcf, hfr]
      rw [hvi]
      have nM := (yM.set i (.int .u32 (v : Nat))).eqA (A' := rowA 8 (mixV s t (i + 1))) (by rw [hv.out, hsv.out, htv.out]; exact mix_set s t i hlt8)
      have nV := yV.other ⟨Hb, i, none⟩ (.int .u32 (v : Nat)) hne
      have nk := yk.setCell ⟨Hb, i, none⟩ (.inl rfl) (.int .u32 (v : Nat))
      obtain ⟨Z, hZ⟩ : ∃ Z, Z = Y.setCell ⟨Hb, i, none⟩ (.int .u32 (v : Nat)) := ⟨_, rfl⟩
      rw [← hZ] at nM nV nk ⊢
      clear hZ yM yV yk hcf hfr hM hV hk
      replace nM := hid nM
      replace nV := hid nV
      replace nk := hid nk
      go_wp2
      go_roundw
      case rel => exact ⟨i + 1, by omega, by go_num, nM, nV, nk⟩
      case measure => simp [intOf]; omega

/-- A sum's first k bytes. -/
def outB (t : St) (k j : Nat) : Value := .int .u8 (((if j < k then shaByte t j else 0 : UInt8).toNat : Nat) : Int)
theorem outB_zero (t : St) : rowA 32 (outB t 0) = rowA 32 (outV t 0) := rowA_ext fun j hj => by simp [outB, outV]
theorem outB_all (t : St) : rowA 32 (outB t 32) = rowA 32 fun j => .int .u8 ((shaByte t j).toNat : Int) := rowA_ext fun j hj => by unfold outB; rw [if_pos hj]
theorem outB_set (t : St) (k : Nat) : (rowA 32 (outB t k)).setIfInBounds k (.int .u8 ((shaByte t k).toNat : Int)) = rowA 32 (outB t (k + 1)) := by
  rw [rowA_set]
  refine rowA_ext fun j hj => ?_
  unfold outB
  by_cases e : j = k
  · subst e; rw [if_pos rfl, if_pos (by omega)]
  · rw [if_neg e]
    by_cases e2 : j < k
    · rw [if_pos e2, if_pos (by omega)]
    · rw [if_neg e2, if_neg (by omega)]
theorem shaByte_shift (t : St) (k : Nat) : ((t.nth (k / 4) : Nat) : Int) / 2 ^ (24 - 8 * (k % 4)) % 256 = ((shaByte t k).toNat : Int) := by
  unfold shaByte
  rw [byteAt_toNat, ← pow256, show 8 * (3 - k % 4) = 24 - 8 * (k % 4) by omega]
  simp
set_option maxRecDepth 10000000 in
set_option maxHeartbeats 4000000 in
theorem refsum_bytes (t : St) (ht : t.Ok) (Hb O : Nat) (w : World) {u0 u1 u2 u3 u4 u6 u7 u8 u9 u10 u11 u12 u13 u14 u15 u16 u17 u18 u19 u20 u23 u24 u25 u26 u27 u28 u29 u30 u31 u32 u33 u34 u35 u36 u37 u38 u39 u40 u41 u42 u43 u44 u45 u46 u47 u48 u49 u50 u51 u52 u53 u54 u55 u56 u57 u58 u59 u60 u61 u62 u63 u64 u65 u66 u67 u68 u69 u70 u71 u72 u73 u74 u75 u76 u77 u78 u79 u80 u81 u82 u83 u84 u85 u86 u87 u88 u89 u90 u91 u92 u93 u94 u95 u96 u97 u98 u99 u100 u101 u102 u103 u104 u105 u106 u107 u108 u109 u110 u111 u112 u113 u114 u115 u116 u117 u118 u119 u120 u121 u122 u123 u124 u125 u126 u127 u128 u129 u130 u131 u132 u133 u134 u135 u136 u137 u138 u139 u140 u141 u142 u143 u144 u145 u146 u147 u148 u149 u150 u151 u152 u153 u154 u155 u156 u157 u158 u159 u160 u161 u162 u163 u164 u165 u166 u167 u168 u169 u170 u171 u172 u173 u174 u175 u176 u177 u178 u179 u180 u181 u182 u183 u184 u185 u186 u187 u188 u189 u190 u191 u192 u193 u194 u195 u196 u197 u198 u199 u200 u201 u202 u203 u204 u205 u206 u207 u208 u209 u210 u211 u212 u213 u214 u215 u216 u217 u218 u219 u220 u221 u222 u223 u224 u225 u226 u227 u228 u229 u230 u231 u232 u233 u234 u235 u236 u237 u238 u239 u240 u241 u242 u243 u244 u245 u246 u247 u248 u249 u250 u251 u252 u253 u254 u255 u256 u257 u258 u259 u260 u261 u262 u263 u264 u265 u266 u267 u268 u269 u270 u271 u272 u273 u274 u275 u276 u277 u278 u279 u280 u281 u282 u283 u284 u285 u286 u287 u288 u289 u290 u291 u292 u293 u294 u295 u296 u297 : Value} (Q : Exit → Act → World → Prop)
    (hH : RowAt w Hb 93 t.cells) (hO : RowAt w O 86 (rowA 32 (outV t 0))) (hne : Hb ≠ O)
    (hK : ∀ (v22 v280 v281 v282 v283 v284 v285 v286 v287 v288 v289 v290 v291 v292 v293 v294 v295 v296 : Value) (w' : World), RowAt w' O 86 (rowA 32 fun j => .int .u8 ((shaByte t j).toNat : Int)) → Kept (fun k => k = O) w w' → Q .normal { tmps := #[u0, u1, u2, u3, u4, .slice (some ⟨Hb, 0, none⟩) 8 8, u6, u7, u8, u9, u10, u11, u12, u13, u14, u15, u16, u17, u18, u19, u20, .pointer (some ⟨O, 0, none⟩), v22, u23, u24, u25, u26, u27, u28, u29, u30, u31, u32, u33, u34, u35, u36, u37, u38, u39, u40, u41, u42, u43, u44, u45, u46, u47, u48, u49, u50, u51, u52, u53, u54, u55, u56, u57, u58, u59, u60, u61, u62, u63, u64, u65, u66, u67, u68, u69, u70, u71, u72, u73, u74, u75, u76, u77, u78, u79, u80, u81, u82, u83, u84, u85, u86, u87, u88, u89, u90, u91, u92, u93, u94, u95, u96, u97, u98, u99, u100, u101, u102, u103, u104, u105, u106, u107, u108, u109, u110, u111, u112, u113, u114, u115, u116, u117, u118, u119, u120, u121, u122, u123, u124, u125, u126, u127, u128, u129, u130, u131, u132, u133, u134, u135, u136, u137, u138, u139, u140, u141, u142, u143, u144, u145, u146, u147, u148, u149, u150, u151, u152, u153, u154, u155, u156, u157, u158, u159, u160, u161, u162, u163, u164, u165, u166, u167, u168, u169, u170, u171, u172, u173, u174, u175, u176, u177, u178, u179, u180, u181, u182, u183, u184, u185, u186, u187, u188, u189, u190, u191, u192, u193, u194, u195, u196, u197, u198, u199, u200, u201, u202, u203, u204, u205, u206, u207, u208, u209, u210, u211, u212, u213, u214, u215, u216, u217, u218, u219, u220, u221, u222, u223, u224, u225, u226, u227, u228, u229, u230, u231, u232, u233, u234, u235, u236, u237, u238, u239, u240, u241, u242, u243, u244, u245, u246, u247, u248, u249, u250, u251, u252, u253, u254, u255, u256, u257, u258, u259, u260, u261, u262, u263, u264, u265, u266, u267, u268, u269, u270, u271, u272, u273, u274, u275, u276, u277, u278, u279, v280, v281, v282, v283, v284, v285, v286, v287, v288, v289, v290, v291, v292, v293, v294, v295, v296, u297], defers := [] } w') :
    (frag Tryd.f59 12).wp Tryd.prog (Exit.inBlock 12 Q) { tmps := #[u0, u1, u2, u3, u4, .slice (some ⟨Hb, 0, none⟩) 8 8, u6, u7, u8, u9, u10, u11, u12, u13, u14, u15, u16, u17, u18, u19, u20, .pointer (some ⟨O, 0, none⟩), .int .i64 0, u23, u24, u25, u26, u27, u28, u29, u30, u31, u32, u33, u34, u35, u36, u37, u38, u39, u40, u41, u42, u43, u44, u45, u46, u47, u48, u49, u50, u51, u52, u53, u54, u55, u56, u57, u58, u59, u60, u61, u62, u63, u64, u65, u66, u67, u68, u69, u70, u71, u72, u73, u74, u75, u76, u77, u78, u79, u80, u81, u82, u83, u84, u85, u86, u87, u88, u89, u90, u91, u92, u93, u94, u95, u96, u97, u98, u99, u100, u101, u102, u103, u104, u105, u106, u107, u108, u109, u110, u111, u112, u113, u114, u115, u116, u117, u118, u119, u120, u121, u122, u123, u124, u125, u126, u127, u128, u129, u130, u131, u132, u133, u134, u135, u136, u137, u138, u139, u140, u141, u142, u143, u144, u145, u146, u147, u148, u149, u150, u151, u152, u153, u154, u155, u156, u157, u158, u159, u160, u161, u162, u163, u164, u165, u166, u167, u168, u169, u170, u171, u172, u173, u174, u175, u176, u177, u178, u179, u180, u181, u182, u183, u184, u185, u186, u187, u188, u189, u190, u191, u192, u193, u194, u195, u196, u197, u198, u199, u200, u201, u202, u203, u204, u205, u206, u207, u208, u209, u210, u211, u212, u213, u214, u215, u216, u217, u218, u219, u220, u221, u222, u223, u224, u225, u226, u227, u228, u229, u230, u231, u232, u233, u234, u235, u236, u237, u238, u239, u240, u241, u242, u243, u244, u245, u246, u247, u248, u249, u250, u251, u252, u253, u254, u255, u256, u257, u258, u259, u260, u261, u262, u263, u264, u265, u266, u267, u268, u269, u270, u271, u272, u273, u274, u275, u276, u277, u278, u279, u280, u281, u282, u283, u284, u285, u286, u287, u288, u289, u290, u291, u292, u293, u294, u295, u296, u297], defers := [] } w := by
  have hM : Hid (RowAt w O 86 (rowA 32 (outB t 0))) := hO.eqA (outB_zero t).symm
  have hk0 : Hid (Kept (fun k => k = O) w w) := Kept.refl _ _
  replace hK := hid hK
  replace hH := hid hH
  replace ht := hid ht
  clear hO
  dsimp only
  rw [show frag Tryd.f59 12 = Code.loop _ from rfl]
  go_loopw [22] (fun v wr => ∃ i : Nat, i ≤ 32 ∧ v = .int .i64 (i : Nat) ∧ Hid (RowAt wr O 86 (rowA 32 (outB t i))) ∧ Hid (RowAt wr Hb 93 t.cells) ∧ Hid (Kept (fun k => k = O) w wr)) (fun v _ => 32 - (intOf v).toNat)
  case atStart => exact ⟨0, by omega, rfl, hM, hH, hk0⟩
  case round =>
    clear hM hk0 hH
    obtain ⟨i, hi, rfl, hM, hH, hk⟩ := hrel
    by_cases h32 : i = 32
    · subst h32
      go_wp2
      exact hK.out _ _ _ _ _ _ _ _ _ _ _ _ _ _ _ _ _ _ _ (hM.out.eqA (outB_all t)) hk.out
    · have hlt : i < 32 := by omega
      have hlti : (i : Int) < 32 := by omega
      obtain ⟨a, ha⟩ : ∃ a, a = i / 4 := ⟨_, rfl⟩
      have ha1 : (i : Int) / 4 = (a : Int) := by omega
      have ha8 : a < 8 := by omega
      have ha8i : (a : Int) < 8 := by omega
      obtain ⟨m, hm⟩ : ∃ m, m = 24 - 8 * (i % 4) := ⟨_, rfl⟩
      have hm1 : 24 - 8 * ((i : Int) % 4) = (m : Int) := by omega
      have hm24 : (m : Int) ≤ 24 := by omega
      have hx := shaByte_shift t i
      rw [← ha, ← hm] at hx
      obtain ⟨x, hxe⟩ : ∃ x, x = t.nth a := ⟨_, rfl⟩
      rw [← hxe] at hx
      have hcell : wr.cell? ⟨Hb, a, none⟩ = some (.int .u32 (x : Nat)) := hH.out.cell (by rw [hxe]; exact cells_nth t ha8)
      have hcf : wr.cell? ⟨O, i, none⟩ = some (.int .u8 0) := hM.out.cell (by rw [rowA_get _ _ _ hlt]; simp [outB])
      have hfr := hM.out.free i
      have hxl : x < 4294967296 := by rw [hxe]; exact nth_lt ht.out a
      replace hxe := hid hxe
      replace ha := hid ha
      replace hm := hid hm
      go_wp2
      go_roundw
      case rel => exact ⟨i + 1, by omega, by go_num, (hM.out.set i _).eqA (outB_set t i), hH.out.other _ _ hne, hk.out.setCell _ (.inl rfl) _⟩
      case measure => simp [intOf]; omega
end Go.Proofs.YtbbjoahloghpkaaDoor
