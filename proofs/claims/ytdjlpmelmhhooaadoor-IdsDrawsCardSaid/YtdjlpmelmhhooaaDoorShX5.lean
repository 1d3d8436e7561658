/- The document's sum: its loops. -/
import Derived.Test.YtdjlpmelmhhooaaDoorSha7
import Derived.Test.YtdjlpmelmhhooaaDoorLibA
import Derived.Test.YtdjlpmelmhhooaaDoorShX4
namespace Go.Proofs.YtdjlpmelmhhooaaDoor
section
open Go Go.RowKit
set_option linter.unusedSimpArgs false

theorem rotr_lit (x n : Nat) (hx : x < 4294967296) (hn : 0 < n) (hn2 : n < 32) (w : World) : Calls Tryd.prog 59 #[.int .u32 x, .int .i64 (OfNat.ofNat n)] w fun e w' => e = .returned (.int .u32 (rot x n : Nat)) ∧ Below w.heap.size w w' := rotr_any x n hx hn hn2 w
set_option maxRecDepth 10000000 in
set_option maxHeartbeats 4000000 in
theorem refsum_words (b : List UInt8) (Wb : Nat) (w : World) {u0 u1 u2 u3 u4 u5 u6 u8 u9 u11 u12 u13 u14 u15 u16 u17 u18 u19 u20 u21 u22 u23 u24 u25 u26 u27 u28 u29 u30 u31 u32 u33 u34 u35 u36 u37 u38 u39 u40 u41 u42 u43 u44 u45 u46 u47 u48 u49 u50 u51 u52 u53 u54 u55 u56 u57 u58 u59 u60 u61 u62 u63 u64 u65 u66 u67 u68 u69 u70 u71 u72 u73 u74 u75 u76 u77 u78 u79 u80 u81 u82 u83 u84 u85 u86 u87 u88 u89 u90 u91 u92 u93 u94 u95 u96 u97 u98 u99 u100 u101 u102 u103 u104 u105 u106 u107 u108 u109 u110 u111 u112 u113 u114 u115 u116 u117 u118 u119 u120 u121 u122 u123 u124 u125 u126 u127 u128 u129 u130 u131 u132 u133 u134 u135 u136 u137 u138 u139 u140 u141 u142 u143 u144 u145 u146 u147 u148 u149 u150 u151 u152 u153 u154 u155 u156 u157 u158 u159 u160 u161 u162 u163 u164 u165 u166 u167 u168 u169 u170 u171 u172 u173 u174 u175 u176 u177 u178 u179 u180 u181 u182 u183 u184 u185 u186 u187 u188 u189 u190 u191 u192 u193 u194 u195 u196 u197 u198 u199 u200 u201 u202 u203 u204 u205 u206 u207 u208 u209 u210 u211 u212 u213 u214 u215 u216 u217 u218 u219 u220 u221 u222 u223 u224 u225 u226 u227 u228 u229 u230 u231 u232 u233 u234 u235 u236 u237 u238 u239 u240 u241 u242 u243 u244 u245 u246 u247 u248 u249 u250 u251 u252 u253 u254 u255 u256 u257 u258 u259 u260 u261 u262 u263 u264 u265 u266 u267 u268 u269 u270 u271 u272 u273 u274 u275 u276 u277 u278 u279 u280 u281 u282 u283 u284 u285 u286 u287 u288 u289 u290 u291 u292 u293 u294 u295 u296 u297 : Value} (Q : Exit → Act → World → Prop)
    (hW : RowAt w Wb 77 (rowA 64 (wordsF (sched b 64) 16)))
    (hK : ∀ (v10 v11 v12 v60 v61 v62 v63 v64 v65 v66 v67 v68 v69 v70 v71 v72 v73 v74 v75 v76 v77 v78 v79 v80 v81 v82 v83 v84 v85 v86 v87 v88 v89 v90 v91 v92 v93 v94 v95 v96 v97 v98 v99 v100 v101 v102 v103 v104 v105 v106 v107 v108 v109 v110 v111 v112 v113 v114 v115 v116 v117 v118 v119 v120 v121 : Value) (w' : World), RowAt w' Wb 77 (rowA 64 (wordsF (sched b 64) 64)) → Kept (fun k => k = Wb) w w' → Q .normal { tmps := #[u0, u1, u2, u3, u4, u5, u6, .slice (some ⟨Wb, 0, none⟩) 64 64, u8, u9, v10, v11, v12, u13, u14, u15, u16, u17, u18, u19, u20, u21, u22, u23, u24, u25, u26, u27, u28, u29, u30, u31, u32, u33, u34, u35, u36, u37, u38, u39, u40, u41, u42, u43, u44, u45, u46, u47, u48, u49, u50, u51, u52, u53, u54, u55, u56, u57, u58, u59, v60, v61, v62, v63, v64, v65, v66, v67, v68, v69, v70, v71, v72, v73, v74, v75, v76, v77, v78, v79, v80, v81, v82, v83, v84, v85, v86, v87, v88, v89, v90, v91, v92, v93, v94, v95, v96, v97, v98, v99, v100, v101, v102, v103, v104, v105, v106, v107, v108, v109, v110, v111, v112, v113, v114, v115, v116, v117, v118, v119, v120, v121, u122, u123, u124, u125, u126, u127, u128, u129, u130, u131, u132, u133, u134, u135, u136, u137, u138, u139, u140, u141, u142, u143, u144, u145, u146, u147, u148, u149, u150, u151, u152, u153, u154, u155, u156, u157, u158, u159, u160, u161, u162, u163, u164, u165, u166, u167, u168, u169, u170, u171, u172, u173, u174, u175, u176, u177, u178, u179, u180, u181, u182, u183, u184, u185, u186, u187, u188, u189, u190, u191, u192, u193, u194, u195, u196, u197, u198, u199, u200, u201, u202, u203, u204, u205, u206, u207, u208, u209, u210, u211, u212, u213, u214, u215, u216, u217, u218, u219, u220, u221, u222, u223, u224, u225, u226, u227, u228, u229, u230, u231, u232, u233, u234, u235, u236, u237, u238, u239, u240, u241, u242, u243, u244, u245, u246, u247, u248, u249, u250, u251, u252, u253, u254, u255, u256, u257, u258, u259, u260, u261, u262, u263, u264, u265, u266, u267, u268, u269, u270, u271, u272, u273, u274, u275, u276, u277, u278, u279, u280, u281, u282, u283, u284, u285, u286, u287, u288, u289, u290, u291, u292, u293, u294, u295, u296, u297], defers := [] } w') :
    (frag Tryd.f48 6).wp Tryd.prog (Exit.inBlock 6 Q) { tmps := #[u0, u1, u2, u3, u4, u5, u6, .slice (some ⟨Wb, 0, none⟩) 64 64, u8, u9, .int .i64 16, u11, u12, u13, u14, u15, u16, u17, u18, u19, u20, u21, u22, u23, u24, u25, u26, u27, u28, u29, u30, u31, u32, u33, u34, u35, u36, u37, u38, u39, u40, u41, u42, u43, u44, u45, u46, u47, u48, u49, u50, u51, u52, u53, u54, u55, u56, u57, u58, u59, u60, u61, u62, u63, u64, u65, u66, u67, u68, u69, u70, u71, u72, u73, u74, u75, u76, u77, u78, u79, u80, u81, u82, u83, u84, u85, u86, u87, u88, u89, u90, u91, u92, u93, u94, u95, u96, u97, u98, u99, u100, u101, u102, u103, u104, u105, u106, u107, u108, u109, u110, u111, u112, u113, u114, u115, u116, u117, u118, u119, u120, u121, u122, u123, u124, u125, u126, u127, u128, u129, u130, u131, u132, u133, u134, u135, u136, u137, u138, u139, u140, u141, u142, u143, u144, u145, u146, u147, u148, u149, u150, u151, u152, u153, u154, u155, u156, u157, u158, u159, u160, u161, u162, u163, u164, u165, u166, u167, u168, u169, u170, u171, u172, u173, u174, u175, u176, u177, u178, u179, u180, u181, u182, u183, u184, u185, u186, u187, u188, u189, u190, u191, u192, u193, u194, u195, u196, u197, u198, u199, u200, u201, u202, u203, u204, u205, u206, u207, u208, u209, u210, u211, u212, u213, u214, u215, u216, u217, u218, u219, u220, u221, u222, u223, u224, u225, u226, u227, u228, u229, u230, u231, u232, u233, u234, u235, u236, u237, u238, u239, u240, u241, u242, u243, u244, u245, u246, u247, u248, u249, u250, u251, u252, u253, u254, u255, u256, u257, u258, u259, u260, u261, u262, u263, u264, u265, u266, u267, u268, u269, u270, u271, u272, u273, u274, u275, u276, u277, u278, u279, u280, u281, u282, u283, u284, u285, u286, u287, u288, u289, u290, u291, u292, u293, u294, u295, u296, u297], defers := [] } w := by
  obtain ⟨W, hWe⟩ : ∃ W, W = sched b 64 := ⟨_, rfl⟩
  rw [← hWe] at hW hK
  have hWlt : ∀ i, W.getD i 0 < 4294967296 := fun i => by rw [hWe]; exact sched_lt _ _ _
  replace hWlt := hid hWlt
  replace hWe := hid hWe
  replace hK := hid hK
  have hk0 : Hid (Kept (fun k => k = Wb) w w) := Kept.refl _ _
  replace hW := hid hW
  dsimp only
  rw [show frag Tryd.f48 6 = Code.loop _ from rfl]
  go_loopw [10] (fun v wr => ∃ i : Nat, 16 ≤ i ∧ i ≤ 64 ∧ v = .int .i64 (i : Nat) ∧ Hid (RowAt wr Wb 77 (rowA 64 (wordsF W i))) ∧ Hid (Kept (fun k => k = Wb) w wr)) (fun v _ => 64 - (intOf v).toNat)
  case atStart => exact ⟨16, by omega, by omega, rfl, hW, hk0⟩
  case round =>
    clear hW hk0
    obtain ⟨i, hi16, hi, rfl, hW, hk⟩ := hrel
    by_cases h64 : i = 64
    · subst h64
      go_wp2
      exact hK.out _ _ _ _ _ _ _ _ _ _ _ _ _ _ _ _ _ _ _ _ _ _ _ _ _ _ _ _ _ _ _ _ _ _ _ _ _ _ _ _ _ _ _ _ _ _ _ _ _ _ _ _ _ _ _ _ _ _ _ _ _ _ _ _ _ _ hW.out hk.out
    · have hlt : i < 64 := by omega
      have hlti : (i : Int) < 64 := by omega
      have hWi : W.getD i 0 = nextW W i := by rw [hWe.out, sched_next _ _ _ hlt (by omega)]
      obtain ⟨j16, h16e⟩ : ∃ j, i = j + 16 := ⟨i - 16, by omega⟩
      have q16 : (i : Int) - 16 = (j16 : Int) := by omega
      have r16 : IntKind.i64.wrap ((i : Int) - 16) = (j16 : Int) := by rw [IntKind.wrap_i64]; omega
      obtain ⟨j15, h15e⟩ : ∃ j, i = j + 15 := ⟨i - 15, by omega⟩
      have q15 : (i : Int) - 15 = (j15 : Int) := by omega
      have r15 : IntKind.i64.wrap ((i : Int) - 15) = (j15 : Int) := by rw [IntKind.wrap_i64]; omega
      obtain ⟨j7, h7e⟩ : ∃ j, i = j + 7 := ⟨i - 7, by omega⟩
      have q7 : (i : Int) - 7 = (j7 : Int) := by omega
      have r7' : IntKind.i64.wrap ((i : Int) - 7) = (j7 : Int) := by rw [IntKind.wrap_i64]; omega
      obtain ⟨j2, h2e⟩ : ∃ j, i = j + 2 := ⟨i - 2, by omega⟩
      have q2 : (i : Int) - 2 = (j2 : Int) := by omega
      have r2' : IntKind.i64.wrap ((i : Int) - 2) = (j2 : Int) := by rw [IntKind.wrap_i64]; omega
      have p16 : (j16 : Int) < 64 := by omega
      have p15 : (j15 : Int) < 64 := by omega
      have p7 : (j7 : Int) < 64 := by omega
      have p2 : (j2 : Int) < 64 := by omega
      obtain ⟨a15, ha15⟩ : ∃ a, a = W.getD j15 0 := ⟨_, rfl⟩
      obtain ⟨a2, ha2⟩ : ∃ a, a = W.getD j2 0 := ⟨_, rfl⟩
      obtain ⟨a16, ha16⟩ : ∃ a, a = W.getD j16 0 := ⟨_, rfl⟩
      obtain ⟨a7, ha7⟩ : ∃ a, a = W.getD j7 0 := ⟨_, rfl⟩
      have l15 : a15 < 4294967296 := by rw [ha15]; exact hWlt.out _
      have l2 : a2 < 4294967296 := by rw [ha2]; exact hWlt.out _
      have x15 : ∀ q : Sub wr, q.x.cell? ⟨Wb, j15, none⟩ = some (.int .u32 (a15 : Nat)) := fun q => by rw [ha15]; exact q.cell hW.out (wordsF_get W 64 i j15 (by omega) (by omega))
      have T7 := fun w => rotr_lit a15 7 l15 (by decide) (by decide) w
      have T18 := fun w => rotr_lit a15 18 l15 (by decide) (by decide) w
      have T17 := fun w => rotr_lit a2 17 l2 (by decide) (by decide) w
      have T19 := fun w => rotr_lit a2 19 l2 (by decide) (by decide) w
      obtain ⟨r7, hr7⟩ : ∃ r, r = rot a15 7 := ⟨_, rfl⟩
      obtain ⟨r18, hr18⟩ : ∃ r, r = rot a15 18 := ⟨_, rfl⟩
      obtain ⟨r17, hr17⟩ : ∃ r, r = rot a2 17 := ⟨_, rfl⟩
      obtain ⟨r19, hr19⟩ : ∃ r, r = rot a2 19 := ⟨_, rfl⟩
      rw [← hr7] at T7
      rw [← hr18] at T18
      rw [← hr17] at T17
      rw [← hr19] at T19
      have es0 := sm0_bits a15 l15
      have es1 := sm1_bits a2 l2
      rw [← hr7, ← hr18] at es0
      rw [← hr17, ← hr19] at es1
      obtain ⟨s0, hs0⟩ : ∃ r, r = sm0 a15 := ⟨_, rfl⟩
      obtain ⟨s1, hs1⟩ : ∃ r, r = sm1 a2 := ⟨_, rfl⟩
      rw [← hs0] at es0
      rw [← hs1] at es1
      have eV := nextW_int W i a16 a15 a7 a2 s0 s1 (by rw [ha16]; congr 1; omega) (by rw [hs0, ha15]; congr 2; omega) (by rw [ha7]; congr 1; omega) (by rw [hs1, ha2]; congr 2; omega)
      rw [← hWi] at eV
      obtain ⟨v, hv⟩ : ∃ v, v = W.getD i 0 := ⟨_, rfl⟩
      rw [← hv] at eV
      replace eV := hid eV
      replace hv := hid hv
      replace hs0 := hid hs0
      replace hs1 := hid hs1
      replace T7 := hid T7
      replace T18 := hid T18
      replace T17 := hid T17
      replace T19 := hid T19
      replace l15 := hid l15
      replace l2 := hid l2
      replace hr7 := hid hr7
      replace hr18 := hid hr18
      replace hr17 := hid hr17
      replace hr19 := hid hr19
      replace ha15 := hid ha15
      replace ha16 := hid ha16
      replace ha7 := hid ha7
      replace ha2 := hid ha2
      replace h16e := hid h16e
      replace h15e := hid h15e
      replace h7e := hid h7e
      replace h2e := hid h2e
      replace hWi := hid hWi
      go_wp2
      refine wp_region_sub (by kernel_rfl) (by kernel_rfl) ?_
      repeat (go_big_quiet_step (first
        | (go_at_call 59; with_reducible refine Sub.call _ (T7.out _))
        | (go_at_call 59; with_reducible refine Sub.call _ (T18.out _))))
      refine wpQuiet_nil ?_
      intro q
      clear x15
      have k2 := hW.out.below q.h hW.out.lt
      have kk := hk.out.below q.h
      obtain ⟨X, hX⟩ : ∃ X, X = q.x := ⟨_, rfl⟩
      rw [← hX] at k2 kk ⊢
      clear hX q hW hk
      replace k2 := hid k2
      replace kk := hid kk
      have x2 : ∀ q : Sub X, q.x.cell? ⟨Wb, j2, none⟩ = some (.int .u32 (a2 : Nat)) := fun q => by rw [ha2.out]; exact q.cell k2.out (wordsF_get W 64 i j2 (by have := h2e.out; omega) (by omega))
      go_wp2
      refine wp_region_sub (by kernel_rfl) (by kernel_rfl) ?_
      repeat (go_big_quiet_step (first
        | (go_at_call 59; with_reducible refine Sub.call _ (T17.out _))
        | (go_at_call 59; with_reducible refine Sub.call _ (T19.out _))))
      refine wpQuiet_nil ?_
      intro q
      clear x2
      have y2 := k2.out.below q.h k2.out.lt
      have yk := kk.out.below q.h
      obtain ⟨Y, hY⟩ : ∃ Y, Y = q.x := ⟨_, rfl⟩
      rw [← hY] at y2 yk ⊢
      clear hY q k2 kk
      replace y2 := hid y2
      replace yk := hid yk
      have x16 : ∀ q : Sub Y, q.x.cell? ⟨Wb, j16, none⟩ = some (.int .u32 (a16 : Nat)) := fun q => by rw [ha16.out]; exact q.cell y2.out (wordsF_get W 64 i j16 (by have := h16e.out; omega) (by omega))
      have x7 : ∀ q : Sub Y, q.x.cell? ⟨Wb, j7, none⟩ = some (.int .u32 (a7 : Nat)) := fun q => by rw [ha7.out]; exact q.cell y2.out (wordsF_get W 64 i j7 (by have := h7e.out; omega) (by omega))
      go_wp2
      refine wp_region_last (by kernel_rfl) (by kernel_rfl) (by kernel_rfl) 18 _ rfl rfl ?_
      simp only [muted, mute]
      repeat (go_big_quiet_step (fail))
      refine wpQuiet_nil ?_
      intro q
      have z2 := y2.out.below q.h y2.out.lt
      have zk := yk.out.below q.h
      obtain ⟨Z, hZ⟩ : ∃ Z, Z = q.x := ⟨_, rfl⟩
      rw [← hZ] at z2 zk ⊢
      clear hZ q x16 x7 y2 yk
      have hcf : Z.cell? ⟨Wb, i, none⟩ = some (.int .u32 0) := z2.cell (by rw [rowA_get _ _ _ (by omega)]; simp [wordsF])
      have hfr := z2.free i
      unfold Oper.wp
      simp [go_sem, hcf, hfr]
      rw [eV.out]
      have n2 := (z2.set i (.int .u32 (v : Nat))).eqA (A' := rowA 64 (wordsF W (i + 1))) (by rw [hv.out]; exact wordsF_set W 64 i hlt)
      have nk := zk.setCell ⟨Wb, i, none⟩ (.inl rfl) (.int .u32 (v : Nat))
      obtain ⟨V, hV⟩ : ∃ V, V = Z.setCell ⟨Wb, i, none⟩ (.int .u32 (v : Nat)) := ⟨_, rfl⟩
      rw [← hV] at n2 nk ⊢
      clear hV z2 zk hcf hfr
      replace n2 := hid n2
      replace nk := hid nk
      go_wp2
      go_roundw
      case rel => exact ⟨i + 1, by omega, by omega, by go_num, n2, nk⟩
      case measure => simp [intOf]; omega
end
section
open Go Go.RowKit
set_option linter.unusedSimpArgs false

/-- A byte of a text, by its place. -/
theorem run_index_byte {P : Program} (t : TypeId) (s : ByteArray) (k : IntKind) (i c : Nat) (h : P.underlying t = some .string) (hi : i < s.size) (hc : c = s[i].toNat) (w : World) :
    (Instr.index t (.string s) (.int k (i : Int))).run P w = .ok (.int .u8 (c : Int)) w := by
  subst hc
  have h2 : s[i]? = some s[i] := by simp [hi]
  simp [Instr.index, asIntOf, run_underlying h, h2]
/-- The words so far, and a part of the next one. -/
def partA (W : List Nat) (i x : Nat) : Array Value := (rowA 64 (wordsF W i)).setIfInBounds i (.int .u32 ((x : Nat) : Int))
theorem partA_zero (W : List Nat) (i : Nat) : partA W i 0 = rowA 64 (wordsF W i) := by
  unfold partA
  rw [rowA_set]
  refine rowA_ext fun j hj => ?_
  by_cases e : j = i
  · rw [if_pos e]; subst e; simp [wordsF]
  · rw [if_neg e]
theorem partA_set (W : List Nat) (i x y : Nat) : (partA W i x).setIfInBounds i (.int .u32 ((y : Nat) : Int)) = partA W i y := by
  unfold partA; simp
theorem partA_get (W : List Nat) (i x : Nat) (h : i < 64) : (partA W i x)[i]? = some (.int .u32 ((x : Nat) : Int)) := by
  unfold partA; rw [Array.getElem?_setIfInBounds_self_of_lt (by rw [rowA_size]; exact h)]
theorem partA_full (W : List Nat) (i : Nat) (h : i < 64) : partA W i (W.getD i 0) = rowA 64 (wordsF W (i + 1)) := wordsF_set W 64 i h
/-- A word's first bytes. -/
def partN (b : List UInt8) (i j : Nat) : Nat := getN ((b.drop (4 * i)).take j)
theorem partN_succ (b : List UInt8) (i j : Nat) (h : 4 * i + j < b.length) : partN b i (j + 1) = partN b i j * 256 + b[4 * i + j].toNat := by
  unfold partN
  have e : (b.drop (4 * i))[j]? = some b[4 * i + j] := by rw [List.getElem?_drop, List.getElem?_eq_getElem h]
  rw [List.take_add_one, e]
  exact getN_snoc _ _
theorem partN_lt (b : List UInt8) (i j : Nat) (h : j < 4) : partN b i j < 16777216 := by
  unfold partN
  have h1 := getN_lt ((b.drop (4 * i)).take j)
  have h2 : ((b.drop (4 * i)).take j).length ≤ 3 := by simp; omega
  have h3 := Nat.pow_le_pow_right (n := 256) (by decide) h2
  have h4 : (256 : Nat) ^ 3 = 16777216 := by decide
  omega
theorem blk_get (p : ByteArray) (n j : Nat) (hj : j < 64) (hp : 64 * n + 64 ≤ p.size) : (blk p n).data.toList[j]'(by have := blk_size p n hp; simpa [this] using hj) = p[64 * n + j] := by
  have e : (blk p n).data.toList = (p.data.toList.drop (64 * n)).take 64 := by
    unfold blk; rw [Lib.extract_data]; congr 1; omega
  simp only [e, List.getElem_take, List.getElem_drop]
  rfl
set_option maxRecDepth 10000000 in
set_option maxHeartbeats 4000000 in
theorem refsum_own (p : ByteArray) (n a : Nat) (ha : a = 64 * n) (hp : 64 * n + 64 ≤ p.size) (hps : p.size ≤ 281474976710656) (Wb : Nat) (w : World) {u0 u1 u2 u4 u5 u9 u10 u11 u12 u13 u14 u15 u16 u17 u18 u19 u20 u21 u22 u23 u24 u25 u26 u27 u28 u29 u30 u31 u32 u33 u34 u35 u36 u37 u38 u39 u40 u41 u42 u43 u44 u45 u46 u47 u48 u49 u50 u51 u52 u53 u54 u55 u56 u57 u58 u59 u60 u61 u62 u63 u64 u65 u66 u67 u68 u69 u70 u71 u72 u73 u74 u75 u76 u77 u78 u79 u80 u81 u82 u83 u84 u85 u86 u87 u88 u89 u90 u91 u92 u93 u94 u95 u96 u97 u98 u99 u100 u101 u102 u103 u104 u105 u106 u107 u108 u109 u110 u111 u112 u113 u114 u115 u116 u117 u118 u119 u120 u121 u122 u123 u124 u125 u126 u127 u128 u129 u130 u131 u132 u133 u134 u135 u136 u137 u138 u139 u140 u141 u142 u143 u144 u145 u146 u147 u148 u149 u150 u151 u152 u153 u154 u155 u156 u157 u158 u159 u160 u161 u162 u163 u164 u165 u166 u167 u168 u169 u170 u171 u172 u173 u174 u175 u176 u177 u178 u179 u180 u181 u182 u183 u184 u185 u186 u187 u188 u189 u190 u191 u192 u193 u194 u195 u196 u197 u198 u199 u200 u201 u202 u203 u204 u205 u206 u207 u208 u209 u210 u211 u212 u213 u214 u215 u216 u217 u218 u219 u220 u221 u222 u223 u224 u225 u226 u227 u228 u229 u230 u231 u232 u233 u234 u235 u236 u237 u238 u239 u240 u241 u242 u243 u244 u245 u246 u247 u248 u249 u250 u251 u252 u253 u254 u255 u256 u257 u258 u259 u260 u261 u262 u263 u264 u265 u266 u267 u268 u269 u270 u271 u272 u273 u274 u275 u276 u277 u278 u279 u280 u281 u282 u283 u284 u285 u286 u287 u288 u289 u290 u291 u292 u293 u294 u295 u296 u297 : Value} (Q : Exit → Act → World → Prop)
    (hW : RowAt w Wb 77 (rowA 64 (wordsF (sched (blk p n).data.toList 64) 0)))
    (hK : ∀ (v8 v9 v34 v35 v36 v37 v38 v39 v40 v41 v42 v43 v44 v45 v46 v47 v48 v49 v50 v51 v52 v53 v54 v55 v56 v57 v58 v59 : Value) (w' : World), RowAt w' Wb 77 (rowA 64 (wordsF (sched (blk p n).data.toList 64) 16)) → Kept (fun k => k = Wb) w w' → Q .normal { tmps := #[u0, u1, u2, .string p, u4, u5, .int .i64 (a : Int), .slice (some ⟨Wb, 0, none⟩) 64 64, v8, v9, u10, u11, u12, u13, u14, u15, u16, u17, u18, u19, u20, u21, u22, u23, u24, u25, u26, u27, u28, u29, u30, u31, u32, u33, v34, v35, v36, v37, v38, v39, v40, v41, v42, v43, v44, v45, v46, v47, v48, v49, v50, v51, v52, v53, v54, v55, v56, v57, v58, v59, u60, u61, u62, u63, u64, u65, u66, u67, u68, u69, u70, u71, u72, u73, u74, u75, u76, u77, u78, u79, u80, u81, u82, u83, u84, u85, u86, u87, u88, u89, u90, u91, u92, u93, u94, u95, u96, u97, u98, u99, u100, u101, u102, u103, u104, u105, u106, u107, u108, u109, u110, u111, u112, u113, u114, u115, u116, u117, u118, u119, u120, u121, u122, u123, u124, u125, u126, u127, u128, u129, u130, u131, u132, u133, u134, u135, u136, u137, u138, u139, u140, u141, u142, u143, u144, u145, u146, u147, u148, u149, u150, u151, u152, u153, u154, u155, u156, u157, u158, u159, u160, u161, u162, u163, u164, u165, u166, u167, u168, u169, u170, u171, u172, u173, u174, u175, u176, u177, u178, u179, u180, u181, u182, u183, u184, u185, u186, u187, u188, u189, u190, u191, u192, u193, u194, u195, u196, u197, u198, u199, u200, u201, u202, u203, u204, u205, u206, u207, u208, u209, u210, u211, u212, u213, u214, u215, u216, u217, u218, u219, u220, u221, u222, u223, u224, u225, u226, u227, u228, u229, u230, u231, u232, u233, u234, u235, u236, u237, u238, u239, u240, u241, u242, u243, u244, u245, u246, u247, u248, u249, u250, u251, u252, u253, u254, u255, u256, u257, u258, u259, u260, u261, u262, u263, u264, u265, u266, u267, u268, u269, u270, u271, u272, u273, u274, u275, u276, u277, u278, u279, u280, u281, u282, u283, u284, u285, u286, u287, u288, u289, u290, u291, u292, u293, u294, u295, u296, u297], defers := [] } w') :
    (frag Tryd.f48 2).wp Tryd.prog (Exit.inBlock 2 Q) { tmps := #[u0, u1, u2, .string p, u4, u5, .int .i64 (a : Int), .slice (some ⟨Wb, 0, none⟩) 64 64, .int .i64 0, u9, u10, u11, u12, u13, u14, u15, u16, u17, u18, u19, u20, u21, u22, u23, u24, u25, u26, u27, u28, u29, u30, u31, u32, u33, u34, u35, u36, u37, u38, u39, u40, u41, u42, u43, u44, u45, u46, u47, u48, u49, u50, u51, u52, u53, u54, u55, u56, u57, u58, u59, u60, u61, u62, u63, u64, u65, u66, u67, u68, u69, u70, u71, u72, u73, u74, u75, u76, u77, u78, u79, u80, u81, u82, u83, u84, u85, u86, u87, u88, u89, u90, u91, u92, u93, u94, u95, u96, u97, u98, u99, u100, u101, u102, u103, u104, u105, u106, u107, u108, u109, u110, u111, u112, u113, u114, u115, u116, u117, u118, u119, u120, u121, u122, u123, u124, u125, u126, u127, u128, u129, u130, u131, u132, u133, u134, u135, u136, u137, u138, u139, u140, u141, u142, u143, u144, u145, u146, u147, u148, u149, u150, u151, u152, u153, u154, u155, u156, u157, u158, u159, u160, u161, u162, u163, u164, u165, u166, u167, u168, u169, u170, u171, u172, u173, u174, u175, u176, u177, u178, u179, u180, u181, u182, u183, u184, u185, u186, u187, u188, u189, u190, u191, u192, u193, u194, u195, u196, u197, u198, u199, u200, u201, u202, u203, u204, u205, u206, u207, u208, u209, u210, u211, u212, u213, u214, u215, u216, u217, u218, u219, u220, u221, u222, u223, u224, u225, u226, u227, u228, u229, u230, u231, u232, u233, u234, u235, u236, u237, u238, u239, u240, u241, u242, u243, u244, u245, u246, u247, u248, u249, u250, u251, u252, u253, u254, u255, u256, u257, u258, u259, u260, u261, u262, u263, u264, u265, u266, u267, u268, u269, u270, u271, u272, u273, u274, u275, u276, u277, u278, u279, u280, u281, u282, u283, u284, u285, u286, u287, u288, u289, u290, u291, u292, u293, u294, u295, u296, u297], defers := [] } w := by
  obtain ⟨b, hb⟩ : ∃ b, b = (blk p n).data.toList := ⟨_, rfl⟩
  obtain ⟨W, hWe⟩ : ∃ W, W = sched (blk p n).data.toList 64 := ⟨_, rfl⟩
  have hget : ∀ i j, i < 16 → j < 4 → ∀ (h : 64 * n + (4 * i + j) < p.size), partN b i (j + 1) = partN b i j * 256 + p[64 * n + (4 * i + j)].toNat := fun i j hi hj h => by
    rw [hb, partN_succ _ _ _ (by have := blk_size p n hp; simp [this]; omega), blk_get p n (4 * i + j) (by omega) hp]
  have hfull : ∀ i, i < 16 → partN b i 4 = W.getD i 0 := fun i hi => by
    rw [hWe, sched_get _ _ _ (by omega), if_pos hi, hb]; rfl
  rw [← hWe] at hW hK
  have hap : a + 64 ≤ p.size := by omega
  rw [← ha] at hget
  have hk0 : Hid (Kept (fun k => k = Wb) w w) := Kept.refl _ _
  replace hget := hid hget
  replace hfull := hid hfull
  replace hb := hid hb
  replace hWe := hid hWe
  replace ha := hid ha
  replace hK := hid hK
  replace hW := hid hW
  have hpsi : (p.size : Int) ≤ 281474976710656 := by omega
  have hapi : (a : Int) + 64 ≤ (p.size : Int) := by omega
  dsimp only
  rw [show frag Tryd.f48 2 = Code.loop _ from rfl]
  go_loopw [8] (fun v wr => ∃ i : Nat, i ≤ 16 ∧ v = .int .i64 (i : Nat) ∧ Hid (RowAt wr Wb 77 (rowA 64 (wordsF W i))) ∧ Hid (Kept (fun k => k = Wb) w wr)) (fun v _ => 16 - (intOf v).toNat)
  case atStart => exact ⟨0, by omega, rfl, hW, hk0⟩
  case round =>
    clear hW hk0
    obtain ⟨i, hi, rfl, hW, hk⟩ := hrel
    by_cases h16 : i = 16
    · subst h16
      go_wp2
      exact hK.out _ _ _ _ _ _ _ _ _ _ _ _ _ _ _ _ _ _ _ _ _ _ _ _ _ _ _ _ _ hW.out hk.out
    · have hlt : i < 16 := by omega
      have hlti : (i : Int) < 16 := by omega
      have hW0 : Hid (RowAt wr Wb 77 (partA W i (partN b i 0))) := hW.out.eqA (by rw [show partN b i 0 = 0 by simp [partN, getN], partA_zero])
      obtain ⟨wo, rfl⟩ : ∃ wo : World, wo = wr := ⟨_, rfl⟩
      clear hW
      go_wp2
      go_loopw [9] (fun v wr => ∃ j : Nat, j ≤ 4 ∧ v = .int .i64 (j : Nat) ∧ Hid (RowAt wr Wb 77 (partA W i (partN b i j))) ∧ Hid (Kept (fun k => k = Wb) w wr)) (fun v _ => 4 - (intOf v).toNat)
      case atStart => exact ⟨0, by omega, rfl, hW0, hk⟩
      case round =>
        clear hW0 hk
        obtain ⟨j, hj, rfl, hW, hk⟩ := hrel
        by_cases h4 : j = 4
        · subst h4
          have hW1 : Hid (RowAt wr Wb 77 (rowA 64 (wordsF W (i + 1)))) := hW.out.eqA (by rw [hfull.out i hlt, partA_full W i (by omega)])
          go_wp2
          go_roundw
          case rel => exact ⟨i + 1, by omega, by go_num, hW1, hk⟩
          case measure => simp [intOf]; omega
        · have hlt4 : j < 4 := by omega
          have hlt4i : (j : Int) < 4 := by omega
          have hx := partN_lt b i j hlt4
          have hpos : a + (4 * i + j) < p.size := by omega
          have hy := hget.out i j hlt hlt4 hpos
          obtain ⟨x, hxe⟩ : ∃ x, x = partN b i j := ⟨_, rfl⟩
          obtain ⟨y, hye⟩ : ∃ y, y = partN b i (j + 1) := ⟨_, rfl⟩
          rw [← hxe] at hx hy hW
          rw [← hye] at hy
          obtain ⟨c, hc⟩ : ∃ c, c = p[a + (4 * i + j)].toNat := ⟨_, rfl⟩
          have hc256 : c < 256 := by rw [hc]; exact UInt8.toNat_lt _
          rw [← hc] at hy
          obtain ⟨d, hd⟩ : ∃ d, d = 4 * i := ⟨_, rfl⟩
          have hd1 : 4 * (i : Int) = (d : Int) := by omega
          have hd2 : IntKind.i64.wrap (4 * (i : Int)) = (d : Int) := by rw [IntKind.wrap_i64]; omega
          obtain ⟨e, he⟩ : ∃ e, e = a + d := ⟨_, rfl⟩
          have he1 : (a : Int) + (d : Int) = (e : Int) := by omega
          have he2 : IntKind.i64.wrap ((a : Int) + (d : Int)) = (e : Int) := by rw [IntKind.wrap_i64]; omega
          obtain ⟨f, hf⟩ : ∃ f, f = e + j := ⟨_, rfl⟩
          have hf1 : (e : Int) + (j : Int) = (f : Int) := by omega
          have hf2 : IntKind.i64.wrap ((e : Int) + (j : Int)) = (f : Int) := by rw [IntKind.wrap_i64]; omega
          have hfe : f = a + (4 * i + j) := by omega
          have hidx := fun w => run_index_byte (P := Tryd.prog) 9 p .i64 f c Tryd.underlying9 (by omega) (by rw [hc]; congr 2; omega) w
          have hlti64 : (i : Int) < 64 := by omega
          have ex : ∀ q : Sub wr, q.x.cell? ⟨Wb, i, none⟩ = some (.int .u32 (x : Nat)) := fun q => q.cell hW.out (partA_get W i x (by omega))
          have hyi : ((x : Int) * 256 + (c : Int)) = (y : Int) := by omega
          have hyw : ((x : Int) * 256 + (c : Int)) % 4294967296 = (y : Int) := by omega
          have hxw : (x : Int) * 256 % 4294967296 = (x : Int) * 256 := by omega
          have hxw2 : IntKind.u32.wrap ((x : Int) * 256) = (x : Int) * 256 := by rw [IntKind.wrap_u32]; omega
          have hyw2 : IntKind.u32.wrap ((x : Int) * 256 + (c : Int)) = (y : Int) := by rw [IntKind.wrap_u32]; omega
          replace hy := hid hy
          replace hd := hid hd
          replace he := hid he
          replace hf := hid hf
          replace hfe := hid hfe
          replace hye := hid hye
          replace hxe := hid hxe
          clear hc hpos
          go_wp2
          refine wp_region_last (by kernel_rfl) (by kernel_rfl) (by kernel_rfl) 18 _ rfl rfl ?_
          simp only [muted, mute]
          repeat (go_big_quiet_step (fail))
          refine wpQuiet_nil ?_
          intro q
          have z2 := hW.out.below q.h hW.out.lt
          have zk := hk.out.below q.h
          obtain ⟨Z, hZ⟩ : ∃ Z, Z = q.x := ⟨_, rfl⟩
          rw [← hZ] at z2 zk ⊢
          clear hZ q ex hW hk
          have hcf : Z.cell? ⟨Wb, i, none⟩ = some (.int .u32 (x : Nat)) := z2.cell (partA_get W i x (by omega))
          have hfr := z2.free i
          unfold Oper.wp
          simp [go_sem, hcf, hfr]
          have n2 := (z2.set i (.int .u32 (y : Nat))).eqA (A' := partA W i (partN b i (j + 1))) (by rw [partA_set, hye.out])
          have nk := zk.setCell ⟨Wb, i, none⟩ (.inl rfl) (.int .u32 (y : Nat))
          obtain ⟨V, hV⟩ : ∃ V, V = Z.setCell ⟨Wb, i, none⟩ (.int .u32 (y : Nat)) := ⟨_, rfl⟩
          rw [← hV] at n2 nk ⊢
          clear hV z2 zk hcf hfr hidx
          replace n2 := hid n2
          replace nk := hid nk
          go_wp2
          go_roundw
          case rel => exact ⟨j + 1, by omega, by go_num, n2, nk⟩
          case measure => simp [intOf]; omega
end
section
open Go Go.RowKit
set_option linter.unusedSimpArgs false

set_option maxRecDepth 10000000 in
set_option maxHeartbeats 4000000 in
theorem refsum_plus (s t : St) (Hb V : Nat) (w : World) {u0 u1 u2 u3 u4 u6 u7 u8 u9 u10 u11 u12 u14 u15 u16 u17 u18 u19 u21 u22 u23 u24 u25 u26 u27 u28 u29 u30 u31 u32 u33 u34 u35 u36 u37 u38 u39 u40 u41 u42 u43 u44 u45 u46 u47 u48 u49 u50 u51 u52 u53 u54 u55 u56 u57 u58 u59 u60 u61 u62 u63 u64 u65 u66 u67 u68 u69 u70 u71 u72 u73 u74 u75 u76 u77 u78 u79 u80 u81 u82 u83 u84 u85 u86 u87 u88 u89 u90 u91 u92 u93 u94 u95 u96 u97 u98 u99 u100 u101 u102 u103 u104 u105 u106 u107 u108 u109 u110 u111 u112 u113 u114 u115 u116 u117 u118 u119 u120 u121 u122 u123 u124 u125 u126 u127 u128 u129 u130 u131 u132 u133 u134 u135 u136 u137 u138 u139 u140 u141 u142 u143 u144 u145 u146 u147 u148 u149 u150 u151 u152 u153 u154 u155 u156 u157 u158 u159 u160 u161 u162 u163 u164 u165 u166 u167 u168 u169 u170 u171 u172 u173 u174 u175 u176 u177 u178 u179 u180 u181 u182 u183 u184 u185 u186 u187 u188 u189 u190 u191 u192 u193 u194 u195 u196 u197 u198 u199 u200 u201 u202 u203 u204 u205 u206 u207 u208 u209 u210 u211 u212 u213 u214 u215 u216 u217 u218 u219 u220 u221 u222 u223 u224 u225 u226 u227 u228 u229 u230 u231 u232 u233 u234 u235 u236 u237 u238 u239 u240 u241 u242 u243 u244 u245 u246 u247 u248 u249 u250 u251 u252 u253 u254 u255 u256 u257 u258 u259 u260 u261 u262 u263 u264 u265 u266 u267 u268 u269 u270 u271 u272 u273 u274 u275 u276 u277 u278 u279 u280 u281 u282 u283 u284 u285 u286 u287 u288 u289 u290 u291 u292 u293 u294 u295 u296 u297 : Value} (Q : Exit → Act → World → Prop)
    (hH : RowAt w Hb 77 s.cells) (hV : RowAt w V 77 t.cells) (hne : V ≠ Hb)
    (hK : ∀ (v20 v264 v265 v266 v267 v268 v269 v270 v271 v272 v273 v274 v275 v276 v277 v278 v279 : Value) (w' : World), RowAt w' Hb 77 (plus s t).cells → Kept (fun k => k = Hb) w w' → Q .normal { tmps := #[u0, u1, u2, u3, u4, .slice (some ⟨Hb, 0, none⟩) 8 8, u6, u7, u8, u9, u10, u11, u12, .slice (some ⟨V, 0, none⟩) 8 8, u14, u15, u16, u17, u18, u19, v20, u21, u22, u23, u24, u25, u26, u27, u28, u29, u30, u31, u32, u33, u34, u35, u36, u37, u38, u39, u40, u41, u42, u43, u44, u45, u46, u47, u48, u49, u50, u51, u52, u53, u54, u55, u56, u57, u58, u59, u60, u61, u62, u63, u64, u65, u66, u67, u68, u69, u70, u71, u72, u73, u74, u75, u76, u77, u78, u79, u80, u81, u82, u83, u84, u85, u86, u87, u88, u89, u90, u91, u92, u93, u94, u95, u96, u97, u98, u99, u100, u101, u102, u103, u104, u105, u106, u107, u108, u109, u110, u111, u112, u113, u114, u115, u116, u117, u118, u119, u120, u121, u122, u123, u124, u125, u126, u127, u128, u129, u130, u131, u132, u133, u134, u135, u136, u137, u138, u139, u140, u141, u142, u143, u144, u145, u146, u147, u148, u149, u150, u151, u152, u153, u154, u155, u156, u157, u158, u159, u160, u161, u162, u163, u164, u165, u166, u167, u168, u169, u170, u171, u172, u173, u174, u175, u176, u177, u178, u179, u180, u181, u182, u183, u184, u185, u186, u187, u188, u189, u190, u191, u192, u193, u194, u195, u196, u197, u198, u199, u200, u201, u202, u203, u204, u205, u206, u207, u208, u209, u210, u211, u212, u213, u214, u215, u216, u217, u218, u219, u220, u221, u222, u223, u224, u225, u226, u227, u228, u229, u230, u231, u232, u233, u234, u235, u236, u237, u238, u239, u240, u241, u242, u243, u244, u245, u246, u247, u248, u249, u250, u251, u252, u253, u254, u255, u256, u257, u258, u259, u260, u261, u262, u263, v264, v265, v266, v267, v268, v269, v270, v271, v272, v273, v274, v275, v276, v277, v278, v279, u280, u281, u282, u283, u284, u285, u286, u287, u288, u289, u290, u291, u292, u293, u294, u295, u296, u297], defers := [] } w') :
    (frag Tryd.f48 10).wp Tryd.prog (Exit.inBlock 10 Q) { tmps := #[u0, u1, u2, u3, u4, .slice (some ⟨Hb, 0, none⟩) 8 8, u6, u7, u8, u9, u10, u11, u12, .slice (some ⟨V, 0, none⟩) 8 8, u14, u15, u16, u17, u18, u19, .int .i64 0, u21, u22, u23, u24, u25, u26, u27, u28, u29, u30, u31, u32, u33, u34, u35, u36, u37, u38, u39, u40, u41, u42, u43, u44, u45, u46, u47, u48, u49, u50, u51, u52, u53, u54, u55, u56, u57, u58, u59, u60, u61, u62, u63, u64, u65, u66, u67, u68, u69, u70, u71, u72, u73, u74, u75, u76, u77, u78, u79, u80, u81, u82, u83, u84, u85, u86, u87, u88, u89, u90, u91, u92, u93, u94, u95, u96, u97, u98, u99, u100, u101, u102, u103, u104, u105, u106, u107, u108, u109, u110, u111, u112, u113, u114, u115, u116, u117, u118, u119, u120, u121, u122, u123, u124, u125, u126, u127, u128, u129, u130, u131, u132, u133, u134, u135, u136, u137, u138, u139, u140, u141, u142, u143, u144, u145, u146, u147, u148, u149, u150, u151, u152, u153, u154, u155, u156, u157, u158, u159, u160, u161, u162, u163, u164, u165, u166, u167, u168, u169, u170, u171, u172, u173, u174, u175, u176, u177, u178, u179, u180, u181, u182, u183, u184, u185, u186, u187, u188, u189, u190, u191, u192, u193, u194, u195, u196, u197, u198, u199, u200, u201, u202, u203, u204, u205, u206, u207, u208, u209, u210, u211, u212, u213, u214, u215, u216, u217, u218, u219, u220, u221, u222, u223, u224, u225, u226, u227, u228, u229, u230, u231, u232, u233, u234, u235, u236, u237, u238, u239, u240, u241, u242, u243, u244, u245, u246, u247, u248, u249, u250, u251, u252, u253, u254, u255, u256, u257, u258, u259, u260, u261, u262, u263, u264, u265, u266, u267, u268, u269, u270, u271, u272, u273, u274, u275, u276, u277, u278, u279, u280, u281, u282, u283, u284, u285, u286, u287, u288, u289, u290, u291, u292, u293, u294, u295, u296, u297], defers := [] } w := by
  have hM : Hid (RowAt w Hb 77 (rowA 8 (mixV s t 0))) := hH.eqA (mix_zero s t)
  have hk0 : Hid (Kept (fun k => k = Hb) w w) := Kept.refl _ _
  replace hK := hid hK
  replace hV := hid hV
  clear hH
  dsimp only
  rw [show frag Tryd.f48 10 = Code.loop _ from rfl]
  go_loopw [20] (fun v wr => ∃ i : Nat, i ≤ 8 ∧ v = .int .i64 (i : Nat) ∧ Hid (RowAt wr Hb 77 (rowA 8 (mixV s t i))) ∧ Hid (RowAt wr V 77 t.cells) ∧ Hid (Kept (fun k => k = Hb) w wr)) (fun v _ => 8 - (intOf v).toNat)
  case atStart => exact ⟨0, by omega, rfl, hM, hV, hk0⟩
  case round =>
    clear hM hk0 hV
    obtain ⟨i, hi, rfl, hM, hV, hk⟩ := hrel
    by_cases h8 : i = 8
    · subst h8
      go_wp2
      exact hK.out _ _ _ _ _ _ _ _ _ _ _ _ _ _ _ _ _ _ (hM.out.eqA (mix_all s t)) hk.out
    · have hlt8 : i < 8 := by omega
      have hlt8i : (i : Int) < 8 := by omega
      obtain ⟨sv, hsv⟩ : ∃ v, v = s.nth i := ⟨_, rfl⟩
      obtain ⟨tv, htv⟩ : ∃ v, v = t.nth i := ⟨_, rfl⟩
      obtain ⟨v, hv⟩ : ∃ v, v = ad sv tv := ⟨_, rfl⟩
      have hvi : ((sv : Int) + (tv : Int)) % 4294967296 = (v : Int) := by rw [hv]; unfold ad; simp
      have es : ∀ q : Sub wr, q.x.cell? ⟨Hb, i, none⟩ = some (.int .u32 (sv : Nat)) := fun q => q.cell hM.out (by rw [rowA_get _ _ _ hlt8, hsv]; simp [mixV])
      have et : ∀ q : Sub wr, q.x.cell? ⟨V, i, none⟩ = some (.int .u32 (tv : Nat)) := fun q => q.cell hV.out (by rw [htv]; exact cells_nth t hlt8)
      replace hsv := hid hsv
      replace htv := hid htv
      replace hv := hid hv
      go_wp2
      refine wp_region_last (by kernel_rfl) (by kernel_rfl) (by kernel_rfl) 12 _ rfl rfl ?_
      simp only [muted, mute]
      repeat (go_big_quiet_step (fail))
      refine wpQuiet_nil ?_
      intro q
      have yM := hM.out.below q.h hM.out.lt
      have yV := hV.out.below q.h hV.out.lt
      have yk := hk.out.below q.h
      obtain ⟨Y, hY⟩ : ∃ Y, Y = q.x := ⟨_, rfl⟩
      rw [← hY] at yM yV yk ⊢
      clear hY q es et
      have hcf : Y.cell? ⟨Hb, i, none⟩ = some (.int .u32 (sv : Nat)) := yM.cell (by rw [rowA_get _ _ _ hlt8, hsv.out]; simp [mixV])
      have hfr := yM.free i
      unfold Oper.wp
      simp [go_sem, hcf, hfr]
      rw [hvi]
      have nM := (yM.set i (.int .u32 (v : Nat))).eqA (A' := rowA 8 (mixV s t (i + 1))) (by rw [hv.out, hsv.out, htv.out]; exact mix_set s t i hlt8)
      have nV := yV.other ⟨Hb, i, none⟩ (.int .u32 (v : Nat)) hne
      have nk := yk.setCell ⟨Hb, i, none⟩ (.inl rfl) (.int .u32 (v : Nat))
      obtain ⟨Z, hZ⟩ : ∃ Z, Z = Y.setCell ⟨Hb, i, none⟩ (.int .u32 (v : Nat)) := ⟨_, rfl⟩
      rw [← hZ] at nM nV nk ⊢
      clear hZ yM yV yk hcf hfr hM hV hk
      replace nM := hid nM
      replace nV := hid nV
      replace nk := hid nk
      go_wp2
      go_roundw
      case rel => exact ⟨i + 1, by omega, by go_num, nM, nV, nk⟩
      case measure => simp [intOf]; omega

/-- A sum's first k bytes. -/
def outB (t : St) (k j : Nat) : Value := .int .u8 (((if j < k then shaByte t j else 0 : UInt8).toNat : Nat) : Int)
theorem outB_zero (t : St) : rowA 32 (outB t 0) = rowA 32 (outV t 0) := rowA_ext fun j hj => by simp [outB, outV]
theorem outB_all (t : St) : rowA 32 (outB t 32) = rowA 32 fun j => .int .u8 ((shaByte t j).toNat : Int) := rowA_ext fun j hj => by unfold outB; rw [if_pos hj]
theorem outB_set (t : St) (k : Nat) : (rowA 32 (outB t k)).setIfInBounds k (.int .u8 ((shaByte t k).toNat : Int)) = rowA 32 (outB t (k + 1)) := by
  rw [rowA_set]
  refine rowA_ext fun j hj => ?_
  unfold outB
  by_cases e : j = k
  · subst e; rw [if_pos rfl, if_pos (by omega)]
  · rw [if_neg e]
    by_cases e2 : j < k
    · rw [if_pos e2, if_pos (by omega)]
    · rw [if_neg e2, if_neg (by omega)]
theorem shaByte_shift (t : St) (k : Nat) : ((t.nth (k / 4) : Nat) : Int) / 2 ^ (24 - 8 * (k % 4)) % 256 = ((shaByte t k).toNat : Int) := by
  unfold shaByte
  rw [byteAt_toNat, ← pow256, show 8 * (3 - k % 4) = 24 - 8 * (k % 4) by omega]
  simp
set_option maxRecDepth 10000000 in
set_option maxHeartbeats 4000000 in
theorem refsum_bytes (t : St) (ht : t.Ok) (Hb O : Nat) (w : World) {u0 u1 u2 u3 u4 u6 u7 u8 u9 u10 u11 u12 u13 u14 u15 u16 u17 u18 u19 u20 u23 u24 u25 u26 u27 u28 u29 u30 u31 u32 u33 u34 u35 u36 u37 u38 u39 u40 u41 u42 u43 u44 u45 u46 u47 u48 u49 u50 u51 u52 u53 u54 u55 u56 u57 u58 u59 u60 u61 u62 u63 u64 u65 u66 u67 u68 u69 u70 u71 u72 u73 u74 u75 u76 u77 u78 u79 u80 u81 u82 u83 u84 u85 u86 u87 u88 u89 u90 u91 u92 u93 u94 u95 u96 u97 u98 u99 u100 u101 u102 u103 u104 u105 u106 u107 u108 u109 u110 u111 u112 u113 u114 u115 u116 u117 u118 u119 u120 u121 u122 u123 u124 u125 u126 u127 u128 u129 u130 u131 u132 u133 u134 u135 u136 u137 u138 u139 u140 u141 u142 u143 u144 u145 u146 u147 u148 u149 u150 u151 u152 u153 u154 u155 u156 u157 u158 u159 u160 u161 u162 u163 u164 u165 u166 u167 u168 u169 u170 u171 u172 u173 u174 u175 u176 u177 u178 u179 u180 u181 u182 u183 u184 u185 u186 u187 u188 u189 u190 u191 u192 u193 u194 u195 u196 u197 u198 u199 u200 u201 u202 u203 u204 u205 u206 u207 u208 u209 u210 u211 u212 u213 u214 u215 u216 u217 u218 u219 u220 u221 u222 u223 u224 u225 u226 u227 u228 u229 u230 u231 u232 u233 u234 u235 u236 u237 u238 u239 u240 u241 u242 u243 u244 u245 u246 u247 u248 u249 u250 u251 u252 u253 u254 u255 u256 u257 u258 u259 u260 u261 u262 u263 u264 u265 u266 u267 u268 u269 u270 u271 u272 u273 u274 u275 u276 u277 u278 u279 u280 u281 u282 u283 u284 u285 u286 u287 u288 u289 u290 u291 u292 u293 u294 u295 u296 u297 : Value} (Q : Exit → Act → World → Prop)
    (hH : RowAt w Hb 77 t.cells) (hO : RowAt w O 73 (rowA 32 (outV t 0))) (hne : Hb ≠ O)
    (hK : ∀ (v22 v280 v281 v282 v283 v284 v285 v286 v287 v288 v289 v290 v291 v292 v293 v294 v295 v296 : Value) (w' : World), RowAt w' O 73 (rowA 32 fun j => .int .u8 ((shaByte t j).toNat : Int)) → Kept (fun k => k = O) w w' → Q .normal { tmps := #[u0, u1, u2, u3, u4, .slice (some ⟨Hb, 0, none⟩) 8 8, u6, u7, u8, u9, u10, u11, u12, u13, u14, u15, u16, u17, u18, u19, u20, .pointer (some ⟨O, 0, none⟩), v22, u23, u24, u25, u26, u27, u28, u29, u30, u31, u32, u33, u34, u35, u36, u37, u38, u39, u40, u41, u42, u43, u44, u45, u46, u47, u48, u49, u50, u51, u52, u53, u54, u55, u56, u57, u58, u59, u60, u61, u62, u63, u64, u65, u66, u67, u68, u69, u70, u71, u72, u73, u74, u75, u76, u77, u78, u79, u80, u81, u82, u83, u84, u85, u86, u87, u88, u89, u90, u91, u92, u93, u94, u95, u96, u97, u98, u99, u100, u101, u102, u103, u104, u105, u106, u107, u108, u109, u110, u111, u112, u113, u114, u115, u116, u117, u118, u119, u120, u121, u122, u123, u124, u125, u126, u127, u128, u129, u130, u131, u132, u133, u134, u135, u136, u137, u138, u139, u140, u141, u142, u143, u144, u145, u146, u147, u148, u149, u150, u151, u152, u153, u154, u155, u156, u157, u158, u159, u160, u161, u162, u163, u164, u165, u166, u167, u168, u169, u170, u171, u172, u173, u174, u175, u176, u177, u178, u179, u180, u181, u182, u183, u184, u185, u186, u187, u188, u189, u190, u191, u192, u193, u194, u195, u196, u197, u198, u199, u200, u201, u202, u203, u204, u205, u206, u207, u208, u209, u210, u211, u212, u213, u214, u215, u216, u217, u218, u219, u220, u221, u222, u223, u224, u225, u226, u227, u228, u229, u230, u231, u232, u233, u234, u235, u236, u237, u238, u239, u240, u241, u242, u243, u244, u245, u246, u247, u248, u249, u250, u251, u252, u253, u254, u255, u256, u257, u258, u259, u260, u261, u262, u263, u264, u265, u266, u267, u268, u269, u270, u271, u272, u273, u274, u275, u276, u277, u278, u279, v280, v281, v282, v283, v284, v285, v286, v287, v288, v289, v290, v291, v292, v293, v294, v295, v296, u297], defers := [] } w') :
    (frag Tryd.f48 12).wp Tryd.prog (Exit.inBlock 12 Q) { tmps := #[u0, u1, u2, u3, u4, .slice (some ⟨Hb, 0, none⟩) 8 8, u6, u7, u8, u9, u10, u11, u12, u13, u14, u15, u16, u17, u18, u19, u20, .pointer (some ⟨O, 0, none⟩), .int .i64 0, u23, u24, u25, u26, u27, u28, u29, u30, u31, u32, u33, u34, u35, u36, u37, u38, u39, u40, u41, u42, u43, u44, u45, u46, u47, u48, u49, u50, u51, u52, u53, u54, u55, u56, u57, u58, u59, u60, u61, u62, u63, u64, u65, u66, u67, u68, u69, u70, u71, u72, u73, u74, u75, u76, u77, u78, u79, u80, u81, u82, u83, u84, u85, u86, u87, u88, u89, u90, u91, u92, u93, u94, u95, u96, u97, u98, u99, u100, u101, u102, u103, u104, u105, u106, u107, u108, u109, u110, u111, u112, u113, u114, u115, u116, u117, u118, u119, u120, u121, u122, u123, u124, u125, u126, u127, u128, u129, u130, u131, u132, u133, u134, u135, u136, u137, u138, u139, u140, u141, u142, u143, u144, u145, u146, u147, u148, u149, u150, u151, u152, u153, u154, u155, u156, u157, u158, u159, u160, u161, u162, u163, u164, u165, u166, u167, u168, u169, u170, u171, u172, u173, u174, u175, u176, u177, u178, u179, u180, u181, u182, u183, u184, u185, u186, u187, u188, u189, u190, u191, u192, u193, u194, u195, u196, u197, u198, u199, u200, u201, u202, u203, u204, u205, u206, u207, u208, u209, u210, u211, u212, u213, u214, u215, u216, u217, u218, u219, u220, u221, u222, u223, u224, u225, u226, u227, u228, u229, u230, u231, u232, u233, u234, u235, u236, u237, u238, u239, u240, u241, u242, u243, u244, u245, u246, u247, u248, u249, u250, u251, u252, u253, u254, u255, u256, u257, u258, u259, u260, u261, u262, u263, u264, u265, u266, u267, u268, u269, u270, u271, u272, u273, u274, u275, u276, u277, u278, u279, u280, u281, u282, u283, u284, u285, u286, u287, u288, u289, u290, u291, u292, u293, u294, u295, u296, u297], defers := [] } w := by
  have hM : Hid (RowAt w O 73 (rowA 32 (outB t 0))) := hO.eqA (outB_zero t).symm
  have hk0 : Hid (Kept (fun k => k = O) w w) := Kept.refl _ _
  replace hK := hid hK
  replace hH := hid hH
  replace ht := hid ht
  clear hO
  dsimp only
  rw [show frag Tryd.f48 12 = Code.loop _ from rfl]
  go_loopw [22] (fun v wr => ∃ i : Nat, i ≤ 32 ∧ v = .int .i64 (i : Nat) ∧ Hid (RowAt wr O 73 (rowA 32 (outB t i))) ∧ Hid (RowAt wr Hb 77 t.cells) ∧ Hid (Kept (fun k => k = O) w wr)) (fun v _ => 32 - (intOf v).toNat)
  case atStart => exact ⟨0, by omega, rfl, hM, hH, hk0⟩
  case round =>
    clear hM hk0 hH
    obtain ⟨i, hi, rfl, hM, hH, hk⟩ := hrel
    by_cases h32 : i = 32
    · subst h32
      go_wp2
      exact hK.out _ _ _ _ _ _ _ _ _ _ _ _ _ _ _ _ _ _ _ (hM.out.eqA (outB_all t)) hk.out
    · have hlt : i < 32 := by omega
      have hlti : (i : Int) < 32 := by omega
      obtain ⟨a, ha⟩ : ∃ a, a = i / 4 := ⟨_, rfl⟩
      have ha1 : (i : Int) / 4 = (a : Int) := by omega
      have ha8 : a < 8 := by omega
      have ha8i : (a : Int) < 8 := by omega
      obtain ⟨m, hm⟩ : ∃ m, m = 24 - 8 * (i % 4) := ⟨_, rfl⟩
      have hm1 : 24 - 8 * ((i : Int) % 4) = (m : Int) := by omega
      have hm24 : (m : Int) ≤ 24 := by omega
      have hx := shaByte_shift t i
      rw [← ha, ← hm] at hx
      obtain ⟨x, hxe⟩ : ∃ x, x = t.nth a := ⟨_, rfl⟩
      rw [← hxe] at hx
      have hcell : wr.cell? ⟨Hb, a, none⟩ = some (.int .u32 (x : Nat)) := hH.out.cell (by rw [hxe]; exact cells_nth t ha8)
      have hcf : wr.cell? ⟨O, i, none⟩ = some (.int .u8 0) := hM.out.cell (by rw [rowA_get _ _ _ hlt]; simp [outB])
      have hfr := hM.out.free i
      have hxl : x < 4294967296 := by rw [hxe]; exact nth_lt ht.out a
      replace hxe := hid hxe
      replace ha := hid ha
      replace hm := hid hm
      go_wp2
      go_roundw
      case rel => exact ⟨i + 1, by omega, by go_num, (hM.out.set i _).eqA (outB_set t i), hH.out.other _ _ hne, hk.out.setCell _ (.inl rfl) _⟩
      case measure => simp [intOf]; omega
end
end Go.Proofs.YtdjlpmelmhhooaaDoor
