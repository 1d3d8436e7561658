/- The document's sum, its first loop (a block's own words): the walk. -/
import Derived.Test.YtbbjoahloghpkaaDoorShaB
import Derived.Test.YtbbjoahloghpkaaDoorSha8
namespace Go.Proofs.YtbbjoahloghpkaaDoor
open Go Go.RowKit
set_option linter.unusedSimpArgs false

/-- A byte of a text, by its place. -/
theorem run_index_byte {P : Program} (t : TypeId) (s : ByteArray) (k : IntKind) (i c : Nat) (h : P.underlying t = some .string) (hi : i < s.size) (hc : c = s[i].toNat) (w : World) :
    (Instr.index t (.string s) (.int k (i : Int))).run P w = .ok (.int .u8 (c : Int)) w := by
  subst hc
  have h2 : s[i]? = some s[i] := by simp [hi]
  simp [Instr.index, asIntOf, run_underlying h, h2]
/-- The words so far, and a part of the next one. -/
def partA (W : List Nat) (i x : Nat) : Array Value := (rowA 64 (wordsF W i)).setIfInBounds i (.int .u32 ((x : Nat) : Int))
theorem partA_zero (W : List Nat) (i : Nat) : partA W i 0 = rowA 64 (wordsF W i) := by
  unfold partA
  rw [rowA_set]
  refine rowA_ext fun j hj => ?_
  by_cases e : j = i
  · rw [if_pos e]; subst e; simp [wordsF]
  · rw [if_neg e]
theorem partA_set (W : List Nat) (i x y : Nat) : (partA W i x).setIfInBounds i (.int .u32 ((y : Nat) : Int)) = partA W i y := by
  unfold partA; simp
theorem partA_get (W : List Nat) (i x : Nat) (h : i < 64) : (partA W i x)[i]? = some (.int .u32 ((x : Nat) : Int)) := by
  unfold partA; rw [Array.getElem?_setIfInBounds_self_of_lt (by rw [rowA_size]; exact h)]
theorem partA_full (W : List Nat) (i : Nat) (h : i < 64) : partA W i (W.getD i 0) = rowA 64 (wordsF W (i + 1)) := wordsF_set W 64 i h
/-- A word's first bytes. -/
def partN (b : List UInt8) (i j : Nat) : Nat := getN ((b.drop (4 * i)).take j)
theorem partN_succ (b : List UInt8) (i j : Nat) (h : 4 * i + j < b.length) : partN b i (j + 1) = partN b i j * 256 + b[4 * i + j].toNat := by
  unfold partN
  have e : (b.drop (4 * i))[j]? = some b[4 * i + j] := by rw [List.getElem?_drop, List.getElem?_eq_getElem h]
  rw [List.take_add_one, e]
  exact getN_snoc _ _
theorem partN_lt (b : List UInt8) (i j : Nat) (h : j < 4) : partN b i j < 16777216 := by
  unfold partN
  have h1 := getN_lt ((b.drop (4 * i)).take j)
  have h2 : ((b.drop (4 * i)).take j).length ≤ 3 := by simp; omega
  have h3 := Nat.pow_le_pow_right (n := 256) (by decide) h2
  have h4 : (256 : Nat) ^ 3 = 16777216 := by decide
  omega
theorem blk_get (p : ByteArray) (n j : Nat) (hj : j < 64) (hp : 64 * n + 64 ≤ p.size) : (blk p n).data.toList[j]'(by have := blk_size p n hp; simpa [this] using hj) = p[64 * n + j] := by
  have e : (blk p n).data.toList = (p.data.toList.drop (64 * n)).take 64 := by
    unfold blk; rw [Lib.extract_data]; congr 1; omega
  simp only [e, List.getElem_take, List.getElem_drop]
  rfl
set_option maxRecDepth 10000000 in
set_option maxHeartbeats 4000000 in
theorem refsum_own (p : ByteArray) (n a : Nat) (ha : a = 64 * n) (hp : 64 * n + 64 ≤ p.size) (hps : p.size ≤ 281474976710656) (Wb : Nat) (w : World) {u0 u1 u2 u4 u5 u9 u10 u11 u12 u13 u14 u15 u16 u17 u18 u19 u20 u21 u22 u23 u24 u25 u26 u27 u28 u29 u30 u31 u32 u33 u34 u35 u36 u37 u38 u39 u40 u41 u42 u43 u44 u45 u46 u47 u48 u49 u50 u51 u52 u53 u54 u55 u56 u57 u58 u59 u60 u61 u62 u63 u64 u65 u66 u67 u68 u69 u70 u71 u72 u73 u74 u75 u76 u77 u78 u79 u80 u81 u82 u83 u84 u85 u86 u87 u88 u89 u90 u91 u92 u93 u94 u95 u96 u97 u98 u99 u100 u101 u102 u103 u104 u105 u106 u107 u108 u109 u110 u111 u112 u113 u114 u115 u116 u117 u118 u119 u120 u121 u122 u123 u124 u125 u126 u127 u128 u129 u130 u131 u132 u133 u134 u135 u136 u137 u138 u139 u140 u141 u142 u143 u144 u145 u146 u147 u148 u149 u150 u151 u152 u153 u154 u155 u156 u157 u158 u159 u160 u161 u162 u163 u164 u165 u166 u167 u168 u169 u170 u171 u172 u173 u174 u175 u176 u177 u178 u179 u180 u181 u182 u183 u184 u185 u186 u187 u188 u189 u190 u191 u192 u193 u194 u195 u196 u197 u198 u199 u200 u201 u202 u203 u204 u205 u206 u207 u208 u209 u210 u211 u212 u213 u214 u215 u216 u217 u218 u219 u220 u221 u222 u223 u224 u225 u226 u227 u228 u229 u230 u231 u232 u233 u234 u235 u236 u237 u238 u239 u240 u241 u242 u243 u244 u245 u246 u247 u248 u249 u250 u251 u252 u253 u254 u255 u256 u257 u258 u259 u260 u261 u262 u263 u264 u265 u266 u267 u268 u269 u270 u271 u272 u273 u274 u275 u276 u277 u278 u279 u280 u281 u282 u283 u284 u285 u286 u287 u288 u289 u290 u291 u292 u293 u294 u295 u296 u297 : Value} (Q : Exit → Act → World → Prop)
    (hW : RowAt w Wb 93 (rowA 64 (wordsF (sched (blk p n).data.toList 64) 0)))
    (hK : ∀ (v8 v9 v34 v35 v36 v37 v38 v39 v40 v41 v42 v43 v44 v45 v46 v47 v48 v49 v50 v51 v52 v53 v54 v55 v56 v57 v58 v59 : Value) (w' : World), RowAt w' Wb 93 (rowA 64 (wordsF (sched (blk p n).data.toList 64) 16)) → Kept (fun k => k = Wb) w w' → Q .normal { tmps := #[u0, u1, u2, .string p, u4, u5, .int .i64 (a : Int), .slice (some ⟨Wb, 0, none⟩) 64 64, v8, v9, u10, u11, u12, u13, u14, u15, u16, u17, u18, u19, u20, u21, u22, u23, u24, u25, u26, u27, u28, u29, u30, u31, u32, u33, v34, v35, v36, v37, v38, v39, v40, v41, v42, v43, v44, v45, v46, v47, v48, v49, v50, v51, v52, v53, v54, v55, v56, v57, v58, v59, u60, u61, u62, u63, u64, u65, u66, u67, u68, u69, u70, u71, u72, u73, u74, u75, u76, u77, u78, u79, u80, u81, u82, u83, u84, u85, u86, u87, u88, u89, u90, u91, u92, u93, u94, u95, u96, u97, u98, u99, u100, u101, u102, u103, u104, u105, u106, u107, u108, u109, u110, u111, u112, u113, u114, u115, u116, u117, u118, u119, u120, u121, u122, u123, u124, u125, u126, u127, u128, u129, u130, u131, u132, u133, u134, u135, u136, u137, u138, u139, u140, u141, u142, u143, u144, u145, u146, u147, u148, u149, u150, u151, u152, u153, u154, u155, u156, u157, u158, u159, u160, u161, u162, u163, u164, u165, u166, u167, u168, u169, u170, u171, u172, u173, u174, u175, u176, u177, u178, u179, u180, u181, u182, u183, u184, u185, u186, u187, u188, u189, u190, u191, u192, u193, u194, u195, u196, u197, u198, u199, u200, u201, u202, u203, u204, u205, u206, u207, u208, u209, u210, u211, u212, u213, u214, u215, u216, u217, u218, u219, u220, u221, u222, u223, u224, u225, u226, u227, u228, u229, u230, u231, u232, u233, u234, u235, u236, u237, u238, u239, u240, u241, u242, u243, u244, u245, u246, u247, u248, u249, u250, u251, u252, u253, u254, u255, u256, u257, u258, u259, u260, u261, u262, u263, u264, u265, u266, u267, u268, u269, u270, u271, u272, u273, u274, u275, u276, u277, u278, u279, u280, u281, u282, u283, u284, u285, u286, u287, u288, u289, u290, u291, u292, u293, u294, u295, u296, u297], defers := [] } w') :
    (frag Tryd.f59 2).wp Tryd.prog (Exit.inBlock 2 Q) { tmps := #[u0, u1, u2, .string p, u4, u5, .int .i64 (a : Int), .slice (some ⟨Wb, 0, none⟩) 64 64, .int .i64 0, u9, u10, u11, u12, u13, u14, u15, u16, u17, u18, u19, u20, u21, u22, u23, u24, u25, u26, u27, u28, u29, u30, u31, u32, u33, u34, u35, u36, u37, u38, u39, u40, u41, u42, u43, u44, u45, u46, u47, u48, u49, u50, u51, u52, u53, u54, u55, u56, u57, u58, u59, u60, u61, u62, u63, u64, u65, u66, u67, u68, u69, u70, u71, u72, u73, u74, u75, u76, u77, u78, u79, u80, u81, u82, u83, u84, u85, u86, u87, u88, u89, u90, u91, u92, u93, u94, u95, u96, u97, u98, u99, u100, u101, u102, u103, u104, u105, u106, u107, u108, u109, u110, u111, u112, u113, u114, u115, u116, u117, u118, u119, u120, u121, u122, u123, u124, u125, u126, u127, u128, u129, u130, u131, u132, u133, u134, u135, u136, u137, u138, u139, u140, u141, u142, u143, u144, u145, u146, u147, u148, u149, u150, u151, u152, u153, u154, u155, u156, u157, u158, u159, u160, u161, u162, u163, u164, u165, u166, u167, u168, u169, u170, u171, u172, u173, u174, u175, u176, u177, u178, u179, u180, u181, u182, u183, u184, u185, u186, u187, u188, u189, u190, u191, u192, u193, u194, u195, u196, u197, u198, u199, u200, u201, u202, u203, u204, u205, u206, u207, u208, u209, u210, u211, u212, u213, u214, u215, u216, u217, u218, u219, u220, u221, u222, u223, u224, u225, u226, u227, u228, u229, u230, u231, u232, u233, u234, u235, u236, u237, u238, u239, u240, u241, u242, u243, u244, u245, u246, u247, u248, u249, u250, u251, u252, u253, u254, u255, u256, u257, u258, u259, u260, u261, u262, u263, u264, u265, u266, u267, u268, u269, u270, u271, u272, u273, u274, u275, u276, u277, u278, u279, u280, u281, u282, u283, u284, u285, u286, u287, u288, u289, u290, u291, u292, u293, u294, u295, u296, u297], defers := [] } w := by
  obtain ⟨b, hb⟩ : ∃ b, b = (blk p n).data.toList := ⟨_, rfl⟩
  obtain ⟨W, hWe⟩ : ∃ W, W = sched (blk p n).data.toList 64 := ⟨_, rfl⟩
  have hget : ∀ i j, i < 16 → j < 4 → ∀ (h : 64 * n + (4 * i + j) < p.size), partN b i (j + 1) = partN b i j * 256 + p[64 * n + (4 * i + j)].toNat := fun i j hi hj h => by
    rw [hb, partN_succ _ _ _ (by have := blk_size p n hp; simp [this]; omega), blk_get p n (4 * i + j) (by omega) hp]
  have hfull : ∀ i, i < 16 → partN b i 4 = W.getD i 0 := fun i hi => by
    rw [hWe, sched_get _ _ _ (by omega), if_pos hi, hb]; rfl
  rw [← hWe] at hW hK
  have hap : a + 64 ≤ p.size := by omega
  rw [← ha] at hget
  have hk0 : Hid (Kept (fun k => k = Wb) w w) := Kept.refl _ _
  replace hget := hid hget
  replace hfull := hid hfull
  replace hb := hid hb
  replace hWe := hid hWe
  replace ha := hid ha
  replace hK := hid hK
  replace hW := hid hW
  have hpsi : (p.size : Int) ≤ 281474976710656 := by omega
  have hapi : (a : Int) + 64 ≤ (p.size : Int) := by omega
  dsimp only
  rw [show frag Tryd.f59 2 = Code.loop _ from rfl]
  go_loopw [8] (fun v wr => ∃ i : Nat, i ≤ 16 ∧ v = .int .i64 (i : Nat) ∧ Hid (RowAt wr Wb 93 (rowA 64 (wordsF W i))) ∧ Hid (Kept (fun k => k = Wb) w wr)) (fun v _ => 16 - (intOf v).toNat)
  case atStart => exact ⟨0, by omega, rfl, hW, hk0⟩
  case round =>
    clear hW hk0
    obtain ⟨i, hi, rfl, hW, hk⟩ := hrel
    by_cases h16 : i = 16
    · subst h16
      go_wp2
      exact hK.out _ _ _ _ _ _ _ _ _ _ _ _ _ _ _ _ _ _ _ _ _ _ _ _ _ _ _ _ _ hW.out hk.out
    · have hlt : i < 16 := by omega
      have hlti : (i : Int) < 16 := by omega
      have hW0 : Hid (RowAt wr Wb 93 (partA W i (partN b i 0))) := hW.out.eqA (by rw [show partN b i 0 = 0 by simp [partN, getN], partA_zero])
      obtain ⟨wo, rfl⟩ : ∃ wo : World, wo = wr := ⟨_, rfl⟩
      clear hW
      go_wp2
      go_loopw [9] (fun v wr => ∃ j : Nat, j ≤ 4 ∧ v = .int .i64 (j : Nat) ∧ Hid (RowAt wr Wb 93 (partA W i (partN b i j))) ∧ Hid (Kept (fun k => k = Wb) w wr)) (fun v _ => 4 - (intOf v).toNat)
      case atStart => exact ⟨0, by omega, rfl, hW0, hk⟩
      case round =>
        clear hW0 hk
        obtain ⟨j, hj, rfl, hW, hk⟩ := hrel
        by_cases h4 : j = 4
        · subst h4
          have hW1 : Hid (RowAt wr Wb 93 (rowA 64 (wordsF W (i + 1)))) := hW.out.eqA (by rw [hfull.out i hlt, partA_full W i (by omega)])
          go_wp2
          go_roundw
          case rel => exact ⟨i + 1, by omega, by go_num, hW1, hk⟩
          case measure => simp [intOf]; omega
        · have hlt4 : j < 4 := by omega
          have hlt4i : (j : Int) < 4 := by omega
          have hx := partN_lt b i j hlt4
          have hpos : a + (4 * i + j) < p.size := by omega
          have hy := hget.out i j hlt hlt4 hpos
          obtain ⟨x, hxe⟩ : ∃ x, x = partN b i j := ⟨_, rfl⟩
          obtain ⟨y, hye⟩ : ∃ y, y = partN b i (j + 1) := ⟨_, rfl⟩
          rw [← hxe] at hx hy hW
          rw [← hye] at hy
          obtain ⟨c, hc⟩ : ∃ c, c = p[a + (4 * i + j)].toNat := ⟨_, rfl⟩
          have hc256 : c < 256 := by rw [hc]; exact UInt8.toNat_lt _
          rw [← hc] at hy
          obtain ⟨d, hd⟩ : ∃ d, d = 4 * i := ⟨_, rfl⟩
          have hd1 : 4 * (i : Int) = (d : Int) := by omega
          have hd2 : IntKind.i64.wrap (4 * (i : Int)) = (d : Int) := by rw [IntKind.wrap_i64]; omega
          obtain ⟨e, he⟩ : ∃ e, e = a + d := ⟨_, rfl⟩
          have he1 : (a : Int) + (d : Int) = (e : Int) := by omega
          have he2 : IntKind.i64.wrap ((a : Int) + (d : Int)) = (e : Int) := by rw [IntKind.wrap_i64]; omega
          obtain ⟨f, hf⟩ : ∃ f, f = e + j := ⟨_, rfl⟩
          have hf1 : (e : Int) + (j : Int) = (f : Int) := by omega
          have hf2 : IntKind.i64.wrap ((e : Int) + (j : Int)) = (f : Int) := by rw [IntKind.wrap_i64]; omega
          have hfe : f = a + (4 * i + j) := by omega
          have hidx := fun w => run_index_byte (P := Tryd.prog) 9 p .i64 f c Tryd.underlying9 (by omega) (by rw [hc]; congr 2; omega) w
          have hlti64 : (i : Int) < 64 := by omega
          have ex : ∀ q : Sub wr, q.x.cell? ⟨Wb, i, none⟩ = some (.int .u32 (x : Nat)) := fun q => q.cell hW.out (partA_get W i x (by omega))
          have hyi : ((x : Int) * 256 + (c : Int)) = (y : Int) := by omega
          have hyw : ((x : Int) * 256 + (c : Int)) % 4294967296 = (y : Int) := by omega
          have hxw : (x : Int) * 256 % 4294967296 = (x : Int) * 256 := by omega
          have hxw2 : IntKind.u32.wrap ((x : Int) * 256) = (x : Int) * 256 := by rw [IntKind.wrap_u32]; omega
          have hyw2 : IntKind.u32.wrap ((x : Int) * 256 + (c : Int)) = (y : Int) := by rw [IntKind.wrap_u32]; omega
          replace hy := hid hy
          replace hd := hid hd
          replace he := hid he
          replace hf := hid hf
          replace hfe := hid hfe
          replace hye := hid hye
          replace hxe := hid hxe
          clear hc hpos
          go_wp2
          refine wp_region_last (by kernel_rfl) (by kernel_rfl) (by kernel_rfl) 18 _ rfl rfl ?_
          simp only [muted, mute]
          repeat (go_big_quiet_step (fail))
          refine wpQuiet_nil ?_
          intro q
          have z2 := hW.out.below q.h hW.out.lt
          have zk := hk.out.below q.h
          obtain ⟨Z, hZ⟩ : ∃ Z, Z = q.x := ⟨_, rfl⟩
          rw [← hZ] at z2 zk ⊢
          clear hZ q ex hW hk
          have hcf : Z.cell? ⟨Wb, i, none⟩ = some (.int .u32 (x : Nat)) := z2.cell (partA_get W i x (by omega))
          have hfr := z2.free i
          unfold Oper.wp
          simp [go_sem, hcf, hfr]
          have n2 := (z2.set i (.int .u32 (y : Nat))).eqA (A' := partA W i (partN b i (j + 1))) (by rw [partA_set, hye.out])
          have nk := zk.setCell ⟨Wb, i, none⟩ (.inl rfl) (.int .u32 (y : Nat))
          obtain ⟨V, hV⟩ : ∃ V, V = Z.setCell ⟨Wb, i, none⟩ (.int .u32 (y : Nat)) := ⟨_, rfl⟩
          rw [← hV] at n2 nk ⊢
          clear hV z2 zk hcf hfr hidx
          replace n2 := hid n2
          replace nk := hid nk
          go_wp2
          go_roundw
          case rel => exact ⟨j + 1, by omega, by go_num, n2, nk⟩
          case measure => simp [intOf]; omega
end Go.Proofs.YtbbjoahloghpkaaDoor
