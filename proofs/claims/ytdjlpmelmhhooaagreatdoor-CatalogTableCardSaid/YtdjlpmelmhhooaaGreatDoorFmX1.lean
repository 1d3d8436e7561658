/- Format: plain words, Check, rows of strings, shown. -/
import Derived.Test.YtdjlpmelmhhooaaGreatDoorKit
import Derived.Test.YtdjlpmelmhhooaaGreatDoorLibA
import Derived.Test.YtdjlpmelmhhooaaGreatDoorProg
import Derived.Shelf.Slices.Turned
import Derived.Shelf.Slices.Equal
import Derived.Shelf.Slices.Clone
import Derived.Shelf.Slices.Empties2
import Derived.Test.YtdjlpmelmhhooaaGreatDoorWkX
import Derived.Test.YtdjlpmelmhhooaaGreatDoorUtfX3
namespace Go.Proofs.YtdjlpmelmhhooaaGreatDoor
section
open Go

def cntB (k : Int) : Bool := decide (k = 1) || decide (k = 2) || decide (k = 8)
/-- What is wrong with a rule. -/
def chkN (k mn mx : Int) (n : Nat) : Int :=
  if k < 1 ∨ 8 < k then 11 else if mn < 0 ∨ 4096 < max mn mx ∨ (cntB k = true ∧ mx < mn) then 7 else if k = 4 ∧ n = 0 then 16 else 0
theorem chkN_kind {k mn mx : Int} {n : Nat} (h : chkN k mn mx n = 0) : 1 ≤ k ∧ k ≤ 8 ∧ 0 ≤ mn ∧ mn ≤ 4096 ∧ mx ≤ 4096 ∧ (cntB k = true → mn ≤ mx) ∧ (k = 4 → n ≠ 0) := by
  unfold chkN at h
  by_cases h1 : k < 1 ∨ 8 < k
  · rw [if_pos h1] at h; omega
  · rw [if_neg h1] at h
    by_cases h2 : mn < 0 ∨ 4096 < max mn mx ∨ (cntB k = true ∧ mx < mn)
    · rw [if_pos h2] at h; omega
    · rw [if_neg h2] at h
      by_cases h3 : k = 4 ∧ n = 0
      · rw [if_pos h3] at h; omega
      · refine ⟨by omega, by omega, by omega, by omega, by omega, fun hc => ?_, fun h4 hn => h3 ⟨h4, hn⟩⟩
        by_cases h5 : mx < mn
        · exact absurd (.inr (.inr ⟨hc, h5⟩)) h2
        · omega
/-- The ways through a rule's check. -/
theorem chk_ways (k mn mx : Int) (n : Nat) :
    (k < 1 ∧ chkN k mn mx n = 11) ∨ (1 ≤ k ∧ 8 < k ∧ chkN k mn mx n = 11) ∨
    (1 ≤ k ∧ k ≤ 8 ∧ mn < 0 ∧ chkN k mn mx n = 7) ∨ (1 ≤ k ∧ k ≤ 8 ∧ 0 ≤ mn ∧ 4096 < max mn mx ∧ chkN k mn mx n = 7) ∨
    (0 ≤ mn ∧ max mn mx ≤ 4096 ∧ mx < mn ∧ (k = 1 ∨ k = 2 ∨ k = 8) ∧ chkN k mn mx n = 7) ∨
    (0 ≤ mn ∧ max mn mx ≤ 4096 ∧ mn ≤ mx ∧ (k = 1 ∨ k = 2 ∨ k = 8) ∧ chkN k mn mx n = 0) ∨
    (0 ≤ mn ∧ max mn mx ≤ 4096 ∧ k = 4 ∧ n = 0 ∧ chkN k mn mx n = 16) ∨ (0 ≤ mn ∧ max mn mx ≤ 4096 ∧ k = 4 ∧ n ≠ 0 ∧ chkN k mn mx n = 0) ∨
    (0 ≤ mn ∧ max mn mx ≤ 4096 ∧ (k = 3 ∨ k = 5 ∨ k = 6 ∨ k = 7) ∧ chkN k mn mx n = 0) := by
  unfold chkN
  by_cases h1 : k < 1
  · left; exact ⟨h1, if_pos (.inl h1)⟩
  · by_cases h2 : 8 < k
    · right; left; exact ⟨by omega, h2, if_pos (.inr h2)⟩
    · rw [if_neg (show ¬ (k < 1 ∨ 8 < k) by omega)]
      by_cases h3 : mn < 0
      · right; right; left; exact ⟨by omega, by omega, h3, if_pos (.inl h3)⟩
      · by_cases h4 : 4096 < max mn mx
        · right; right; right; left; exact ⟨by omega, by omega, by omega, h4, if_pos (.inr (.inl h4))⟩
        · have hm : max mn mx ≤ 4096 := by omega
          have hz : 0 ≤ mn := by omega
          have hk : k = 1 ∨ k = 2 ∨ k = 3 ∨ k = 4 ∨ k = 5 ∨ k = 6 ∨ k = 7 ∨ k = 8 := by omega
          have hn3 : ∀ {P : Prop}, ¬ P → ¬ (mn < 0 ∨ 4096 < max mn mx ∨ P) := fun hp hq => by rcases hq with q | q | q; exact h3 q; exact h4 q; exact hp q
          by_cases h5 : mx < mn
          · rcases hk with rfl | rfl | rfl | rfl | rfl | rfl | rfl | rfl
            all_goals simp [cntB, h3, h4, h5, hm, hz] <;> omega
          · rcases hk with rfl | rfl | rfl | rfl | rfl | rfl | rfl | rfl
            all_goals simp [cntB, h3, h4, h5, hm, hz] <;> omega
end
section
open Go Go.RowKit
set_option linter.unusedSimpArgs false
set_option linter.unusedVariables false

theorem infoRule : (Tryz.prog.info? 37).map (·.size) = some 4 := by kernel_rfl
/-- A rule, as it is handed over. -/
def ruleA (k mn mx : Int) (v : Value) : Array Value := #[.int .i64 k, .int .i64 mn, .int .i64 mx, v]
theorem ruleA_one (k mn mx : Int) (a : Option Addr) (n c : Nat) : (ruleA k mn mx (.slice a n c)).all (·.oneCell') = true := by simp [ruleA, Value.oneCell']

set_option maxRecDepth 100000 in
set_option maxHeartbeats 4000000 in
theorem ruleCheck_any (k mn mx : Int) (a : Option Addr) (n c : Nat) (w : World) : Calls Tryz.prog 24 #[.agg (ruleA k mn mx (.slice a n c))] w fun e w' => e = .returned (.int .i64 (chkN k mn mx n)) ∧ Below w.heap.size w w' := by
  unfold ruleA
  have hmx := fun ts t w => run_mx2 (P := Tryz.prog) ts t .i64 mn mx w
  have hways := chk_ways k mn mx n
  obtain ⟨r, hr⟩ : ∃ r, r = chkN k mn mx n := ⟨_, rfl⟩
  simp only [← hr] at hways
  rw [← hr]
  clear hr
  obtain ⟨M, hM⟩ : ∃ M, M = max mn mx := ⟨_, rfl⟩
  simp only [← hM] at hmx hways
  clear hM
  rcases hways with ⟨h1, rfl⟩ | ⟨h1, h2, rfl⟩ | ⟨h1, h2, h3, rfl⟩ | ⟨h1, h2, h3, h4, rfl⟩ | ⟨h3, h4, h5, hk, rfl⟩ | ⟨h3, h4, h5, hk, rfl⟩ | ⟨h3, h4, rfl, hn, rfl⟩ | ⟨h3, h4, rfl, hn, rfl⟩ | ⟨h3, h4, hk, rfl⟩
  case' inr.inr.inr.inr.inl => rcases hk with rfl | rfl | rfl
  case' inr.inr.inr.inr.inr.inl => rcases hk with rfl | rfl | rfl
  case' inr.inr.inr.inr.inr.inr.inl => subst hn
  case' inr.inr.inr.inr.inr.inr.inr.inl =>
    have hn0 : ((n : Int) == 0) = false := by rw [beq_eq_false_iff_ne]; omega
  case' inr.inr.inr.inr.inr.inr.inr.inr => rcases hk with rfl | rfl | rfl | rfl
  all_goals
    go_enter Tryz.func24, Tryz.ntmps24
    go_wp2
    go_ret
    exact ⟨rfl, below_al (Below.refl _ _) _⟩
set_option maxRecDepth 100000 in
set_option maxHeartbeats 4000000 in
theorem ruleWithin_any (k mn mx : Int) (v : Value) (n : Int) (w : World) : Calls Tryz.prog 59 #[.agg (ruleA k mn mx v), .int .i64 n] w fun e w' => e = .returned (.bool (decide (mn ≤ n) && decide (n ≤ mx))) ∧ Below w.heap.size w w' := by
  unfold ruleA
  by_cases h1 : mn ≤ n
  · by_cases h2 : n ≤ mx
    · rw [decide_eq_true h1, decide_eq_true h2]
      go_enter Tryz.func59, Tryz.ntmps59
      go_wp2
      go_ret
      exact ⟨rfl, below_al (Below.refl _ _) _⟩
    · rw [decide_eq_true h1, decide_eq_false h2]
      go_enter Tryz.func59, Tryz.ntmps59
      go_wp2
      go_ret
      exact ⟨rfl, below_al (Below.refl _ _) _⟩
  · rw [decide_eq_false h1]
    go_enter Tryz.func59, Tryz.ntmps59
    go_wp2
    go_ret
    exact ⟨rfl, below_al (Below.refl _ _) _⟩
end
section
open Go Go.RowKit Go.Lib Go.Proofs Go.Shelf
def slsS_lays110_ren : Go.Shelf.Ren := ⟨fun | 110 => 33 | 109 => 78 | n => n, fun | 31 => 35 | 9 => 9 | 4 => 4 | 3 => 3 | 0 => 0 | n => n, fun | n => n⟩
theorem slsS_lays110 : Go.Proofs.Lays.n110 Tryz.prog slsS_lays110_ren := {
  mixed := by kernel_rfl
  f109 := Tryz.func78.trans (congrArg some (by kernel_rfl))
  f110 := Tryz.func33.trans (congrArg some (by kernel_rfl))
  t0 := Tryz.underlying0
  a0 := Tryz.isAgg0
  z0 := Tryz.sizeOf0
  v0 := Tryz.zeroValue0
  t3 := Tryz.underlying3
  a3 := Tryz.isAgg3
  z3 := Tryz.sizeOf3
  v3 := Tryz.zeroValue3
  t4 := Tryz.underlying4
  a4 := Tryz.isAgg4
  z4 := Tryz.sizeOf4
  v4 := Tryz.zeroValue4
  t9 := Tryz.underlying9
  a9 := Tryz.isAgg9
  z9 := Tryz.sizeOf9
  v9 := Tryz.zeroValue9
  t31 := Tryz.underlying35
  a31 := Tryz.isAgg35
  z31 := Tryz.sizeOf35
  v31 := Tryz.zeroValue35 }
theorem slsS_slices_Contains_string (b off n c : Nat) (zs : List ByteArray) (x : ByteArray) (w : World) (hz : n ≤ zs.length) (hbig : n ≤ 9223372036854775807) (hc : ∀ j, j < zs.length → w.cell? ⟨b, off + j, none⟩ = some (.string (zs.getD j ByteArray.empty))) :
    Calls Tryz.prog 33 #[.slice (some ⟨b, off, none⟩) n c, .string x] w fun e w' => e = .returned (.bool (Lib.containsS (zs.take n) x)) ∧ w' = w := Any.slices_Contains_string slsS_lays110 b off n c zs x w hz hbig hc
theorem slsS_slices_Contains_string_empty (a : Option Addr) (c : Nat) (x : ByteArray) (w : World) :
    Calls Tryz.prog 33 #[.slice a 0 c, .string x] w fun e w' => e = .returned (.bool false) ∧ w' = w := Any.slices_Contains_string_empty slsS_lays110 a c x w
def slsS_lays193_ren : Go.Shelf.Ren := ⟨fun | 193 => 36 | n => n, fun | 31 => 35 | 9 => 9 | 4 => 4 | 3 => 3 | 0 => 0 | n => n, fun | n => n⟩
theorem slsS_lays193 : Go.Proofs.Lays.n193 Tryz.prog slsS_lays193_ren := {
  mixed := by kernel_rfl
  f193 := Tryz.func36.trans (congrArg some (by kernel_rfl))
  t0 := Tryz.underlying0
  a0 := Tryz.isAgg0
  z0 := Tryz.sizeOf0
  v0 := Tryz.zeroValue0
  t3 := Tryz.underlying3
  a3 := Tryz.isAgg3
  z3 := Tryz.sizeOf3
  v3 := Tryz.zeroValue3
  t4 := Tryz.underlying4
  a4 := Tryz.isAgg4
  z4 := Tryz.sizeOf4
  v4 := Tryz.zeroValue4
  t9 := Tryz.underlying9
  a9 := Tryz.isAgg9
  z9 := Tryz.sizeOf9
  v9 := Tryz.zeroValue9
  t31 := Tryz.underlying35
  a31 := Tryz.isAgg35
  z31 := Tryz.sizeOf35
  v31 := Tryz.zeroValue35 }
theorem slsS_slices_Equal_string (b1 o1 n c b2 o2 m d : Nat) (xs ys : List ByteArray) (w : World) (hx : n ≤ xs.length) (hy : m ≤ ys.length) (hbig : n ≤ 9223372036854775807) (hbig2 : m ≤ 9223372036854775807) (hc1 : ∀ j, j < xs.length → w.cell? ⟨b1, o1 + j, none⟩ = some (.string (xs.getD j ByteArray.empty))) (hc2 : ∀ j, j < ys.length → w.cell? ⟨b2, o2 + j, none⟩ = some (.string (ys.getD j ByteArray.empty))) :
    Calls Tryz.prog 36 #[.slice (some ⟨b1, o1, none⟩) n c, .slice (some ⟨b2, o2, none⟩) m d] w fun e w' => e = .returned (.bool (decide (xs.take n = ys.take m))) ∧ ∃ q, w' = w.drewN q := Any.slices_Equal_string slsS_lays193 b1 o1 n c b2 o2 m d xs ys w hx hy hbig hbig2 hc1 hc2
theorem slsS_slices_Equal_string_empty (a1 a2 : Option Addr) (c m d : Nat) (w : World) (hbig2 : m ≤ 9223372036854775807) :
    Calls Tryz.prog 36 #[.slice a1 0 c, .slice a2 m d] w fun e w' => e = .returned (.bool (decide (m = 0))) ∧ w' = w := Any.slices_Equal_string_empty slsS_lays193 a1 a2 c m d w hbig2
def slsS_laysNm216_ren : Go.Shelf.Ren := ⟨fun | 16 => 58 | n => n, fun | 24 => 35 | 9 => 9 | 4 => 4 | n => n, fun | n => n⟩
theorem slsS_laysNm216 : Go.Proofs.Lays2.n16 Tryz.prog slsS_laysNm216_ren := {
  mixed := by kernel_rfl
  f16 := Tryz.func58.trans (congrArg some (by kernel_rfl))
  t4 := Tryz.underlying4
  a4 := Tryz.isAgg4
  z4 := Tryz.sizeOf4
  v4 := Tryz.zeroValue4
  t9 := Tryz.underlying9
  a9 := Tryz.isAgg9
  z9 := Tryz.sizeOf9
  v9 := Tryz.zeroValue9
  t24 := Tryz.underlying35
  a24 := Tryz.isAgg35
  z24 := Tryz.sizeOf35
  v24 := Tryz.zeroValue35
  i9 := by kernel_rfl }
theorem slsS_slices_Clone_string (b off n c : Nat) (zs : List ByteArray) (w : World) (hz : n ≤ zs.length) (hbig : n * 16 ≤ 140737488355328) (hc : ∀ j, j < zs.length → w.cell? ⟨b, off + j, none⟩ = some (.string (zs.getD j ByteArray.empty))) :
    Calls Tryz.prog 58 #[.slice (some ⟨b, off, none⟩) n c] w fun e w' => ∃ v', e = .returned v' ∧ w'.ownsRow w.heap.size 9 1 v' n ((zs.take n).map (Value.string)) ∧ v' ≠ .slice none 0 0 ∧ Below w.heap.size w w' := Any.slices_Clone_string slsS_laysNm216 b off n c zs w hz hbig hc
theorem slsS_slices_Clone_string_nil (n c : Nat) (w : World) :
    Calls Tryz.prog 58 #[.slice none n c] w fun e w' => e = .returned (.slice none 0 0) ∧ w' = w := Any.slices_Clone_string_nil slsS_laysNm216 n c w
theorem slsS_slices_Clone_string_zero (a : Addr) (c : Nat) (w : World) :
    Calls Tryz.prog 58 #[.slice (some a) 0 c] w fun e w' => ∃ v', e = .returned v' ∧ w'.ownsRow w.heap.size 9 1 v' 0 [] ∧ v' ≠ .slice none 0 0 ∧ Below w.heap.size w w' := Any.slices_Clone_string_zero slsS_laysNm216 a c w
theorem slsS_slices_Equal_string_lens (a1 a2 : Option Addr) (n c m d : Nat) (w : World) (hnm : n ≠ m) :
    Calls Tryz.prog 36 #[.slice a1 n c, .slice a2 m d] w fun e w' => e = .returned (.bool false) ∧ w' = w := Any.slices_Equal_string_lens slsS_lays193 a1 a2 n c m d w hnm
end
section
open Go Go.RowKit
set_option linter.unusedSimpArgs false
set_option linter.unusedVariables false

/-- Is a text among texts? -/
def memS (ss : List ByteArray) (s : ByteArray) : Bool := ss.any fun t => decide (t = s)
theorem memS_iff {ss : List ByteArray} {s : ByteArray} : memS ss s = true ↔ s ∈ ss := by
  unfold memS
  rw [List.any_eq_true]
  constructor
  · rintro ⟨t, ht, h⟩; rw [← of_decide_eq_true h]; exact ht
  · intro h; exact ⟨s, h, by simp⟩
def IdxPost (ss : List ByteArray) (s : ByteArray) (e : Ending) : Prop := ∃ r : Int, e = .returned (.int .i64 r) ∧ decide (0 ≤ r) = memS ss s
set_option maxRecDepth 100000 in
set_option maxHeartbeats 4000000 in
theorem index_strs (a : Option Addr) (n c : Nat) (ss : List ByteArray) (s : ByteArray) (hn : n ≤ 140737488351232) (w : World) (h : IsStrs w a n ss) :
    Calls Tryz.prog 78 #[.slice a n c, .string s] w fun e w' => IdxPost ss s e ∧ w = w' := by
  have hlen := h.len
  replace h := hid h
  go_enter Tryz.func78, Tryz.ntmps78
  go_wp2
  go_loop [8] (fun v => ∃ i : Nat, i ≤ n ∧ v = .int .i64 i ∧ Hid (∀ j, j < i → ss[j]? ≠ some s)) (fun v => n - (intOf v).toNat)
  case atStart => exact ⟨0, Nat.zero_le _, rfl, fun j hj => by omega⟩
  case round =>
    obtain ⟨i, hi, rfl, HN⟩ := hrel
    by_cases hlt : i < n
    · obtain ⟨t, ht⟩ : ∃ s, ss[i]? = some s := ⟨_, List.getElem?_eq_getElem (by omega)⟩
      obtain ⟨x, rfl, hx⟩ := h.out.at ht
      have hd : decide ((i : Int) < (n : Int)) = true := by rw [decide_eq_true_iff]; omega
      replace ht := hid ht
      by_cases hst : s = t
      · have hq : (s.toList == t.toList) = true := by rw [hst]; simp
        have hmem : s ∈ ss := by rw [hst]; exact List.mem_of_getElem? ht.out
        have hi0 : (0 : Int) ≤ (i : Int) := by omega
        replace hst := hid hst
        replace hmem := hid hmem
        go_wp2
        go_ret
        exact ⟨⟨_, rfl, by rw [decide_eq_true hi0, memS_iff.2 hmem.out]⟩, rfl⟩
      · have hq : (s.toList == t.toList) = false := by
          rw [beq_eq_false_iff_ne]; intro e; apply hst
          rw [ByteArray.toList_eq, ByteArray.toList_eq] at e
          exact ByteArray.ext (Array.ext' e)
        replace hst := hid hst
        go_wp2
        go_round
        case rel =>
          refine ⟨i + 1, by omega, by go_num, fun j hj e => ?_⟩
          by_cases hji : j = i
          · subst hji; rw [ht.out] at e; exact hst.out (Option.some.inj e).symm
          · exact HN.out j (by omega) e
        case measure => simp [intOf]; omega
    · obtain rfl : i = n := by omega
      have hd : decide ((i : Int) < (i : Int)) = false := by rw [decide_eq_false_iff_not]; omega
      have hno : s ∉ ss := fun hm => by
        obtain ⟨j, hj, e⟩ := List.mem_iff_getElem.1 hm
        exact HN.out j (by omega) (by rw [List.getElem?_eq_getElem hj, e])
      replace hno := hid hno
      go_wp2
      go_ret
      exact ⟨⟨-1, rfl, by rw [Bool.eq_false_iff.2 (fun h => hno.out (memS_iff.1 h))]; rfl⟩, rfl⟩
theorem contains_strs (a : Option Addr) (n c : Nat) (ss : List ByteArray) (s : ByteArray) (hn : n ≤ 140737488351232) (w : World) (h : IsStrs w a n ss) :
    Calls Tryz.prog 33 #[.slice a n c, .string s] w fun e w' => e = .returned (.bool (memS ss s)) ∧ w = w' := by
  have LI := hid (index_strs a n c ss s hn w h)
  obtain ⟨b, hb⟩ : ∃ b, b = memS ss s := ⟨_, rfl⟩
  rw [← hb]
  replace hb := hid hb
  replace h := hid h
  go_enter Tryz.func33, Tryz.ntmps33
  go_wp2_with (go_at_call 78; (with_reducible refine (LI.out).mono ?_); rintro e w1 ⟨hI, rfl⟩; unfold IdxPost at hI; obtain ⟨r, rfl, hr⟩ := hI; rw [← hb.out] at hr)
  go_ret
  exact ⟨rfl, rfl⟩
end
section
open Go Go.RowKit
set_option linter.unusedSimpArgs false
set_option linter.unusedVariables false

def okC (c : Nat) : Bool := !(decide (c < 32) || decide (c = 127))
def allC (l : List (Nat × Nat)) : Bool := l.all fun p => okC p.2
theorem allC_snoc (l : List (Nat × Nat)) (x : Nat × Nat) : allC (l ++ [x]) = (allC l && okC x.2) := by simp [allC]
theorem allC_append (l m : List (Nat × Nat)) : allC (l ++ m) = (allC l && allC m) := by simp [allC]
def shownB (s : ByteArray) : Bool := allC (runesN s.data.toList) && decide (badN s < 0)
attribute [local go_sem] Oper.semAt_some
set_option maxRecDepth 100000 in
set_option maxHeartbeats 4000000 in
theorem shown_any (s : ByteArray) (hs : s.size ≤ 140737488351232) (w : World) : Calls Tryz.prog 61 #[.string s] w fun e w' => e = .returned (.bool (shownB s)) ∧ Below w.heap.size w w' := by
  refine (callsIn_wide (n := 0)).1 ?_
  refine callsIn_of_wp_marks Tryz.func61 rfl trivial ?_
  simp only [Tryz.ntmps61, List.size_toArray, List.length_cons, List.length_nil, Nat.reduceAdd, Nat.reduceSub, Array.replicate_succ, Array.replicate_zero, List.push_toArray, List.append_toArray, List.nil_append, List.cons_append]
  gi_wp2_with (refine ⟨trivial, rfl, ?_⟩; gi_at_call 99; refine (callsIn_wide.2 (runes_make s _)).mono ?_; rintro e w' ⟨rfl, rfl⟩)
  obtain ⟨W0, hW0⟩ : ∃ W0, (w.alloc (.cells #[.bool false] 4)).alloc (.cells #[.string s] 9) = W0 := ⟨_, rfl⟩
  have hc : RowAt W0 w.heap.size 4 #[.bool false] := by rw [← hW0]; exact (RowAt.new w _ _).alloc _
  have hbx : RowAt W0 (w.heap.size + 1) 9 #[.string s] := by rw [← hW0]; have := RowAt.new (w.alloc (.cells #[.bool false] 4)) #[.string s] 9; rwa [World.size_alloc] at this
  have hB : Below w.heap.size w W0 := by rw [← hW0]; exact below_al (below_al (Below.refl _ _) _) _
  have hsz : w.heap.size + 2 ≤ W0.heap.size := by rw [← hW0]; simp
  rw [hW0]
  clear hW0
  refine wp_iter_put (gf := 127) (lb := #[.pointer (some ⟨w.heap.size + 1, 0, none⟩)]) rfl (enters_of Tryz.func127 (by kernel_rfl) rfl) (runes_on s hs (w.heap.size + 1) W0 hbx)
    (fun _ h => h.elim) (fun k hk => by subst hk; exact hbx.lt) (fun _ => rfl) (fun x => [(4, .int .i32 (x.2 : Nat))])
    (fun pre W => (RowAt W w.heap.size 4 #[.bool false] ∧ Below w.heap.size w W) ∧ allC pre = true)
    (fun c pre W => (RowAt W w.heap.size 4 #[.bool false] ∧ Below w.heap.size w W) ∧ allC pre = false ∧ c = .ret) ?hI ?hIx ⟨⟨hc, hB⟩, rfl⟩ ?assign ?body ?done ?stop
  case hI =>
    rintro pre X Y ⟨⟨h1, h2⟩, h3⟩ hk
    exact ⟨⟨hk.row h1 (fun h => by rcases h with h | h | h <;> first | exact h | omega), below_kept h2 hk (Nat.le_refl _) (fun k h => by rcases h with h | h | h; exact h.elim; all_goals omega)⟩, h3⟩
  case hIx =>
    rintro c pre X Y ⟨⟨h1, h2⟩, h3⟩ hk
    exact ⟨⟨hk.row h1 (fun h => by rcases h with h | h | h <;> first | exact h | omega), below_kept h2 hk (Nat.le_refl _) (fun k h => by rcases h with h | h | h; exact h.elim; all_goals omega)⟩, h3⟩
  case assign =>
    intro l x W K hK
    gi_wp2
    simpa [encRn, putAll] using hK
  case body =>
    rintro pre x post W hx hWs _ ⟨⟨h1, h2⟩, h3⟩
    have hcell := h1.cell (j := 0) rfl
    have hfr := h1.free 0
    have hkp : Kept (fun k => ¬ (twoOf W0.heap.size k ∨ k = w.heap.size + 1)) W (W.setCell ⟨w.heap.size, 0, none⟩ (.bool false)) := (Kept.refl _ _).setCell _ (.inl (by
      rintro (h | h)
      · rcases h with h | h <;> simp at h <;> omega
      · simp at h)) _
    have h1' := (h1.set 0 (.bool false)).eqA (A' := #[.bool false]) (by simp)
    have h2' := h2.setCell (p := ⟨w.heap.size, 0, none⟩) (Nat.le_refl _) (.bool false)
    have hok : allC (pre ++ [x]) = okC x.2 := by rw [allC_snoc, h3]; simp
    obtain ⟨c, hcx⟩ : ∃ c, c = x.2 := ⟨_, rfl⟩
    rw [← hcx] at hok
    simp only [encRn]
    rw [fold2]
    simp only [putAll, List.zip_toArray, List.foldl_toArray', List.foldl_toArray, List.zip_cons_cons, List.zip_nil_left, List.foldl_cons, List.foldl_nil, List.setIfInBounds_toArray, List.set_cons_zero, List.set_cons_succ, ← hcx]
    replace hok := hid hok
    replace h1 := hid h1
    replace h2 := hid h2
    replace h1' := hid h1'
    replace h2' := hid h2'
    replace hkp := hid hkp
    clear hx h3 hcx
    by_cases q1 : c < 32
    · have t1 : decide ((c : Int) < 32) = true := decide_eq_true (by omega)
      have q2 : (c : Int) < 32 := by omega
      have hf : okC c = false := by simp [okC, q1]
      replace hf := hid hf
      clear q1
      gi_wp2
      exact ⟨hkp.out, ⟨h1'.out, h2'.out⟩, by rw [hok.out, hf.out], rfl⟩
    · have t1 : decide ((c : Int) < 32) = false := decide_eq_false (by omega)
      have q2 : ¬ (c : Int) < 32 := by omega
      by_cases q3 : c = 127
      · have t2 : ((c : Int) == 127) = true := by rw [beq_iff_eq]; omega
        have hf : okC c = false := by simp [okC, q3]
        replace hf := hid hf
        clear q1 q3
        gi_wp2
        exact ⟨hkp.out, ⟨h1'.out, h2'.out⟩, by rw [hok.out, hf.out], rfl⟩
      · have t2 : ((c : Int) == 127) = false := by rw [beq_eq_false_iff_ne]; omega
        have hf : okC c = true := by simp [okC, q1, q3]
        replace hf := hid hf
        clear q1 q3
        gi_wp2
        exact ⟨Kept.refl _ _, ⟨h1.out, h2.out⟩, by rw [hok.out, hf.out]⟩
  case done =>
    rintro W hWs ⟨⟨h1, h2⟩, h3⟩ hd
    have LV := fun w => valid_any s hs w
    have hb : shownB s = decide (badN s < 0) := by unfold shownB; rw [h3]; simp
    clear h3
    obtain ⟨b, hbb⟩ : ∃ b, b = decide (badN s < 0) := ⟨_, rfl⟩
    rw [← hbb] at LV hb
    replace hb := hid hb
    replace LV := hid LV
    replace h1 := hid h1
    replace h2 := hid h2
    replace hd := hid hd
    clear hbb
    gi_wp2_with (refine ⟨trivial, rfl, ?_⟩; gi_at_call 100; refine (callsIn_wide.2 (LV.out _)).mono ?_; rintro e w5 ⟨rfl, hB5⟩
                 have r5 := h1.out.below hB5 h1.out.lt
                 have c5 := r5.cell (j := 0) rfl
                 have f5 := r5.free 0
                 have d5 := (hB5.block _ (Array.getElem?_eq_some_iff.1 hd.out).1).trans hd.out
                 have b5 := below_cat hB5 h2.out
                 replace r5 := hid r5
                 replace d5 := hid d5
                 replace b5 := hid b5)
    have r6 := (r5.out.set 0 (.bool b)).eqA (A' := #[.bool b]) (by simp)
    have d6 := defer_cell d5.out ⟨w.heap.size, 0, none⟩ (.bool b) (by show W0.heap.size ≠ w.heap.size; omega)
    have b6 := b5.out.setCell (p := ⟨w.heap.size, 0, none⟩) (Nat.le_refl _) (.bool b)
    generalize w5.setCell ⟨w.heap.size, 0, none⟩ (.bool b) = Z at r6 d6 b6 ⊢
    have r7 : RowAt (Z.putObj W0.heap.size (.deferred none)) w.heap.size 4 #[.bool b] := (World.putObj_heap_other (by omega)).trans r6
    refine leave_one d6 ⟨_, results_cell1 rfl _ _ _ _ rfl (r7.cell (j := 0) rfl) Tryz.underlying4, by rw [hb.out]; rfl, ?_⟩
    exact below_kept b6 ((Kept.refl (fun k => k = W0.heap.size) _).putObj _ _ (.inl rfl)) (Nat.le_refl _) (fun k hk => by omega)
  case stop =>
    rintro c pre x post W hWs hx ⟨⟨h1, h2⟩, h3, rfl⟩ hd
    have hb : shownB s = false := by
      unfold shownB; rw [hx, show pre ++ x :: post = (pre ++ [x]) ++ post by simp, allC_append, h3]; simp
    replace hb := hid hb
    have hcell := h1.cell (j := 0) rfl
    gi_wp2
    have r7 : RowAt (W.putObj W0.heap.size (.deferred none)) w.heap.size 4 #[.bool false] := (World.putObj_heap_other (by omega)).trans h1
    refine leave_one hd ⟨_, results_cell1 rfl _ _ _ _ rfl (r7.cell (j := 0) rfl) Tryz.underlying4, by rw [hb.out]; rfl, ?_⟩
    exact below_kept h2 ((Kept.refl (fun k => k = W0.heap.size) _).putObj _ _ (.inl rfl)) (Nat.le_refl _) (fun k hk => by omega)
end
end Go.Proofs.YtdjlpmelmhhooaaGreatDoor
