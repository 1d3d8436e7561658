/- Disk: what settle does with one write: its region that draws its order. Printed by wip/tools/mkDkJ.py. -/
import Derived.Test.YtaofpeajfgcjcaaDkI
namespace Go.Proofs.Ytaofpeajfgcjcaa
open Go Go.RowKit Go.Maps
set_option linter.unusedSimpArgs false
set_option linter.unusedVariables false

/-- The first m bytes of a write done. -/
def ovl (l : Nat → UInt8) (a m : Nat) (b : Blk) : Nat → UInt8 := fun j => if a * 128 ≤ j ∧ j < a * 128 + m then b (j - a * 128) else l j
theorem ovl_zero (l : Nat → UInt8) (a : Nat) (b : Blk) : ovl l a 0 b = l := by
  funext j; unfold ovl; rw [if_neg (by omega)]
unseal blkA lastsA in
theorem lasts_ovl (n : Nat) (l : Nat → UInt8) (a m : Nat) (b : Blk) (ha : a < n) (hm : m ≤ 128) :
    ((lastsA n l).toList.take (a * 128) ++ (blkA b).toList.take m ++ (lastsA n l).toList.drop (a * 128 + ((blkA b).toList.take m).length)).toArray = lastsA n (ovl l a m b) := by
  have hl : ((blkA b).toList.take m).length = m := by rw [List.length_take, Array.length_toList, blkA_size]; omega
  rw [hl]
  have hs := lastsA_size n l
  refine rowA_of ?_ (fun j hj => ?_)
  · simp only [List.size_toArray, List.length_append, List.length_take, List.length_drop, Array.length_toList, hs, blkA_size]
    omega
  · rw [List.getElem?_toArray]
    have hg : ∀ i, i < n * 128 → (lastsA n l).toList[i]? = some (u8c (l i)) := fun i hi => by rw [Array.getElem?_toList]; exact rowA_get _ _ _ hi
    rcases Nat.lt_or_ge j (a * 128) with h1 | h1
    · rw [List.getElem?_append_left (by simp only [List.length_append, List.length_take, Array.length_toList, hs, blkA_size]; omega), List.getElem?_append_left (by simp only [List.length_take, Array.length_toList, hs]; omega), List.getElem?_take, if_pos h1, hg j hj]
      unfold ovl; rw [if_neg (by omega)]
    · rcases Nat.lt_or_ge j (a * 128 + m) with h2 | h2
      · rw [List.getElem?_append_left (by simp only [List.length_append, List.length_take, Array.length_toList, hs, blkA_size]; omega), List.getElem?_append_right (by simp only [List.length_take, Array.length_toList, hs]; omega)]
        simp only [List.length_take, Array.length_toList, hs]
        rw [List.getElem?_take, if_pos (by omega), Array.getElem?_toList, blkA_get _ _ (by omega)]
        unfold ovl; rw [if_pos ⟨h1, h2⟩]
        congr 3
        omega
      · rw [List.getElem?_append_right (by simp only [List.length_append, List.length_take, Array.length_toList, hs, blkA_size]; omega)]
        simp only [List.length_append, List.length_take, Array.length_toList, hs, blkA_size]
        rw [List.getElem?_drop, show a * 128 + m + (j - (min (a * 128) (n * 128) + min m 128)) = j by omega, hg j hj]
        unfold ovl; rw [if_neg (by omega)]
theorem opR_copy_row {P : Program} {o : Oper} {a : Act} {w : World} {Ψ : Value → World → Prop} (d s : Operand) (dT sT elem : TypeId) (ho : o.op = .call { callee := .builtin .copy, args := #[d, s], argTypes := #[dT, sT] })
    (b off dLen dCap : Nat) (ad : Addr) (sLen sCap : Nat) (cur : Array Value) (t : TypeId) (cs : List Value) (hd : a.eval d = .slice (some ⟨b, off, none⟩) dLen dCap) (hs : a.eval s = .slice (some ad) sLen sCap)
    (hu : P.underlying dT = some (.slice elem)) (hi : (P.info? elem).map (·.size) = some 1) (hb : RowAt w b t cur) (hn : cs.length = Nat.min sLen dLen)
    (hsrc : ∀ j v, cs[j]? = some v → w.cell? (ad.add j) = some v) (hfit : off + cs.length ≤ cur.size) (h1 : ∀ v ∈ cs, v.oneCell' = true)
    (h : Ψ (goInt cs.length) (w.setRow b (cur.toList.take off ++ cs ++ cur.toList.drop (off + cs.length)).toArray)) : OpR P o a w Ψ := by
  have hr := run_copy_row (P := P) w dT sT o.type elem b off dLen dCap ad sLen sCap cur t cs hu hi hb hn hsrc hfit h1
  unfold OpR execOp
  simp only [ho, resolve, invoke, builtin, Sem.run_bind, Sem.run_pure, Result.andThen_ok, List.map_toArray, List.map_cons, List.map_nil, hd, hs, hr]
  exact h
theorem infoU8 : (Try.prog.info? 5).map (·.size) = some 1 := by kernel_rfl

set_option maxRecDepth 1000000 in
set_option maxHeartbeats 4000000 in
theorem settle_r4 {d L b n m : Nat} {l : Nat → UInt8} {x1 x2 x3 x4 x5 : Value} {p : Nat × Blk} {w : World} (hp : p.1 < n) (hn : n ≤ 4096) (hm : m ≤ 128) (rd : Hid (RowAt w d 57 #[.slice (some ⟨L, 0, none⟩) n n, x1, x2, x3, x4, x5])) (rb : Hid (RowAt w b 60 (wrA p))) (rL : Hid (RowAt w L 32 (lastsA n l))) {Q : Exit → Act → World → Prop} (u1 u2 u3 u4 u7 u8 u9 u10 u11 u12 u13 u14 u15 u16 u17 u18 u19 u20 u21 u22 u23 u24 u25 u26 u27 u28 u29 u30 u31 u32 u33 u34 u35 u36 u37 u38 u39 u40 u41 u42 : Value)
    (hK : ∀ (v19 v20 v21 v22 v23 v24 v25 v26 v27 v28 v29 v30 v31 : Value) (W : World), RowAt W L 32 (lastsA n (ovl l p.1 m p.2)) → Kept (fun k => k = L) w W → Q .normal { tmps := #[.pointer (some ⟨d, 0, none⟩), u1, u2, u3, u4, .pointer (some ⟨b, 0, none⟩), .int .i64 (m : Nat), u7, u8, u9, u10, u11, u12, u13, u14, u15, u16, u17, u18, v19, v20, v21, v22, v23, v24, v25, v26, v27, v28, v29, v30, v31, u32, u33, u34, u35, u36, u37, u38, u39, u40, u41, u42], defers := [] } W) :
    (fragR Try.f26 4).wp Try.prog Q { tmps := #[.pointer (some ⟨d, 0, none⟩), u1, u2, u3, u4, .pointer (some ⟨b, 0, none⟩), .int .i64 (m : Nat), u7, u8, u9, u10, u11, u12, u13, u14, u15, u16, u17, u18, u19, u20, u21, u22, u23, u24, u25, u26, u27, u28, u29, u30, u31, u32, u33, u34, u35, u36, u37, u38, u39, u40, u41, u42], defers := [] } w := by
  dsimp only at hK ⊢
  rw [show fragR Try.f26 4 = Code.region _ (List.toArray _) true from rfl]
  have i1 : (0 : Int) ≤ (p.1 : Int) := by omega
  have i2 : (p.1 : Int) < (n : Int) := by omega
  have i3 : (0 : Int) ≤ (m : Int) := by omega
  have i4 : (m : Int) ≤ 128 := by omega
  refine wp_region_st 43 [12] [19, 20, 21, 22, 23, 24, 25, 26, 27, 28, 29, 30, 31] (phiOf [QV (.pointer (some ⟨d, 0, none⟩)), QV (.pointer (some ⟨d, 0, none⟩)), QV (.pointer (some ⟨d, 0, none⟩)), QV (.slice (some ⟨L, 0, none⟩) n n), QV (.pointer (some ⟨b, 0, none⟩)), QV (.int .i64 (p.1 : Nat)), QV (.pointer (some ⟨L, p.1 * 128, none⟩)), QV (.int .i64 (m : Nat)), QV (.slice (some ⟨L, p.1 * 128, none⟩) m 128), QV (.pointer (some ⟨b, 1, none⟩)), QV (.int .i64 (m : Nat)), QV (.slice (some ⟨b, 1, none⟩) m 128), fun _ _ => True]) (gOf [fun W => Below w.heap.size w W, fun W => RowAt W L 32 (lastsA n (ovl l p.1 m p.2))]) (tOf [fun k => k = L]) (fun k => k = L) (by kernel_rfl) (by kernel_rfl) (by kernel_rfl) rfl ?r4TT (phi_st ?r4st) (gOf_stays ?r4G) ?r4G0 ?r4g ?r4op ?r4fin
  case r4TT =>
    refine tOf_in ?_
    simp only [List.forall_mem_cons]; exact ⟨fun b hb => hb, fun _ h => by cases h⟩
  case r4st => exact ⟨stq _ _ _ _, stq _ _ _ _, stq _ _ _ _, stq _ _ _ _, stq _ _ _ _, stq _ _ _ _, stq _ _ _ _, stq _ _ _ _, stq _ _ _ _, stq _ _ _ _, stq _ _ _ _, stq _ _ _ _, fun _ _ _ _ _ h _ => trivial, trivial⟩
  case r4G => simp only [List.forall_mem_cons]; exact ⟨fun W W' h hb => below_cat hb h, fun W W' h hb => h.below hb h.lt, fun _ h => by cases h⟩
  case r4G0 => exact (Below.refl _ _).drew
  case r4g => exact no_guards rfl
  case r4op =>
    refine ⟨fun s a W hlo hhi hG hkT hold hdep hgv => ?_, ?_⟩
    · show OpOk _ _ _ _ _
      have h0 : a.tmps.getD 0 undef = .pointer (some ⟨d, 0, none⟩) := (hold 0 (by kernel_rfl)).trans rfl
      unfold OpOk
      simp [execOp, go_sem, eval_tmp, eval_const, eval_func, h0]
      exact ⟨Below.refl _ _, rfl⟩
    refine ⟨fun s a W hlo hhi hG hkT hold hdep hgv => ?_, ?_⟩
    · show OpOk _ _ _ _ _
      have h19 : a.tmps.getD 19 undef = .pointer (some ⟨d, 0, none⟩) := hdep 0 19 (by kernel_rfl) rfl
      unfold OpOk
      simp [execOp, go_sem, eval_tmp, eval_const, eval_func, h19]
      exact ⟨Below.refl _ _, rfl⟩
    refine ⟨fun s a W hlo hhi hG hkT hold hdep hgv => ?_, ?_⟩
    · show OpOk _ _ _ _ _
      have h20 : a.tmps.getD 20 undef = .pointer (some ⟨d, 0, none⟩) := hdep 1 20 (by kernel_rfl) rfl
      unfold OpOk
      simp [execOp, go_sem, eval_tmp, eval_const, eval_func, h20]
      exact ⟨Below.refl _ _, rfl⟩
    refine ⟨fun s a W hlo hhi hG hkT hold hdep hgv => ?_, ?_⟩
    · obtain rfl : s = 0 := Nat.le_zero.1 (Nat.le_trans hhi (Nat.le_of_eq (by kernel_rfl)))
      show OpOk _ _ _ _ _
      replace hG : Below w.heap.size w W := hG
      have h21 : a.tmps.getD 21 undef = .pointer (some ⟨d, 0, none⟩) := hdep 2 21 (by kernel_rfl) rfl
      have hc : W.cell? ⟨d, 0, none⟩ = some (.slice (some ⟨L, 0, none⟩) n n) := (rd.out.below hG rd.out.lt).cell rfl
      unfold OpOk
      simp [execOp, go_sem, eval_tmp, eval_const, eval_func, h21, hc]
      exact ⟨Below.refl _ _, rfl⟩
    refine ⟨fun s a W hlo hhi hG hkT hold hdep hgv => ?_, ?_⟩
    · show OpOk _ _ _ _ _
      have h5 : a.tmps.getD 5 undef = .pointer (some ⟨b, 0, none⟩) := (hold 5 (by kernel_rfl)).trans rfl
      unfold OpOk
      simp [execOp, go_sem, eval_tmp, eval_const, eval_func, h5]
      exact ⟨Below.refl _ _, rfl⟩
    refine ⟨fun s a W hlo hhi hG hkT hold hdep hgv => ?_, ?_⟩
    · obtain rfl : s = 0 := Nat.le_zero.1 (Nat.le_trans hhi (Nat.le_of_eq (by kernel_rfl)))
      show OpOk _ _ _ _ _
      replace hG : Below w.heap.size w W := hG
      have h23 : a.tmps.getD 23 undef = .pointer (some ⟨b, 0, none⟩) := hdep 4 23 (by kernel_rfl) rfl
      have hc : W.cell? ⟨b, 0, none⟩ = some (.int .i64 (p.1 : Nat)) := (rb.out.below hG rb.out.lt).cell (wrA_get0 p)
      unfold OpOk
      simp [execOp, go_sem, eval_tmp, eval_const, eval_func, h23, hc]
      exact ⟨Below.refl _ _, rfl⟩
    refine ⟨fun s a W hlo hhi hG hkT hold hdep hgv => ?_, ?_⟩
    · obtain rfl : s = 0 := Nat.le_zero.1 (Nat.le_trans hhi (Nat.le_of_eq (by kernel_rfl)))
      show OpOk _ _ _ _ _
      replace hG : Below w.heap.size w W := hG
      have h22 : a.tmps.getD 22 undef = .slice (some ⟨L, 0, none⟩) n n := hdep 3 22 (by kernel_rfl) rfl
      have h24 : a.tmps.getD 24 undef = .int .i64 (p.1 : Nat) := hdep 5 24 (by kernel_rfl) rfl
      unfold OpOk
      simp [execOp, go_sem, eval_tmp, eval_const, eval_func, h22, h24, i1, i2]
      exact ⟨Below.refl _ _, rfl⟩
    refine ⟨fun s a W hlo hhi hG hkT hold hdep hgv => ?_, ?_⟩
    · show OpOk _ _ _ _ _
      have h6 : a.tmps.getD 6 undef = .int .i64 (m : Nat) := (hold 6 (by kernel_rfl)).trans rfl
      unfold OpOk
      simp [execOp, go_sem, eval_tmp, eval_const, eval_func, h6]
      exact ⟨Below.refl _ _, rfl⟩
    refine ⟨fun s a W hlo hhi hG hkT hold hdep hgv => ?_, ?_⟩
    · obtain rfl : s = 0 := Nat.le_zero.1 (Nat.le_trans hhi (Nat.le_of_eq (by kernel_rfl)))
      show OpOk _ _ _ _ _
      replace hG : Below w.heap.size w W := hG
      have h25 : a.tmps.getD 25 undef = .pointer (some ⟨L, p.1 * 128, none⟩) := hdep 6 25 (by kernel_rfl) rfl
      have h26 : a.tmps.getD 26 undef = .int .i64 (m : Nat) := hdep 7 26 (by kernel_rfl) rfl
      unfold OpOk
      simp [execOp, go_sem, eval_tmp, eval_const, eval_func, h25, h26, i3, i4]
      exact ⟨Below.refl _ _, rfl⟩
    refine ⟨fun s a W hlo hhi hG hkT hold hdep hgv => ?_, ?_⟩
    · show OpOk _ _ _ _ _
      have h5 : a.tmps.getD 5 undef = .pointer (some ⟨b, 0, none⟩) := (hold 5 (by kernel_rfl)).trans rfl
      unfold OpOk
      simp [execOp, go_sem, eval_tmp, eval_const, eval_func, h5]
      exact ⟨Below.refl _ _, rfl⟩
    refine ⟨fun s a W hlo hhi hG hkT hold hdep hgv => ?_, ?_⟩
    · show OpOk _ _ _ _ _
      have h6 : a.tmps.getD 6 undef = .int .i64 (m : Nat) := (hold 6 (by kernel_rfl)).trans rfl
      unfold OpOk
      simp [execOp, go_sem, eval_tmp, eval_const, eval_func, h6]
      exact ⟨Below.refl _ _, rfl⟩
    refine ⟨fun s a W hlo hhi hG hkT hold hdep hgv => ?_, ?_⟩
    · obtain rfl : s = 0 := Nat.le_zero.1 (Nat.le_trans hhi (Nat.le_of_eq (by kernel_rfl)))
      show OpOk _ _ _ _ _
      replace hG : Below w.heap.size w W := hG
      have h28 : a.tmps.getD 28 undef = .pointer (some ⟨b, 1, none⟩) := hdep 9 28 (by kernel_rfl) rfl
      have h29 : a.tmps.getD 29 undef = .int .i64 (m : Nat) := hdep 10 29 (by kernel_rfl) rfl
      unfold OpOk
      simp [execOp, go_sem, eval_tmp, eval_const, eval_func, h28, h29, i3, i4]
      exact ⟨Below.refl _ _, rfl⟩
    refine ⟨fun s a W hlo hhi hG hkT hold hdep hgv => ?_, ?_⟩
    · obtain rfl : s = 0 := Nat.le_antisymm (Nat.le_trans hhi (Nat.le_of_eq (by kernel_rfl))) (Nat.le_trans (Nat.le_of_eq (by kernel_rfl)) hlo)
      show OpR _ _ _ _ _
      replace hG : (fun W => Below w.heap.size w W) W := hG
      have h27 : a.tmps.getD 27 undef = .slice (some ⟨L, p.1 * 128, none⟩) m 128 := hdep 8 27 (by kernel_rfl) rfl
      have h30 : a.tmps.getD 30 undef = .slice (some ⟨b, 1, none⟩) m 128 := hdep 11 30 (by kernel_rfl) rfl
      refine opR_copy_row (.tmp 27) (.tmp 30) 66 66 5 rfl L (p.1 * 128) m 128 ⟨b, 1, none⟩ m 128 (lastsA n l) 32 ((blkA p.2).toList.take m) h27 h30 Try.underlying66 infoU8 (rL.out.below hG rL.out.lt) (by rw [List.length_take, Array.length_toList, blkA_size]; show min m 128 = min m m; omega) ?_ (by rw [List.length_take, Array.length_toList, blkA_size, lastsA_size]; omega) (fun v hv => all_list (blkA_one p.2) v (List.mem_of_mem_take hv)) ?_
      · intro j v hj
        rw [Addr.add_mid, Nat.add_comm]
        refine (rb.out.below hG rb.out.lt).cell ?_
        rw [wrA_get]
        rw [List.getElem?_take] at hj
        split at hj
        · rwa [Array.getElem?_toList] at hj
        · cases hj
      · rw [lasts_ovl n l p.1 m p.2 hp hm]
        exact ⟨⟨rfl, rfl, rfl, by simp, fun k hk hs => setRow_other W L k _ hs⟩, (rL.out.below hG rL.out.lt).setRow _, trivial⟩
    trivial
  case r4fin =>
    intro X W hG hkT hX
    replace hG : (fun W => RowAt W L 32 (lastsA n (ovl l p.1 m p.2))) W := hG
    have e19 : X 19 = .pointer (some ⟨d, 0, none⟩) := hX 0 19 (by decide) rfl
    have e20 : X 20 = .pointer (some ⟨d, 0, none⟩) := hX 1 20 (by decide) rfl
    have e21 : X 21 = .pointer (some ⟨d, 0, none⟩) := hX 2 21 (by decide) rfl
    have e22 : X 22 = .slice (some ⟨L, 0, none⟩) n n := hX 3 22 (by decide) rfl
    have e23 : X 23 = .pointer (some ⟨b, 0, none⟩) := hX 4 23 (by decide) rfl
    have e24 : X 24 = .int .i64 (p.1 : Nat) := hX 5 24 (by decide) rfl
    have e25 : X 25 = .pointer (some ⟨L, p.1 * 128, none⟩) := hX 6 25 (by decide) rfl
    have e26 : X 26 = .int .i64 (m : Nat) := hX 7 26 (by decide) rfl
    have e27 : X 27 = .slice (some ⟨L, p.1 * 128, none⟩) m 128 := hX 8 27 (by decide) rfl
    have e28 : X 28 = .pointer (some ⟨b, 1, none⟩) := hX 9 28 (by decide) rfl
    have e29 : X 29 = .int .i64 (m : Nat) := hX 10 29 (by decide) rfl
    have e30 : X 30 = .slice (some ⟨b, 1, none⟩) m 128 := hX 11 30 (by decide) rfl
    clear hX
    simp only [List.map_cons, List.map_nil, putAll, List.foldl_cons, List.foldl_nil, List.setIfInBounds_toArray, List.set_cons_zero, List.set_cons_succ, e19, e20, e21, e22, e23, e24, e25, e26, e27, e28, e29, e30]
    clear e19 e20 e21 e22 e23 e24 e25 e26 e27 e28 e29 e30
    exact hK _ _ _ _ _ _ _ _ _ _ _ _ _ _ hG hkT

end Go.Proofs.Ytaofpeajfgcjcaa