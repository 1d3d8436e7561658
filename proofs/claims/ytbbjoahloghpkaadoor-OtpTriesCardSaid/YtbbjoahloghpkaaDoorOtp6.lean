/- Tries, one behind the other: the iterator's contract. -/
import Derived.Test.YtbbjoahloghpkaaDoorOtp2
import Derived.Test.YtbbjoahloghpkaaDoorIterW
import Derived.Test.YtbbjoahloghpkaaDoorStrsIn
import Derived.OwnWalkIn
import Derived.TacticsInMore
import Derived.LoopNIn
import Derived.LoopIn
import Derived.Shelf.Abstract
import Derived.Shelf.RegionOpen
namespace Go.Proofs.YtbbjoahloghpkaaDoor
open Go Go.RowKit
set_option linter.unusedSimpArgs false
set_option linter.unusedVariables false

/-- What is handed out: each text, and the state behind it. -/
def runO (code : ByteArray) : OSt → List ByteArray → List (ByteArray × OSt)
  | _, [] => []
  | s, x :: l => (x, (s.enter (decide (code = x)) 0).1) :: runO code (s.enter (decide (code = x)) 0).1 l
def encR (p : ByteArray × OSt) : Array Value := #[.string p.1, .agg #[.int .i64 p.2.tries, .int .u64 (p.2.dl : Nat), .int .i64 p.2.over]]
def InvO (s : OSt) : Prop := 0 ≤ s.tries ∧ s.tries ≤ 9 ∧ (s.over = 0 → 1 ≤ s.tries)
theorem InvO.enter {s : OSt} (h : InvO s) (b : Bool) (now : Nat) : InvO (s.enter b now).1 := by
  obtain ⟨t, d, o⟩ := s
  obtain ⟨h1, h2, h3⟩ := h
  simp only at h1 h2 h3
  unfold OSt.enter
  split
  · exact ⟨h1, h2, fun h => by cases h⟩
  · split
    · exact ⟨h1, h2, h3⟩
    · rename_i ho
      have := h3 (Decidable.not_not.1 ho)
      split
      · exact ⟨h1, h2, fun h => by cases h⟩
      · simp only
        split
        · exact ⟨by simp only; omega, by simp only; omega, fun _ => by simp only; omega⟩
        · exact ⟨by simp only; omega, by simp only; omega, fun h => by cases h⟩
theorem cell_kept {S : Nat → Prop} {W W' : World} (hk : Kept S W W') {p : Addr} {v : Value} (h : W.cell? p = some v) (hS : ¬ S p.block) : W'.cell? p = some v := by
  have hb := hk.block p.block (World.block_lt_of_cell? W p h) hS
  unfold World.cell? at h ⊢
  rw [hb]; exact h
theorem addr_add_block (a : Addr) (n : Nat) : (a.add n).block = a.block := by unfold Addr.add; split <;> rfl
theorem IsStrs.kept {S : Nat → Prop} {w w' : World} {a : Option Addr} {len : Nat} {ss : List ByteArray} (h : IsStrs w a len ss) (hk : Kept S w w') (hS : ∀ x, a = some x → ¬ S x.block) : IsStrs w' a len ss := by
  rcases h with h | ⟨x, hx, hl, hc, hs⟩
  · exact .inl h
  · exact .inr ⟨x, hx, hl, fun i s hi => cell_kept hk (hc i s hi) (by rw [addr_add_block]; exact hS x hx), hs⟩
theorem Kept.three {S : Nat → Prop} {A B : World} (h : Kept S A B) {b : Nat} (hb : S b ∨ A.heap.size ≤ b) (x y z : Value) : Kept S A (((B.setCell ⟨b, 0, none⟩ x).setCell ⟨b, 1, none⟩ y).setCell ⟨b, 2, none⟩ z) :=
  ((h.setCell ⟨b, 0, none⟩ hb x).setCell ⟨b, 1, none⟩ hb y).setCell ⟨b, 2, none⟩ hb z

set_option maxRecDepth 100000 in
theorem run_make (s : OSt) (code : ByteArray) (a : Option Addr) (len cap : Nat) (w : World) : Calls Tryd.prog 41 #[.agg #[.int .i64 s.tries, .int .u64 (s.dl : Nat), .int .i64 s.over], .string code, .slice a len cap] w fun e w' =>
    e = .returned (.func (.func 67) #[] #[.pointer (some ⟨w.heap.size, 0, none⟩), .pointer (some ⟨w.heap.size + 1 + 1, 0, none⟩), .pointer (some ⟨w.heap.size + 1, 0, none⟩)]) ∧
    ((w.alloc (.cells #[.int .i64 s.tries, .int .u64 (s.dl : Nat), .int .i64 s.over] 47)).alloc (.cells #[.string code] 9)).alloc (.cells #[.slice a len cap] 59) = w' := by
  go_enter Tryd.func41, Tryd.ntmps41
  go_wp2
  go_ret
  exact ⟨rfl, rfl⟩

/-- What a consumer must leave as it lay. -/
def keepO (w : World) (bc : Nat) (a : Option Addr) (ss : List ByteArray) (k : Nat) : Prop := k = w.heap.size + 2 ∨ k = bc ∨ ∃ x, a = some x ∧ k = x.block ∧ ss ≠ []

attribute [local go_sem] Oper.semAt_some
set_option maxRecDepth 100000 in
set_option maxHeartbeats 8000000 in
theorem run_on (s : OSt) (code : ByteArray) (ss : List ByteArray) (hs : InvO s) (hc : code.size ≤ 1000000) (hss : ∀ x ∈ ss, x.size ≤ 1000000) (hlen : ss.length ≤ 1000000) (a : Option Addr) (len cap bs bl bc : Nat) (w : World)
    (rs : RowAt w bs 47 #[.int .i64 s.tries, .int .u64 (s.dl : Nat), .int .i64 s.over]) (rl : RowAt w bl 59 #[.slice a len cap]) (rc : RowAt w bc 9 #[.string code]) (hin : IsStrs w a len ss) :
    IterAt Tryd.prog 1 67 #[.pointer (some ⟨bs, 0, none⟩), .pointer (some ⟨bl, 0, none⟩), .pointer (some ⟨bc, 0, none⟩)] encR (fun k => k = w.heap.size + 2) (keepO w bc a ss) (runO code s ss) w := by
  intro l J Jx W hb hsz hJ hJx hY h0
  have rsW := rs.below hb rs.lt
  have rlW := rl.below hb rl.lt
  have rcW := rc.below hb rc.lt
  have hinW := hin.below hb
  have c0 : W.cell? ⟨bs, 0, none⟩ = some (.int .i64 s.tries) := rsW.cell rfl
  have c1 : W.cell? ⟨bs, 1, none⟩ = some (.int .u64 (s.dl : Nat)) := rsW.cell rfl
  have c2 : W.cell? ⟨bs, 2, none⟩ = some (.int .i64 s.over) := rsW.cell rfl
  have d0 : ∀ o, (W.alloc o).cell? ⟨bl, 0, none⟩ = some (.slice a len cap) := fun o => (rlW.alloc o).cell rfl
  obtain ⟨nb, hnb⟩ : ∃ nb, nb = W.heap.size := ⟨_, rfl⟩
  have hnbw : nb = w.heap.size + 2 := by omega
  have hrel0 : RowAt (W.alloc (.cells #[.int .i64 s.tries, .int .u64 (s.dl : Nat), .int .i64 s.over] 47)) nb 47 #[.int .i64 s.tries, .int .u64 (s.dl : Nat), .int .i64 s.over] := by rw [hnb]; exact RowAt.new _ _ _
  have hj0 := hJ [] W (W.alloc (.cells #[.int .i64 s.tries, .int .u64 (s.dl : Nat), .int .i64 s.over] 47)) h0 ((Kept.refl _ _).alloc _)
  have rc0 := rcW.alloc (.cells #[.int .i64 s.tries, .int .u64 (s.dl : Nat), .int .i64 s.over] 47)
  have hin0 := hinW.below (below_al (Below.refl _ _) (.cells #[.int .i64 s.tries, .int .u64 (s.dl : Nat), .int .i64 s.over] 47))
  have hsl := hin.len
  have hbcl : bc < w.heap.size := rc.lt
  have hss' := hid hss
  have hblt : ∀ x, a = some x → ∀ (i : Nat) y, ss[i]? = some y → x.block < w.heap.size := fun x hx i y hi => by
    obtain ⟨x', hx', hc'⟩ := hin.at hi
    have e : x = x' := Option.some.inj (hx.symm.trans hx')
    have h2 : (x'.add i).block < w.heap.size := World.block_lt_of_cell? w _ hc'
    rw [addr_add_block] at h2
    rw [e]; exact h2
  refine callsIn_of_wp Tryd.func67 rfl trivial ?_
  simp only [Tryd.ntmps67, List.size_toArray, List.length_cons, List.length_nil, Nat.reduceAdd, Nat.reduceSub, Array.replicate_succ, Array.replicate_zero, List.push_toArray, List.append_toArray, List.nil_append, List.cons_append]
  clear hss
  replace hrel0 := hid hrel0
  replace hj0 := hid hj0
  replace rc0 := hid rc0
  replace hin0 := hid hin0
  replace hnbw := hid hnbw
  replace hblt := hid hblt
  clear rsW rlW rcW hinW rs rl rc hin h0
  gi_wp2
  rw [← hnbw.out]
  obtain ⟨W0, hW0⟩ : ∃ W0, W0 = W.alloc (.cells #[.int .i64 s.tries, .int .u64 (s.dl : Nat), .int .i64 s.over] 47) := ⟨_, rfl⟩
  rw [← hW0] at hrel0 hj0 rc0 hin0 ⊢
  have hsz0 : W.heap.size + 1 ≤ W0.heap.size := by rw [hW0]; simp
  clear hW0 c0 c1 c2 d0 hnb
  gi_loopw [11] (fun p wr => ∃ (i : Nat) (pre : List (ByteArray × OSt)) (u : OSt), p = .int .i64 i ∧ i ≤ len ∧ InvO u ∧ Hid (runO code s ss = pre ++ runO code u (ss.drop i)) ∧ Hid (J pre wr) ∧ Hid (RowAt wr nb 47 #[.int .i64 u.tries, .int .u64 (u.dl : Nat), .int .i64 u.over]) ∧ Hid (RowAt wr bc 9 #[.string code]) ∧ Hid (IsStrs wr a len ss) ∧ W.heap.size + 1 ≤ wr.heap.size)
    (fun p _ => len - (intOf p).toNat)
  case atStart => exact ⟨0, [], s, rfl, Nat.zero_le _, hs, hid (by simp), hj0, hrel0, rc0, hin0, hsz0⟩
  case round =>
    clear hj0 hrel0 rc0 hin0 hs
    obtain ⟨i, pre, u, rfl, hi, hu, hx, hj, rn, rcc, hi2, hsw⟩ := hrel
    by_cases hlt : i < len
    · have hil : i < ss.length := by omega
      obtain ⟨y, hy0⟩ : ∃ y, ss[i]? = some y := ⟨_, List.getElem?_eq_getElem hil⟩
      obtain ⟨x, rfl, hcx⟩ := hi2.out.at hy0
      have hxb : x.block < w.heap.size := hblt.out x rfl i y hy0
      have hys : y.size ≤ 1000000 := hss'.out y (List.mem_of_getElem? hy0)
      have hdrop : ss.drop i = y :: ss.drop (i + 1) := by
        rw [List.drop_eq_getElem_cons hil]
        congr 1
        rw [List.getElem?_eq_getElem hil] at hy0
        exact Option.some.inj hy0
      rw [hdrop] at hx
      have hx' : runO code s ss = pre ++ (y, (u.enter (decide (code = y)) 0).1) :: runO code (u.enter (decide (code = y)) 0).1 (ss.drop (i + 1)) := hx.out
      have hu' := hu.enter (decide (code = y)) 0
      obtain ⟨⟨v, kk⟩, hv⟩ : ∃ q : OSt × Int, q = u.enter (decide (code = y)) 0 := ⟨_, rfl⟩
      rw [← hv] at hx' hu'
      have cE0 := fun w => enter_at u v kk 0 code y hv.symm (by have := hu.1; omega) (by have := hu.2.1; omega) hc hys w
      rw [show ((0 : Nat) : Int) = 0 from rfl] at cE0
      have cE := hid cE0
      clear cE0 hv hx hdrop hy0
      obtain ⟨u0, u1, u2⟩ := OSt.read rn.out
      have cc : wr.cell? ⟨bc, 0, none⟩ = some (.string code) := rcc.out.cell rfl
      obtain ⟨vt, vd, vo⟩ := v
      dsimp only at cE hx' hu'
      replace hx' := hid hx'
      replace hu' := hid hu'
      have hd : decide ((i : Int) < (len : Int)) = true := by rw [decide_eq_true_iff]; omega
      gi_wp2_with (refine ⟨trivial, rfl, ?_⟩; gi_at_call 35; with_reducible refine (callsIn_wide.2 (cE.out _)).mono ?_; rintro e w1 ⟨rfl, hB1⟩
                   have rn1 := rn.out.below hB1 rn.out.lt
                   obtain ⟨n0, n1, n2⟩ := OSt.read rn1
                   have nf0 := rn1.free 0
                   have nf1 := rn1.free 1
                   have nf2 := rn1.free 2
                   have hk3 := Kept.three (Kept.refl (fun k => k = w.heap.size + 2) w1) (b := nb) (.inl hnbw.out) (.int .i64 vt) (.int .u64 (vd : Nat)) (.int .i64 vo)
                   have hj3 := hJ _ _ _ (hJ _ _ _ hj.out (Kept.of_below hB1)) hk3
                   have rn3 := rn1.three (.int .i64 vt) (.int .u64 (vd : Nat)) (.int .i64 vo)
                   have hs3 : W.heap.size + 1 ≤ (((w1.setCell ⟨nb, 0, none⟩ (.int .i64 vt)).setCell ⟨nb, 1, none⟩ (.int .u64 (vd : Nat))).setCell ⟨nb, 2, none⟩ (.int .i64 vo)).heap.size := Nat.le_trans hsw (Nat.le_trans hB1.size hk3.size)
                   obtain ⟨fn, tmps, assign, body, hy, hR⟩ := hY pre (y, ⟨vt, vd, vo⟩) _ _ hx'.out hs3 hj3
                   simp only [encR] at hy
                   replace hj3 := hid hj3
                   replace rn3 := hid rn3
                   replace rn1 := hid rn1
                   replace hk3 := hid hk3)
      refine ⟨rfl, hR.mono ?_⟩
      have hD1 : ¬ ¬ keepO w bc (some x) ss nb := fun h => h (.inl hnbw.out)
      have hD2 : ¬ ¬ keepO w bc (some x) ss bc := fun h => h (.inr (.inl rfl))
      have hne : ss ≠ [] := fun h => by rw [h] at hil; cases hil
      have hbcn : ¬ bc = w.heap.size + 2 := by omega
      rintro e W2 (⟨rfl, hj4, hk4⟩ | ⟨rfl, hj4, hk4⟩)
      · have rn4 := hid (hk4.row rn3.out hD1)
        have rc4 := hid (hk4.row (hk3.out.row (rcc.out.below hB1 rcc.out.lt) hbcn) hD2)
        have hi4 := hid (((hi2.out.below hB1).kept hk3.out (fun z hz hzn => by cases hz; omega)).kept hk4 (fun z hz h => h (.inr (.inr ⟨z, hz, rfl, hne⟩))))
        have hs4 := Nat.le_trans hs3 hk4.size
        have hj5 := hid hj4
        clear hj4 hk4 hj rn rcc hi2 hy hR rn1 rn3 hk3 hj3
        gi_wp2
        go_roundw
        case rel => exact ⟨i + 1, pre ++ [(y, ⟨vt, vd, vo⟩)], ⟨vt, vd, vo⟩, by go_num, by omega, hu'.out, hid (by rw [hx'.out]; simp), hj5, rn4, rc4, hi4, hs4⟩
        case measure => simp [intOf]; omega
      · gi_wp2
        refine bodyPost_ret (results_none rfl _ _ _) rfl ?_
        exact ⟨⟨_, rfl⟩, .inr ⟨pre, _, _, hx'.out, hj4⟩⟩
    · obtain rfl : i = len := by omega
      have hend : runO code s ss = pre := by
        rw [hx.out, List.drop_eq_nil_of_le (by omega)]
        simp [runO]
      have hd : decide ((i : Int) < (i : Int)) = false := by rw [decide_eq_false_iff_not]; omega
      replace hend := hid hend
      gi_wp2
      refine bodyPost_end (results_none rfl _ _ _) rfl ?_
      exact ⟨⟨_, rfl⟩, .inl (by rw [hend.out]; exact hj.out)⟩
end Go.Proofs.YtbbjoahloghpkaaDoor
