/- The document's Parts. -/
import Derived.Test.YtbedanlkkidkkaaPar1
namespace Go.Proofs.Ytbedanlkkidkkaa
open Go Go.RowKit
set_option linter.unusedSimpArgs false

theorem info_str : (Try.prog.info? 9).map (fun i => (i.zero, i.size, i.bytes)) = some (some (.string ⟨#[]⟩), 1, 16) := by kernel_rfl
/-- A row of strings of the function's own. -/
def Strs (w : World) (base : Nat) (v : Value) (ss : List ByteArray) : Prop := w.ownsRow base 9 1 v ss.length (ss.map Value.string)
theorem Strs.read {w : World} {base : Nat} {v : Value} {ss : List ByteArray} (h : Strs w base v ss) {n : Nat} (hn : ss.length = n) (hz : ∀ s ∈ ss, s.size ≤ maxLen) : ∃ a c, v = .slice a n c ∧ IsStrs w a n ss := by
  subst hn
  rcases h.2 with ⟨hv, h0⟩ | ⟨g, cap, cur, hv, r⟩
  · exact ⟨none, 0, by rw [hv, h0], .inl ⟨rfl, h0, List.eq_nil_of_length_eq_zero h0⟩⟩
  · refine ⟨some ⟨g, 0, none⟩, cap, hv, .inr ⟨_, rfl, rfl, fun i s hi => ?_, hz⟩⟩
    exact World.ownsRow.cells h (g := g) (by rw [hv]; rfl) i (.string s) (by rw [List.getElem?_map, hi]; rfl)
theorem Strs.kept {T : Nat → Prop} {base : Nat} {v : Value} {ns : List ByteArray} {W W' : World} (h : Strs W base v ns) (hk : Kept T W W') (hT : ∀ g, v.ownBlock = some g → ¬ T g) : Strs W' base v ns := by
  refine ⟨h.1, h.2.imp id ?_⟩
  rintro ⟨g, cap, cur, hv, hb, hg, r⟩
  have hlt : g < W.heap.size := (Array.getElem?_eq_some_iff.1 hg).1
  exact ⟨g, cap, cur, hv, hb, (hk.block g hlt (hT g (by rw [hv]; rfl))).trans hg, r⟩
theorem below_grown {B : Nat} {a w w' : World} {row : Option Nat} (h : Below B a w) (hg : w.grownBy w' row) (hr : ∀ k, row = some k → B ≤ k) (hB : B ≤ a.heap.size) : Below B a w' :=
  h.trans ⟨hg.os, hg.tape, hg.output, hg.size, fun k hk => hg.block k (by have := h.size; omega) (fun e => by have := hr k e.symm; omega)⟩

set_option maxRecDepth 100000 in
set_option maxHeartbeats 4000000 in
theorem refParts_any (s : ByteArray) (hs : s.size ≤ 4000000) (w : World) : Calls Try.prog 14 #[.string s] w fun e w' =>
    ∃ v, e = .returned v ∧ Strs w' w.heap.size v (partsN s) ∧ Below w.heap.size w w' := by
  obtain ⟨i, hi, hz0, hz1, hz2⟩ := info_parts info_str
  replace hi := hid hi
  replace hz0 := hid hz0
  replace hz1 := hid hz1
  replace hz2 := hid hz2
  go_enter Try.func14, Try.ntmps14
  go_wp2
  go_loopw [0, 3] (fun t v wr => ∃ (fuel : Nat) (cur : ByteArray) (pre : List ByteArray), t = .string cur ∧ cur.size ≤ fuel ∧ cur.size ≤ 4000000 ∧ Hid (partsN s = pre ++ partsF fuel cur) ∧ Hid (pre.length ≤ 1000000) ∧
      Hid (Strs wr w.heap.size v pre) ∧ Hid (Below w.heap.size w wr))
    (fun t _ _ => match t with | .string cur => cur.size | _ => 0)
  case atStart => exact ⟨s.size, s, [], rfl, Nat.le_refl _, hs, hid rfl, hid (by simp), hid (World.ownsRow_nil _ _ _ _), hid (Below.refl _ _)⟩
  case round =>
    obtain ⟨fuel, cur, pre, rfl, hf, hz, hx, hpl, hn1, hB⟩ := hrel
    cases hc : cutS cur with
    | none =>
      have hxs : partsN s = pre := by rw [hx.out, partsF_none hc, List.append_nil]
      replace hxs := hid hxs
      by_cases h4 : cur.size < 4
      · have hd : decide ((4 : Int) ≤ (cur.size : Int)) = false := by rw [decide_eq_false_iff_not]; omega
        clear hc
        go_wp2
        go_ret
        exact ⟨_, rfl, by rw [hxs.out]; exact hn1.out, hB.out⟩
      · have hover : cur.size - 4 < sizeOfS cur := by
          rcases Nat.lt_or_ge (cur.size - 4) (sizeOfS cur) with h' | h'
          · exact h'
          · rw [cutS_yes h4 (by omega)] at hc; cases hc
        have hd : decide ((4 : Int) ≤ (cur.size : Int)) = true := by rw [decide_eq_true_iff]; omega
        have hd1 : (4 : Int) ≤ (cur.size : Int) := by omega
        have L := fun w => rget_head cur (by omega) w
        have hn := sizeOfS_lt cur
        obtain ⟨n, hn0⟩ : ∃ n, n = sizeOfS cur := ⟨_, rfl⟩
        rw [← hn0] at hover L hn
        have hu : IntKind.u64.wrap ((cur.size : Int) - 4) = (cur.size : Int) - 4 := by rw [IntKind.wrap_u64]; omega
        have hg : decide ((cur.size : Int) - 4 < (n : Int)) = true := by rw [decide_eq_true_iff]; omega
        replace L := hid L
        clear hc hn0
        go_wp2_with (go_at_call 19; refine (L.out _).mono ?_; rintro e w1 ⟨rfl, rfl⟩)
        go_ret
        exact ⟨_, rfl, by rw [hxs.out]; exact hn1.out, hB.out⟩
    | some pr =>
      obtain ⟨p, r⟩ := pr
      obtain ⟨h4, hnn, hp, hr, hps, hrs⟩ := cutS_size hc
      obtain ⟨fuel, rfl⟩ : ∃ m, fuel = m + 1 := ⟨fuel - 1, by omega⟩
      have hxs : partsN s = pre ++ p :: partsF fuel r := by rw [hx.out, partsF_some hc]
      replace hxs := hid hxs
      have hd : decide ((4 : Int) ≤ (cur.size : Int)) = true := by rw [decide_eq_true_iff]; omega
      have hd1 : (4 : Int) ≤ (cur.size : Int) := by omega
      have L := fun w => rget_head cur (by omega) w
      have hn := sizeOfS_lt cur
      obtain ⟨n, hn0⟩ : ∃ n, n = sizeOfS cur := ⟨_, rfl⟩
      rw [← hn0] at hnn L hn hp hr hps hrs
      have hu : IntKind.u64.wrap ((cur.size : Int) - 4) = (cur.size : Int) - 4 := by rw [IntKind.wrap_u64]; omega
      have hg : decide ((cur.size : Int) - 4 < (n : Int)) = false := by rw [decide_eq_false_iff_not]; omega
      have hn2 : (4 : Int) + (n : Int) ≤ (cur.size : Int) := by omega
      have hn3 : 4 + n ≤ cur.size := by omega
      have hplen : pre.length + 1 ≤ 1000000 := by
        have h1 := partsF_len s.size s
        rw [show partsF s.size s = pre ++ p :: partsF fuel r from hxs.out] at h1
        simp at h1; omega
      have hws := hB.out.size
      replace L := hid L
      replace hp := hid hp
      replace hr := hid hr
      replace hpl := hid hplen
      clear hc hn0
      go_wp2_with (first
        | (go_at_call 19; refine (L.out _).mono ?_; rintro e w1 ⟨rfl, rfl⟩)
        | (at_builtin; refine wpList_append_own_at _ rfl _ _ 35 rfl w.heap.size 9 i _ 1 16 Try.underlying35 hi.out hz0.out hz1.out hz2.out rfl (by decide) _ _ _ rfl (hn1.out.alloc _) ⟨wr.heap.size, 0, none⟩ 1 1 [.string (cur.extract 4 (4 + n))] rfl rfl (cell_one_new _ _ _) (fun x hx => by simp at hx; subst hx; rfl) (by unfold maxLen; omega) (by omega) (by simp; omega) ?_; intro v1 w2 hown1 hgrow1 hnil1 hat1))
      go_roundw
      case rel => 
        refine ⟨fuel, r, pre ++ [p], by rw [hr.out], by omega, by omega, hid (by rw [hxs.out]; simp), hid (by simp; omega), hid ?_, hid ?_⟩
        · unfold Strs; rw [List.map_append, hp.out]; simpa using hown1
        · exact below_grown (below_al hB.out _) hgrow1 (fun k hk => (World.ownsRow.lt hn1.out k hk).1) (Nat.le_refl _)
      case measure => simp [ByteArray.size_extract]; omega
end Go.Proofs.Ytbedanlkkidkkaa
