/- The iterator over a text's counted parts: its contract. -/
import Derived.Test.YtbedanlkkidkkaaPar2
import Derived.Test.YtbedanlkkidkkaaIter2
import Derived.OwnWalkIn
import Derived.TacticsInMore
import Derived.LoopNIn
import Derived.LoopIn
import Derived.Shelf.Abstract
import Derived.Shelf.RegionOpen
import Derived.Lib.IndexBytes
namespace Go.Proofs.Ytbedanlkkidkkaa
open Go Go.RowKit
set_option linter.unusedSimpArgs false
attribute [local go_sem] Oper.semAt_some

def encP (p : ByteArray) : Array Value := #[.string p]

theorem parts_make (s : ByteArray) (w : World) : Calls Try.prog 13 #[.string s] w fun e w' => e = .returned (.func (.func 24) #[] #[.pointer (some ⟨w.heap.size, 0, none⟩)]) ∧ w.alloc (.cells #[.string s] 9) = w' := by
  go_enter Try.func13, Try.ntmps13
  go_wp2
  go_ret
  exact ⟨rfl, rfl⟩

/-- How long the text in a box is. -/
def boxLen (b : Nat) (w : World) : Nat := match w.cell? ⟨b, 0, none⟩ with | some (.string s) => s.size | _ => 0
theorem boxLen_of {b : Nat} {w : World} {s : ByteArray} (h : w.cell? ⟨b, 0, none⟩ = some (.string s)) : boxLen b w = s.size := by rw [boxLen, h]

set_option maxRecDepth 100000 in
set_option maxHeartbeats 4000000 in
theorem parts_on (s : ByteArray) (hs : s.size ≤ 140737488351232) (b : Nat) (w : World) (hbox : RowAt w b 9 #[.string s]) :
    IterOn Try.prog 24 #[.pointer (some ⟨b, 0, none⟩)] encP (fun k => k = b) (fun k => k = b) (partsN s) w := by
  intro l J Jx W hb hJ hJx hY h0
  have hboxW : RowAt W b 9 #[.string s] := hbox.below hb hbox.lt
  refine callsIn_of_wp Try.func24 rfl trivial ?_
  simp only [Try.ntmps24, List.size_toArray, List.length_cons, List.length_nil, Nat.reduceAdd, Nat.reduceSub, Array.replicate_succ, Array.replicate_zero, List.push_toArray, List.append_toArray, List.nil_append, List.cons_append]
  gi_wp2
  gi_loopw [4] (fun _ wr => ∃ (fuel : Nat) (cur : ByteArray) (pre : List ByteArray), cur.size ≤ fuel ∧ cur.size ≤ 140737488351232 ∧ Hid (partsN s = pre ++ partsF fuel cur) ∧ Hid (J pre wr) ∧ Hid (RowAt wr b 9 #[.string cur]) ∧ W.heap.size ≤ wr.heap.size)
    (fun _ wr => boxLen b wr)
  case atStart => exact ⟨s.size, s, [], Nat.le_refl _, hs, hid rfl, hid h0, hid hboxW, Nat.le_refl _⟩
  case round =>
    obtain ⟨fuel, cur, pre, hf, hz, hx, hj, hbx, hsz⟩ := hrel
    have hc : wr.cell? ⟨b, 0, none⟩ = some (.string cur) := hbx.out.cell (j := 0) rfl
    cases hcut : cutS cur with
    | none =>
      have L := fun w => cut_none cur hz hcut w
      have hxs : partsN s = pre := by rw [hx.out, partsF_none hcut, List.append_nil]
      replace hxs := hid hxs
      replace L := hid L
      clear hcut
      gi_wp2_with (refine ⟨trivial, rfl, ?_⟩; gi_at_call 15; refine (callsIn_wide.2 (L.out _)).mono ?_; rintro e w1 ⟨rfl, hB1⟩)
      refine ⟨fun _ h => (by cases h), ?_⟩
      gi_wp2
      refine bodyPost_ret (results_none rfl _ _ _) rfl ?_
      refine ⟨⟨_, rfl⟩, .inl (by rw [hxs.out]; exact hJ _ _ _ hj.out ((Kept.of_below hB1)))⟩
    | some pr =>
      obtain ⟨p, r⟩ := pr
      have hrs : r.size + 4 ≤ cur.size := by have := (cutS_size hcut).2.2.2.2.2; omega
      have L := fun w => cut_some cur p r hz hcut w
      obtain ⟨fuel, rfl⟩ : ∃ m, fuel = m + 1 := ⟨fuel - 1, by omega⟩
      have hxs : partsN s = pre ++ p :: partsF fuel r := by rw [hx.out, partsF_some hcut]
      replace L := hid L
      replace hxs := hid hxs
      clear hcut
      gi_wp2_with (refine ⟨trivial, rfl, ?_⟩; gi_at_call 15; refine (callsIn_wide.2 (L.out _)).mono ?_; rintro e w1 ⟨rfl, hB1⟩
                   have hj1 := hJ _ _ _ hj.out ((Kept.of_below hB1)); have hsz1 : W.heap.size ≤ w1.heap.size := Nat.le_trans hsz hB1.size
                   obtain ⟨fn, tmps, assign, body, hy, hR⟩ := hY pre p _ w1 hxs.out hsz1 hj1; simp only [encP] at hy; replace hj1 := hid hj1)
      refine ⟨rfl, hR.mono ?_⟩
      rintro e W2 (⟨rfl, hj2, hk2⟩ | ⟨rfl, hj2, hk2⟩)
      · have hbx2 : RowAt W2 b 9 #[.string cur] := hk2.row (hbx.out.below hB1 hbx.out.lt) (fun h => h rfl)
        have hsz2 : W.heap.size ≤ W2.heap.size := Nat.le_trans hsz1 hk2.size
        have hc2 : W2.cell? ⟨b, 0, none⟩ = some (.string cur) := hbx2.cell (j := 0) rfl
        have hf2 := hbx2.free 0
        have hb3 : RowAt (W2.setCell ⟨b, 0, none⟩ (.string r)) b 9 #[.string r] := (hbx2.set 0 _).eqA (by simp)
        have hj3 := hJ _ _ (W2.setCell ⟨b, 0, none⟩ (.string r)) hj2 ((Kept.refl (fun k => k = b) W2).setCell ⟨b, 0, none⟩ (.inl rfl) _)
        replace hbx2 := hid hbx2
        replace hb3 := hid hb3
        replace hj3 := hid hj3
        have hlen := hid (boxLen_of hc)
        clear hj hbx hy hR hk2 hj2
        gi_wp2
        go_roundw
        case rel => exact ⟨fuel, r, pre ++ [p], by omega, by omega, hid (by rw [hxs.out]; simp), hj3, hb3, by simpa using hsz2⟩
        case measure => rw [hlen.out, boxLen_of (hb3.out.cell (j := 0) rfl)]; omega
      · gi_wp2
        refine bodyPost_ret (results_none rfl _ _ _) rfl ?_
        exact ⟨⟨_, rfl⟩, .inr ⟨pre, p, _, hxs.out, hj2⟩⟩
end Go.Proofs.Ytbedanlkkidkkaa
