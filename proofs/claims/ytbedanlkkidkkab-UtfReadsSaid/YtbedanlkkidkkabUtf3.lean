/- The iterator over a text's code points: its contract. -/
import Derived.Test.YtbedanlkkidkkabUtf2
import Derived.Test.YtbedanlkkidkkabIter
import Derived.OwnWalkIn
import Derived.TacticsInMore
import Derived.LoopNIn
import Derived.LoopIn
import Derived.Shelf.Abstract
import Derived.Shelf.RegionOpen
import Derived.Lib.IndexBytes
namespace Go.Proofs.Ytbedanlkkidkkab
open Go Go.RowKit
set_option linter.unusedSimpArgs false
attribute [local go_sem] Oper.semAt_some

def encR (x : Nat × Nat) : Array Value := #[.int .i64 (x.1 : Nat), .int .i32 (x.2 : Nat)]

theorem extract_size (s : ByteArray) (k : Nat) (_h : k ≤ s.size) : (s.extract k s.size).size = s.size - k := by simp [ByteArray.size_extract]
theorem extract_list (s : ByteArray) (k : Nat) : (s.extract k s.size).data.toList = s.data.toList.drop k := by
  rw [Lib.extract_data, List.take_of_length_le]
  simp
theorem first_at (s : ByteArray) (k : Nat) (h : k < s.size) (hs : s.size ≤ 140737488351232) (w : World) :
    Calls Try.prog 21 #[.string (s.extract k s.size)] w fun e w' => e = .returned (firstV (s.data.toList.drop k)) ∧ w = w' := by
  have := first_any (s.extract k s.size) (by rw [extract_size s k (by omega)]; omega) (by rw [extract_size s k (by omega)]; omega) w
  rwa [extract_list] at this

set_option maxRecDepth 100000 in
set_option maxHeartbeats 4000000 in
theorem runes_on (s : ByteArray) (hs : s.size ≤ 140737488351232) (b : Nat) (w : World) (hbox : RowAt w b 9 #[.string s]) :
    IterOn Try.prog 20 #[.pointer (some ⟨b, 0, none⟩)] encR (fun _ => False) (fun k => k = b) (runesN s.data.toList) w := by
  intro l J Jx W hb hJ hJx hY h0
  have hboxW : RowAt W b 9 #[.string s] := hbox.below hb hbox.lt
  refine callsIn_of_wp Try.func20 rfl trivial ?_
  simp only [Try.ntmps20, List.size_toArray, List.length_cons, List.length_nil, Nat.reduceAdd, Nat.reduceSub, Array.replicate_succ, Array.replicate_zero, List.push_toArray, List.append_toArray, List.nil_append, List.cons_append]
  gi_wp2
  gi_loopw [3] (fun p wr => ∃ (k fuel : Nat) (pre : List (Nat × Nat)), p = .int .i64 k ∧ k ≤ s.size ∧ s.size - k ≤ fuel ∧ Hid (runesN s.data.toList = pre ++ runesF fuel k (s.data.toList.drop k)) ∧ Hid (J pre wr) ∧ Hid (RowAt wr b 9 #[.string s]) ∧ W.heap.size ≤ wr.heap.size)
    (fun p _ => s.size - (intOf p).toNat)
  case atStart => exact ⟨0, s.size, [], rfl, Nat.zero_le _, by omega, by refine hid ?_; simp [runesN], hid h0, hid hboxW, Nat.le_refl _⟩
  case round =>
    obtain ⟨k, fuel, pre, rfl, hk, hf, hx, hj, hbx, hsz⟩ := hrel
    by_cases hlt : k < s.size
    · have hc := hbx.out.cell (j := 0) rfl
      cases hfr : firstN (s.data.toList.drop k) with
      | none =>
        have L := fun w => first_at s k hlt hs w
        rw [show firstV (s.data.toList.drop k) = .tuple #[.int .i32 0, .int .i64 0] by unfold firstV; rw [hfr]] at L
        replace L := hid L
        have hxs : runesN s.data.toList = pre := by
          rw [hx.out]; cases fuel with
          | zero => simp [runesF]
          | succ m => simp [runesF, hfr]
        replace hxs := hid hxs
        clear hfr
        gi_wp2_with (refine ⟨trivial, rfl, ?_⟩; gi_at_call 21; refine (callsIn_wide.2 (L.out _)).mono ?_; rintro e w' ⟨rfl, rfl⟩)
        refine ⟨fun _ h => (by cases h), ?_⟩
        gi_wp2
        refine bodyPost_ret (results_none rfl _ _ _) rfl ?_
        exact ⟨⟨_, rfl⟩, .inl (by rw [hxs.out]; exact hj.out)⟩
      | some rn =>
        obtain ⟨r, n⟩ := rn
        obtain ⟨hn1, hn2, hn4, hpt, hszn⟩ := firstN_size hfr
        have L := fun w => first_at s k hlt hs w
        rw [show firstV (s.data.toList.drop k) = .tuple #[.int .i32 (r : Nat), .int .i64 (n : Nat)] by unfold firstV; rw [hfr]] at L
        replace L := hid L
        obtain ⟨fuel, rfl⟩ : ∃ m, fuel = m + 1 := ⟨fuel - 1, by omega⟩
        have hxs : runesN s.data.toList = pre ++ (k, r) :: runesF fuel (k + n) (s.data.toList.drop (k + n)) := by
          rw [hx.out]; simp only [runesF, hfr, List.drop_drop]
        obtain ⟨fn, tmps, assign, body, hy, hR⟩ := hY pre (k, r) _ wr hxs hsz hj.out
        have hnz : ((n : Int) == 0) = false := by rw [beq_eq_false_iff_ne]; omega
        simp only [encR] at hy
        clear hfr
        gi_wp2_with (refine ⟨trivial, rfl, ?_⟩; gi_at_call 21; refine (callsIn_wide.2 (L.out _)).mono ?_; rintro e w' ⟨rfl, rfl⟩)
        refine ⟨rfl, hR.mono ?_⟩
        rintro e W2 (⟨rfl, hj2, hk2⟩ | ⟨rfl, hj2, hk2⟩)
        · have hbx2 : RowAt W2 b 9 #[.string s] := hk2.row hbx.out (fun h => h rfl)
          have hsz2 : W.heap.size ≤ W2.heap.size := Nat.le_trans hsz hk2.size
          replace hbx2 := hid hbx2
          replace hj2 := hid hj2
          clear hj hbx hy hR hk2
          gi_wp2
          go_roundw
          case rel => exact ⟨k + n, fuel, pre ++ [(k, r)], by go_num, by simp at hn2; omega, by omega, hid (by rw [hxs]; simp), hj2, hbx2, hsz2⟩
          case measure => simp [intOf]; simp at hn2; omega
        · gi_wp2
          refine bodyPost_ret (results_none rfl _ _ _) rfl ?_
          exact ⟨⟨_, rfl⟩, .inr ⟨pre, (k, r), _, hxs, hj2⟩⟩
    · obtain rfl : k = s.size := by omega
      have hnil : s.data.toList.drop s.size = [] := by simp
      have hxs : runesN s.data.toList = pre := by
        rw [hx.out, hnil]; cases fuel <;> simp [runesF, firstN]
      have hc := hbx.out.cell (j := 0) rfl
      gi_wp2
      go_end0
      exact ⟨⟨_, rfl⟩, .inl (by rw [hxs]; exact hj.out)⟩

end Go.Proofs.Ytbedanlkkidkkab
