/- The document's whole text (Pad), its constants (K): the walks. -/
import Derived.Test.YtdjlpmelmhhooaaDoorShX4
import Derived.Test.YtdjlpmelmhhooaaDoorShX2
import Derived.Test.YtdjlpmelmhhooaaDoorLibA
namespace Go.Proofs.YtdjlpmelmhhooaaDoor
open Go Go.RowKit
set_option linter.unusedSimpArgs false

theorem refK_any (w : World) : Calls Tryd.prog 58 #[] w fun e w' => e = .returned (.slice (some ⟨w.heap.size, 0, none⟩) 64 64) ∧ RowAt w' w.heap.size 77 (rowA 64 (wordsF keyL 64)) ∧ Below w.heap.size w w' := by
  go_enter Tryd.func58, Tryd.ntmps58
  go_wp2
  go_ret
  refine ⟨rfl, ?_, below_al (Below.refl _ _) _⟩
  have e : rowA 64 (wordsF keyL 64) = _ := rfl
  exact (RowAt.new w _ _).eqA (by kernel_rfl)
theorem info_u8' : (Tryd.prog.info? 5).map (fun i => (i.zero, i.size, i.bytes)) = some (some (.int .u8 0), 1, 1) := by kernel_rfl
/-- A text, its mark, and noughts. -/
def padB (s : ByteArray) (k : Nat) : List UInt8 := s.data.toList ++ 128 :: List.replicate k 0
theorem padB_len (s : ByteArray) (k : Nat) : (padB s k).length = s.size + 1 + k := by simp [padB]; omega
theorem padB_succ (s : ByteArray) (k : Nat) : padB s k ++ [0] = padB s (k + 1) := by
  unfold padB; rw [List.replicate_succ', List.append_assoc, List.cons_append]
theorem repeatL_rep (k : Nat) : Lib.repeatL [(0 : UInt8)] k = List.replicate k 0 := by
  induction k with
  | zero => rfl
  | succ k ih => rw [Lib.repeatL, ih]; rfl
theorem padB_padS (s : ByteArray) : (⟨(padB s (padK s.size) ++ beL (s.size * 8) 8).toArray⟩ : ByteArray) = padS s := by
  refine ByteArray.ext (Array.ext' ?_)
  unfold padS
  simp only [ByteArray.data_append, Array.toList_append, repeatL_rep, beS, padB]
  simp
theorem beL_take (n i : Nat) (h : i < 8) : (beL n 8).take (i + 1) = (beL n 8).take i ++ [byteAt n (7 - i)] := by
  rw [List.take_add_one]
  congr 1
  simp [beL, h]
set_option maxRecDepth 100000 in
set_option maxHeartbeats 4000000 in
theorem refPad_any (s : ByteArray) (hs : s.size ≤ 1000000000) (w : World) : Calls Tryd.prog 57 #[.string s] w fun e w' => e = .returned (.string (padS s)) ∧ Below w.heap.size w w' := by
  cases hq : Tryd.prog.info? 5 with
  | none => have := info_u8'; rw [hq] at this; cases this
  | some i =>
  have hiu := info_u8'
  rw [hq] at hiu
  simp only [Option.map_some, Option.some.injEq, Prod.mk.injEq] at hiu
  obtain ⟨hz0, hz1, hz2⟩ := hiu
  have hi := hid hq
  replace hz0 := hid hz0
  replace hz1 := hid hz1
  replace hz2 := hid hz2
  clear hq
  obtain ⟨v0, w0, hcv, hown, hB0⟩ := bytesE_of (P := Tryd.prog) w 9 44 5 s Tryd.underlying9 Tryd.underlying44 Tryd.underlying5 (by unfold maxLen; omega)
  obtain ⟨N, hN⟩ : ∃ N, N = s.size * 8 := ⟨_, rfl⟩
  have hNi : (s.size : Int) * 8 = (N : Int) := by omega
  have hsl : s.data.toList.length = s.size := by simp
  obtain ⟨g0, c0, hv0, hg0⟩ := hown.shape
  rw [hv0] at hcv hown
  have hsz0 := hB0.size
  clear hv0
  replace hown := hid hown
  replace hB0 := hid hB0
  replace hN := hid hN
  replace hsl := hid hsl
  go_enter Tryd.func57, Tryd.ntmps57
  go_wp2_with (at_builtin; refine wpList_append_e rfl _ _ 44 5 rfl i Tryd.underlying44 hi.out hz0.out hz1.out hz2.out w.heap.size _ s.data.toList rfl (hown.out.alloc _) ⟨w0.heap.size, 0, none⟩ 1 128 rfl ((RowAt.new _ _ _).cell rfl) (by rw [hsl.out]; omega) (by simp; omega) ?_; intro v1 w1 hown1 hgrow1)
  have hown2 : BytesE w1 5 w.heap.size v1 (padB s 0) := hown1
  have hB1 : Below w.heap.size w w1 := below_grown' (below_al hB0.out _) hgrow1 (fun k hk => by cases hk; exact hg0)
  obtain ⟨g1, c1, rfl, hg1⟩ := hown2.shape
  clear hown hown1 hgrow1 hB0 hcv
  replace hown2 := hid hown2
  replace hB1 := hid hB1
  go_loopw [4] (fun v wr => ∃ (k g c L : Nat), v = .slice (some ⟨g, 0, none⟩) L c ∧ k ≤ padK s.size ∧ w.heap.size ≤ g ∧ Hid (L = (padB s k).length) ∧ Hid (BytesE wr 5 w.heap.size v (padB s k)) ∧ Hid (Below w.heap.size w wr)) (fun v _ => match v with | .slice _ L _ => s.size + 65 - L | _ => 0)
  case atStart => exact ⟨0, g1, c1, _, rfl, Nat.zero_le _, hg1, hid rfl, hown2, hB1⟩
  case round =>
    clear hown2 hB1
    obtain ⟨k, g, c, L, rfl, hk, hg, hL, hown, hB⟩ := hrel
    have hLs : L = s.size + 1 + k := by rw [hL.out, padB_len]
    have hwsz := hB.out.size
    by_cases hlt : k < padK s.size
    · have hne : (((L : Nat) : Int) % 64 != 56) = true := by rw [bne_iff_ne]; unfold padK at hlt; omega
      have hk64 : padK s.size < 64 := by unfold padK; omega
      replace hLs := hid hLs
      go_wp2_with (at_builtin; refine wpList_append_e rfl _ _ 44 5 rfl i Tryd.underlying44 hi.out hz0.out hz1.out hz2.out w.heap.size _ (padB s k) rfl (hown.out.alloc _) ⟨wr.heap.size, 0, none⟩ 1 0 rfl ((RowAt.new _ _ _).cell rfl) (by rw [← hL.out, hLs.out]; omega) (by simp; omega) ?_; intro v1 w1 hown1 hgrow1)
      have hown2 : BytesE w1 5 w.heap.size v1 (padB s (k + 1)) := by rw [← padB_succ]; exact hown1
      have hB1 : Below w.heap.size w w1 := below_grown' (below_al hB.out _) hgrow1 (fun k hk => by cases hk; exact hg)
      obtain ⟨g1, c1, rfl, hg1⟩ := hown2.shape
      obtain ⟨L1, hL1⟩ : ∃ L1, L1 = (padB s (k + 1)).length := ⟨_, rfl⟩
      rw [← hL1] at hown2 ⊢
      have hL1s : L1 = s.size + 1 + (k + 1) := by rw [hL1, padB_len]
      replace hL1 := hid hL1
      replace hL1s := hid hL1s
      clear hown hown1 hgrow1 hB
      replace hown2 := hid hown2
      replace hB1 := hid hB1
      go_wp2
      go_roundw
      case rel => exact ⟨k + 1, g1, c1, L1, rfl, by omega, hg1, hL1, hown2, hB1⟩
      case measure => have := hLs.out; have := hL1s.out; show s.size + 65 - L1 < s.size + 65 - L; omega
    · obtain rfl : k = padK s.size := by omega
      have hne : (((L : Nat) : Int) % 64 != 56) = false := by rw [bne_eq_false_iff_eq]; rw [hLs]; unfold padK; omega
      have hL2 : L ≤ s.size + 72 := by rw [hLs]; unfold padK; omega
      clear hlt hk
      replace hLs := hid hLs
      obtain ⟨P0, hP0⟩ : ∃ P, P = padB s (padK s.size) := ⟨_, rfl⟩
      rw [← hP0] at hL hown
      replace hP0 := hid hP0
      have hown' : Hid (BytesE wr 5 w.heap.size (.slice (some ⟨g, 0, none⟩) L c) (P0 ++ (beL N 8).take 0)) := by rw [List.take_zero, List.append_nil]; exact hown
      obtain ⟨wo, rfl⟩ : ∃ wo : World, wo = wr := ⟨_, rfl⟩
      clear hown
      go_wp2
      go_loopw [4, 5] (fun v x wr => ∃ (j g c M : Nat), v = .slice (some ⟨g, 0, none⟩) M c ∧ x = .int .i64 ((7 : Int) - (j : Nat)) ∧ j ≤ 8 ∧ w.heap.size ≤ g ∧ Hid (M = L + j) ∧ Hid (BytesE wr 5 w.heap.size v (P0 ++ (beL N 8).take j)) ∧ Hid (Below w.heap.size w wr)) (fun _ x _ => (intOf x + 1).toNat)
      case atStart => exact ⟨0, g, c, L, rfl, by simp, by omega, hg, hid (by omega), hown', hB⟩
      case round =>
        clear hown' hB
        obtain ⟨j, g, c, M, rfl, rfl, hj, hg, hM, hown, hB⟩ := hrel
        have hwsz := hB.out.size
        by_cases hlt : j < 8
        · obtain ⟨m, hm⟩ : ∃ m, m = 7 - j := ⟨_, rfl⟩
          have hmi : (7 : Int) - (j : Int) = (m : Int) := by omega
          have hm7 : (m : Int) ≤ 7 := by omega
          have hb : byteAt N (7 - j) = byteAt N m := by rw [hm]
          have hv := put_byte N m
          rw [← byteAt_toNat] at hv
          obtain ⟨b, hbe⟩ : ∃ b, b = byteAt N m := ⟨_, rfl⟩
          rw [← hbe] at hv hb
          have htk := beL_take N j hlt
          rw [hb] at htk
          rw [hmi]
          have hlen : (P0 ++ (beL N 8).take j).length = M := by rw [List.length_append, ← hL.out, hM.out, List.length_take, beL_length]; omega
          have hM2 : M ≤ s.size + 90 := by have := hM.out; omega
          have hj1 : (m : Int) - 1 = 7 - ((j + 1 : Nat) : Int) := by omega
          replace hlen := hid hlen
          replace htk := hid htk
          replace hbe := hid hbe
          replace hj1 := hid hj1
          clear hmi hb hm
          go_wp2_with (at_builtin; refine wpList_append_e rfl _ _ 44 5 rfl i Tryd.underlying44 hi.out hz0.out hz1.out hz2.out w.heap.size _ (P0 ++ (beL N 8).take j) rfl (hown.out.alloc _) ⟨wr.heap.size, 0, none⟩ 1 b rfl ((RowAt.new _ _ _).cell rfl) (by rw [hlen.out]; omega) (by simp; omega) ?_; intro v1 w1 hown1 hgrow1)
          have hown2 : BytesE w1 5 w.heap.size v1 (P0 ++ (beL N 8).take (j + 1)) := by rw [htk.out, ← List.append_assoc]; exact hown1
          have hB1 : Below w.heap.size w w1 := below_grown' (below_al hB.out _) hgrow1 (fun k hk => by cases hk; exact hg)
          obtain ⟨g1, c1, rfl, hg1⟩ := hown2.shape
          have hl1 : (P0 ++ (beL N 8).take (j + 1)).length = M + 1 := by rw [htk.out, ← List.append_assoc, List.length_append, hlen.out]; rfl
          rw [hl1] at hown2 ⊢
          have hM1 : M + 1 = L + (j + 1) := by have := hM.out; omega
          clear hown hown1 hgrow1 hB hv hl1
          replace hown2 := hid hown2
          replace hB1 := hid hB1
          replace hM1 := hid hM1
          go_wp2
          go_roundw
          case rel => exact ⟨j + 1, g1, c1, M + 1, rfl, by rw [← hj1.out], by omega, hg1, hM1, hown2, hB1⟩
          case measure => simp [intOf] <;> omega
        · obtain rfl : j = 8 := by omega
          have hcv := hown.out.string (P := Tryd.prog) 44 9 Tryd.underlying44 Tryd.underlying5 Tryd.underlying9
          have hfin : (⟨(P0 ++ (beL N 8).take 8).toArray⟩ : ByteArray) = padS s := by
            rw [List.take_of_length_le (by rw [beL_length]; exact Nat.le_refl _), hP0.out, hN.out, padB_padS]
          rw [hfin] at hcv
          have hm1 : (7 : Int) - ((8 : Nat) : Int) = -1 := by omega
          rw [hm1]
          clear hm1 hfin
          go_wp2
          go_ret
          exact ⟨rfl, hB.out⟩
end Go.Proofs.YtdjlpmelmhhooaaDoor
