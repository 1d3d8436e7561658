/- Ids: the document's Of, Draw, Derive. -/
import Derived.Test.YtdjlpmelmhhooaaDoorIds8
import Derived.Test.YtdjlpmelmhhooaaDoorHmA
namespace Go.Proofs.YtdjlpmelmhhooaaDoor
open Go Go.RowKit
set_option linter.unusedSimpArgs false
set_option linter.unusedVariables false

set_option maxRecDepth 100000 in
set_option maxHeartbeats 4000000 in
theorem refOf_any (s : ByteArray) (hs : s.size = 16) (w : World) : Calls Tryd.prog 23 #[.string s] w fun e w' => e = .returned (.agg (idA s.data.toList)) ∧ Below w.heap.size w w' := by
  obtain ⟨l, hl⟩ : ∃ l, l = s.data.toList := ⟨_, rfl⟩
  have hget : ∀ k (h : k < s.size), (s[k]).toNat = (l.getD k 0).toNat := fun k h => by
    rw [hl]
    have h2 : k < s.data.size := h
    rw [List.getD_eq_getElem?_getD, Array.getElem?_toList, Array.getElem?_eq_getElem h2]
    rfl
  rw [← hl]
  replace hget := hid hget
  clear hl
  go_enter Tryd.func23, Tryd.ntmps23
  go_wp2
  generalize hW : World.alloc (World.alloc w _) _ = W
  have r0 : RowAt W w.heap.size 23 (idA (List.replicate 16 0)) := by rw [← hW]; exact (RowAt.new w _ _).alloc _
  have r1 : RowAt W (w.heap.size + 1) 23 (rowA 16 (copV l 0)) := by rw [copV_zero, ← hW]; exact RowAt.newS w _ _ _ _
  have hb : Below w.heap.size w W := by rw [← hW]; exact below_al (below_al (Below.refl _ _) _) _
  obtain ⟨g, hg⟩ : ∃ g, g = w.heap.size + 1 := ⟨_, rfl⟩
  obtain ⟨h, hh⟩ : ∃ h, h = w.heap.size := ⟨_, rfl⟩
  have hne : h ≠ g := by omega
  have hgw : w.heap.size ≤ g := by omega
  have hhw : w.heap.size ≤ h := by omega
  rw [← hg] at r1
  rw [← hh] at r0
  rw [← hg, ← hh]
  replace r0 := hid r0
  replace r1 := hid r1
  replace hb := hid hb
  clear hW hg hh
  go_loopw [4] (fun p wr => ∃ k : Nat, p = .int .i64 k ∧ k ≤ 16 ∧ Hid (RowAt wr h 23 (idA (List.replicate 16 0))) ∧ Hid (RowAt wr g 23 (rowA 16 (copV l k))) ∧ Hid (Below w.heap.size w wr)) (fun p _ => 16 - (intOf p).toNat)
  case atStart => exact ⟨0, rfl, by omega, r0, r1, hb⟩
  case round =>
    clear r0 r1 hb
    obtain ⟨k, rfl, hk, r0, r1, hb⟩ := hrel
    by_cases hlt : k < 16
    · have hki : (k : Int) < 16 := by omega
      have hks : k < s.size := by omega
      have hd := r1.out.cell (rowA_get 16 (copV l k) k hlt)
      have hf := r1.out.free k
      have r1' := hid ((r1.out.set k (idV l k)).eqA (copV_set l k))
      have r0' := hid (r0.out.other ⟨g, k, none⟩ (idV l k) hne)
      have hb' := hid (hb.out.setCell (p := ⟨g, k, none⟩) hgw (idV l k))
      unfold idV at r1' r0' hb'
      have hc := hget.out k hks
      obtain ⟨u, hu⟩ : ∃ u, u = (l.getD k 0).toNat := ⟨_, rfl⟩
      rw [← hu] at hc r1' r0' hb'
      clear hu
      go_wp2
      go_roundw
      case rel => exact ⟨k + 1, by go_num, by omega, r0', r1', hb'⟩
      case measure => simp [intOf]; omega
    · obtain rfl : k = 16 := by omega
      have r2 := hid (r1.out.eqA (copV_all l))
      have hAi : (Tryd.prog.info? 23).map (·.size) = some (idA l).size := by rw [info16, idA_size]
      replace hAi := hid hAi
      clear r1
      obtain ⟨A, hA⟩ : ∃ A, A = idA l := ⟨_, rfl⟩
      have hAone : A.all (·.oneCell') = true := by rw [hA]; exact idA_one _
      have hAsz : A.size = 16 := by rw [hA, idA_size]
      rw [← hA] at r2 hAi
      replace hAone := hid hAone
      replace hAsz := hid hAsz
      replace hA := hid hA
      go_wp2_with (first
        | (with_reducible refine at_op (some 14) (.load 23 (.tmp 3)) ?_
           refine wpList_load_row (o := ⟨some 14, _, _, _, _, _⟩) rfl 23 (.tmp 3) rfl g rfl 23 A (0, 0) _ r2.out Tryd.underlying23 rfl hAi.out ?_)
        | (with_reducible refine at_op none (.store 23 (.tmp 2) (.tmp 14)) ?_
           refine wpList_store_row (o := ⟨none, .store _ (.tmp 2) (.tmp 14), _, _, _, _⟩) rfl 23 (.tmp 2) (.tmp 14) rfl h A rfl rfl 23 _ r0.out hAi.out (by rw [hAsz.out, idA_size]) hAone.out ?_))
      exact bodyPost_ret (results_cell_row rfl _ _ h 23 A (0, 0) _ rfl (r0.out.setRow _) Tryd.underlying23 rfl hAi.out) rfl ⟨by rw [hA.out], below_setRow hb.out hhw _⟩
end Go.Proofs.YtdjlpmelmhhooaaDoor
