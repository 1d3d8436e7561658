/- Ids: Draw of any text, Derive. -/
import Derived.Test.YtdjlpmelmhhooaaDoorIds7
import Derived.Test.YtdjlpmelmhhooaaDoorHmA
namespace Go.Proofs.YtdjlpmelmhhooaaDoor
open Go Go.RowKit
set_option linter.unusedSimpArgs false
set_option linter.unusedVariables false

def deriveL (key name : ByteArray) : List UInt8 := drawL ((hmacS key name).data.toList.take 16)
theorem deriveL_len (key name : ByteArray) : (deriveL key name).length = 16 := by
  have := hmacS_size key name
  have h2 : (hmacS key name).data.toList.length = 32 := by rw [← this]; simp
  rw [deriveL, drawL_len, List.length_take, h2]; rfl
theorem short16 (k : ByteArray) (h : k.size = 32) : k.extract 0 16 = idS (k.data.toList.take 16) := by
  refine ByteArray.ext ?_
  rw [ByteArray.data_extract]
  refine Array.ext' ?_
  simp [idS]

set_option maxRecDepth 100000 in
set_option maxHeartbeats 4000000 in
theorem derive_any (key name : ByteArray) (hk : key.size ≤ 1000000) (hn : name.size ≤ 1000000) (w : World) : Calls Tryd.prog 9 #[.string key, .string name] w fun e w' => e = .returned (.agg (idA (deriveL key name))) ∧ Below w.heap.size w w' := by
  have hz := hmacS_size key name
  have hlen : ((hmacS key name).data.toList.take 16).length = 16 := by
    have h2 : (hmacS key name).data.toList.length = 32 := by rw [← hz]; simp
    rw [List.length_take, h2]; rfl
  have LS : ∀ (W : World) (b : Nat), RowAt W b 9 #[.string name] → Calls Tryd.prog 21 #[.string key, .int .i64 16, .slice (some ⟨b, 0, none⟩) 1 1] W fun e w' => e = .returned (.string ((hmacS key name).extract 0 (min (max (16 : Int) 0) 32).toNat)) ∧ Below W.heap.size W w' := fun W b r => by
    have := short_any key hk 16 _ _ _ [name] W (strsAt_row [name] r) (by simp) (by rw [joinS_one]; exact hn)
    rwa [joinS_one] at this
  rw [show (min (max (16 : Int) 0) 32).toNat = 16 from rfl, short16 _ hz] at LS
  have LD := fun w => draw_some _ hlen w
  have e : drawL ((hmacS key name).data.toList.take 16) = deriveL key name := rfl
  rw [e] at LD
  obtain ⟨s, hs⟩ : ∃ s, s = idS ((hmacS key name).data.toList.take 16) := ⟨_, rfl⟩
  rw [← hs] at LS LD
  obtain ⟨A, hA⟩ : ∃ A, A = idA (deriveL key name) := ⟨_, rfl⟩
  rw [← hA] at LD ⊢
  have hAone : A.all (·.oneCell') = true := by rw [hA]; exact idA_one _
  have hAsz : A.size = 16 := by rw [hA, idA_size]
  have hAi : (Tryd.prog.info? 23).map (·.size) = some A.size := by rw [info16, hAsz]
  replace LS := hid LS
  replace LD := hid LD
  replace hAone := hid hAone
  replace hAsz := hid hAsz
  replace hAi := hid hAi
  clear hs hA e hlen hz
  go_enter Tryd.func9, Tryd.ntmps9
  go_wp2_with (first
    | (go_at_call 21; with_reducible refine (LS.out _ _ (RowAt.newS w _ _ _ _)).mono ?_; rintro e w1 ⟨rfl, hB1⟩)
    | (go_at_call 8; with_reducible refine (LD.out _).mono ?_; rintro e w2 ⟨rfl, hB2⟩
       have b2 := below_cat hB2 (below_cat hB1 (below_al (below_al (Below.refl w.heap.size w) _) _))
       have r0 := (RowAt.new w (idA (List.replicate 16 0)) 23).alloc (.cells #[.string name] 9)
       have r0 := r0.below (below_cat hB2 hB1) (by simp; omega)
       replace b2 := hid b2
       have s1 := r0.lt
       replace r0 := hid r0
       clear hB1 hB2 LS LD)
    | (with_reducible refine at_op none (.store 23 (.tmp 5) (.tmp 13)) ?_
       refine wpList_store_row (o := ⟨none, .store _ (.tmp 5) (.tmp 13), _, _, _, _⟩) rfl 23 (.tmp 5) (.tmp 13) rfl w2.heap.size A rfl rfl 23 _ (RowAt.new w2 _ _) hAi.out (by rw [hAsz.out]; rfl) hAone.out ?_
       generalize hY : World.setRow _ _ _ = Y
       have r2 : RowAt Y w2.heap.size 23 A := by rw [← hY]; exact (RowAt.new w2 _ _).setRow A
       have r3 : RowAt Y w.heap.size 23 (idA (List.replicate 16 0)) := by rw [← hY]; exact (r0.out.alloc _).setRowOther _ _ (by omega)
       have b3 : Below w.heap.size w Y := by rw [← hY]; exact below_setRow (below_al b2.out _) (by omega) _
       replace r2 := hid r2
       replace r3 := hid r3
       replace b3 := hid b3
       clear hY r0 b2)
    | (with_reducible refine at_op (some 15) (.load 23 (.tmp 5)) ?_
       refine wpList_load_row (o := ⟨some 15, _, _, _, _, _⟩) rfl 23 (.tmp 5) rfl w2.heap.size rfl 23 A (0, 0) _ r2.out Tryd.underlying23 rfl hAi.out ?_)
    | (with_reducible refine at_op none (.store 23 (.tmp 4) (.tmp 15)) ?_
       refine wpList_store_row (o := ⟨none, .store _ (.tmp 4) (.tmp 15), _, _, _, _⟩) rfl 23 (.tmp 4) (.tmp 15) rfl w.heap.size A rfl rfl 23 _ r3.out hAi.out (by rw [hAsz.out, idA_size]) hAone.out ?_))
  exact bodyPost_ret (results_cell_row rfl _ _ w.heap.size 23 A (0, 0) _ rfl (r3.out.setRow _) Tryd.underlying23 rfl hAi.out) rfl ⟨rfl, below_setRow b3.out (Nat.le_refl _) _⟩
end Go.Proofs.YtdjlpmelmhhooaaDoor
