/- Ids: Draw, Derive, Cmp; the chapter's example. -/
import Derived.Test.YtdjlpmelmhhooaaGreatDoorIdsX1
import Derived.Test.YtdjlpmelmhhooaaGreatDoorWkX
import Derived.Deep.MidRow
import Derived.Test.YtdjlpmelmhhooaaGreatDoorHmA
import Derived.Test.YtdjlpmelmhhooaaGreatDoorIdsX2
import Derived.Test.YtdjlpmelmhhooaaGreatDoorShfY
import Derived.Test.YtdjlpmelmhhooaaGreatDoorLibA
import Derived.Test.YtdjlpmelmhhooaaGreatDoorIdX
import Derived.Test.YtdjlpmelmhhooaaGreatDoorBasX3
namespace Go.Proofs.YtdjlpmelmhhooaaGreatDoor
section
open Go Go.RowKit
set_option linter.unusedSimpArgs false
set_option linter.unusedVariables false

/-- What is drawn. -/
def drawL (l : List UInt8) : List UInt8 := (l.set 6 (UInt8.ofNat ((l.getD 6 0).toNat % 16 + 64))).set 8 (UInt8.ofNat ((l.getD 8 0).toNat % 64 + 128))
theorem drawL_len (l : List UInt8) : (drawL l).length = l.length := by simp [drawL]
theorem and_or_six (u : Nat) (h : u < 256) : bits .or .u8 (bits .and .u8 (u : Int) 15) 64 = ((u % 16 + 64 : Nat) : Int) := by
  have : ∀ u : Fin 256, bits .or .u8 (bits .and .u8 ((u.val : Nat) : Int) 15) 64 = ((u.val % 16 + 64 : Nat) : Int) := by decide +kernel
  exact this ⟨u, h⟩
theorem and_or_eight (u : Nat) (h : u < 256) : bits .or .u8 (bits .and .u8 (u : Int) 63) 128 = ((u % 64 + 128 : Nat) : Int) := by
  have : ∀ u : Fin 256, bits .or .u8 (bits .and .u8 ((u.val : Nat) : Int) 63) 128 = ((u.val % 64 + 128 : Nat) : Int) := by decide +kernel
  exact this ⟨u, h⟩
theorem range_bytes {w : World} {e : TypeId} {base : Nat} {g c n : Nat} {l : List UInt8} (h : BytesE w e base (.slice (some ⟨g, 0, none⟩) n c) l) (hn : n = 16) (hl : l.length = 16) : w.rangeAt g 0 (idA l).toList := by
  subst hn
  intro j v hj
  have hj16 : j < 16 := by
    have := (List.getElem?_eq_some_iff.1 hj).1
    rw [Array.length_toList, idA_size] at this
    exact this
  rw [Array.getElem?_toList] at hj
  have : (idA l)[j]? = some (idV l j) := rowA_get 16 (idV l) j hj16
  rw [this] at hj
  obtain rfl := Option.some.inj hj
  have hjl : j < l.length := by omega
  have := (h.cell j hjl).1
  rw [Nat.zero_add]
  rw [this]
  simp [idV, List.getD_eq_getElem?_getD, hjl]

theorem arr16 (g c : Nat) (w : World) : (Instr.arrayAt 23 (.slice (some ⟨g, 0, none⟩) 16 c)).run Tryz.prog w = .ok (.pointer (some ⟨g, 0, none⟩)) w := by
  simp [Instr.arrayAt, Sem.run_bind, run_underlying Tryz.underlying23]

end
section
open Go Go.RowKit
set_option linter.unusedSimpArgs false
set_option linter.unusedVariables false

def deriveL (key name : ByteArray) : List UInt8 := drawL ((hmacS key name).data.toList.take 16)
theorem deriveL_len (key name : ByteArray) : (deriveL key name).length = 16 := by
  have := hmacS_size key name
  have h2 : (hmacS key name).data.toList.length = 32 := by rw [← this]; simp
  rw [deriveL, drawL_len, List.length_take, h2]; rfl
theorem short16 (k : ByteArray) (h : k.size = 32) : k.extract 0 16 = idS (k.data.toList.take 16) := by
  refine ByteArray.ext ?_
  rw [ByteArray.data_extract]
  refine Array.ext' ?_
  simp [idS]

end
section
open Go Go.RowKit
set_option linter.unusedSimpArgs false
set_option linter.unusedVariables false

theorem sliceAll16 (B : Nat) (W : World) : (Instr.sliceAt 23 (.pointer (some ⟨B, 0, none⟩)) none none none).run Tryz.prog W = .ok (.slice (some ⟨B, 0, none⟩) 16 16) W := by
  have hal : Tryz.prog.arrayLen 23 = 16 := by simp [Program.arrayLen, Tryz.underlying23]
  simp [Instr.sliceAt, hal, Program.elem, Tryz.underlying23, go_sem, Result.andThen, Sem.run_bind, run_underlying Tryz.underlying23]

set_option maxRecDepth 100000 in
set_option maxHeartbeats 4000000 in
theorem cmpId_any (l m : List UInt8) (hl : l.length = 16) (hm : m.length = 16) (w : World) : Calls Tryz.prog 18 #[.agg (idA l), .agg (idA m)] w fun e w' => e = .returned (.int .i64 (Lib.compareBytes l m)) ∧ Below w.heap.size w w' := by
  have LC : ∀ W, Calls Tryz.prog 54 #[.string (idS l), .string (idS m)] W fun e w' => e = .returned (.int .i64 (Lib.compareBytes l m)) ∧ W = w' := fun W => (compare_any (idS l) (idS m) W).mono fun e w' ⟨h1, h2⟩ => ⟨by rw [h1]; simp [idS], h2.symm⟩
  have cv1 : ∀ W b t, RowAt W b t (idA l) → (convert 83 9 (.slice (some ⟨b, 0, none⟩) 16 16)).run Tryz.prog W = .ok (.string (idS l)) W := fun W b t r => conv_id hl r
  have cv2 : ∀ W b t, RowAt W b t (idA m) → (convert 83 9 (.slice (some ⟨b, 0, none⟩) 16 16)).run Tryz.prog W = .ok (.string (idS m)) W := fun W b t r => conv_id hm r
  obtain ⟨A, hA⟩ : ∃ A, A = idA l := ⟨_, rfl⟩
  obtain ⟨B, hB⟩ : ∃ A, A = idA m := ⟨_, rfl⟩
  obtain ⟨s, hs⟩ : ∃ s, s = idS l := ⟨_, rfl⟩
  obtain ⟨t, ht⟩ : ∃ s, s = idS m := ⟨_, rfl⟩
  obtain ⟨k, hk⟩ : ∃ s, s = Lib.compareBytes l m := ⟨_, rfl⟩
  rw [← hA, ← hs] at cv1
  rw [← hB, ← ht] at cv2
  rw [← hs, ← ht, ← hk] at LC
  rw [← hA, ← hB, ← hk]
  replace LC := hid LC
  replace cv1 := hid cv1
  replace cv2 := hid cv2
  have hsl := sliceAll16
  clear hA hB hs ht hk hl hm
  go_enter Tryz.func18, Tryz.ntmps18
  go_wp2
  generalize hW0 : World.alloc (World.alloc w _) _ = W0
  have r1 : RowAt W0 w.heap.size 23 A := by rw [← hW0]; exact (RowAt.new w _ _).alloc _
  have r2 : RowAt W0 (w.heap.size + 1) 23 B := by rw [← hW0]; exact RowAt.newS w _ _ _ _
  have b0 : Below w.heap.size w W0 := by rw [← hW0]; exact below_al (below_al (Below.refl _ _) _) _
  have h1 := fun q : Sub W0 => cv1.out q.x _ _ (r1.below q.h r1.lt)
  have h2 := fun q : Sub W0 => cv2.out q.x _ _ (r2.below q.h r2.lt)
  replace r1 := hid r1
  replace r2 := hid r2
  replace b0 := hid b0
  clear hW0
  refine wp_region_sub (by kernel_rfl) (by kernel_rfl) ?_
  repeat (go_big_quiet_step (first
    | (go_at_call 54; with_reducible refine Sub.same _ (LC.out _))))
  refine wpQuiet_nil ?_
  intro q
  go_wp2
  go_ret
  exact ⟨rfl, below_cat q.h b0.out⟩
end
section
open Go Go.RowKit
set_option linter.unusedSimpArgs false
set_option linter.unusedVariables false

set_option maxRecDepth 100000 in
set_option maxHeartbeats 4000000 in
theorem refOf_any (s : ByteArray) (hs : s.size = 16) (w : World) : Calls Tryz.prog 51 #[.string s] w fun e w' => e = .returned (.agg (idA s.data.toList)) ∧ Below w.heap.size w w' := by
  obtain ⟨l, hl⟩ : ∃ l, l = s.data.toList := ⟨_, rfl⟩
  have hget : ∀ k (h : k < s.size), (s[k]).toNat = (l.getD k 0).toNat := fun k h => by
    rw [hl]
    have h2 : k < s.data.size := h
    rw [List.getD_eq_getElem?_getD, Array.getElem?_toList, Array.getElem?_eq_getElem h2]
    rfl
  rw [← hl]
  replace hget := hid hget
  clear hl
  go_enter Tryz.func51, Tryz.ntmps51
  go_wp2
  generalize hW : World.alloc (World.alloc w _) _ = W
  have r0 : RowAt W w.heap.size 23 (idA (List.replicate 16 0)) := by rw [← hW]; exact (RowAt.new w _ _).alloc _
  have r1 : RowAt W (w.heap.size + 1) 23 (rowA 16 (copV l 0)) := by rw [copV_zero, ← hW]; exact RowAt.newS w _ _ _ _
  have hb : Below w.heap.size w W := by rw [← hW]; exact below_al (below_al (Below.refl _ _) _) _
  obtain ⟨g, hg⟩ : ∃ g, g = w.heap.size + 1 := ⟨_, rfl⟩
  obtain ⟨h, hh⟩ : ∃ h, h = w.heap.size := ⟨_, rfl⟩
  have hne : h ≠ g := by omega
  have hgw : w.heap.size ≤ g := by omega
  have hhw : w.heap.size ≤ h := by omega
  rw [← hg] at r1
  rw [← hh] at r0
  rw [← hg, ← hh]
  replace r0 := hid r0
  replace r1 := hid r1
  replace hb := hid hb
  clear hW hg hh
  go_loopw [4] (fun p wr => ∃ k : Nat, p = .int .i64 k ∧ k ≤ 16 ∧ Hid (RowAt wr h 23 (idA (List.replicate 16 0))) ∧ Hid (RowAt wr g 23 (rowA 16 (copV l k))) ∧ Hid (Below w.heap.size w wr)) (fun p _ => 16 - (intOf p).toNat)
  case atStart => exact ⟨0, rfl, by omega, r0, r1, hb⟩
  case round =>
    clear r0 r1 hb
    obtain ⟨k, rfl, hk, r0, r1, hb⟩ := hrel
    by_cases hlt : k < 16
    · have hki : (k : Int) < 16 := by omega
      have hks : k < s.size := by omega
      have hd := r1.out.cell (rowA_get 16 (copV l k) k hlt)
      have hf := r1.out.free k
      have r1' := hid ((r1.out.set k (idV l k)).eqA (copV_set l k))
      have r0' := hid (r0.out.other ⟨g, k, none⟩ (idV l k) hne)
      have hb' := hid (hb.out.setCell (p := ⟨g, k, none⟩) hgw (idV l k))
      unfold idV at r1' r0' hb'
      have hc := hget.out k hks
      obtain ⟨u, hu⟩ : ∃ u, u = (l.getD k 0).toNat := ⟨_, rfl⟩
      rw [← hu] at hc r1' r0' hb'
      clear hu
      go_wp2
      go_roundw
      case rel => exact ⟨k + 1, by go_num, by omega, r0', r1', hb'⟩
      case measure => simp [intOf]; omega
    · obtain rfl : k = 16 := by omega
      have r2 := hid (r1.out.eqA (copV_all l))
      have hAi : (Tryz.prog.info? 23).map (·.size) = some (idA l).size := by rw [info16, idA_size]
      replace hAi := hid hAi
      clear r1
      obtain ⟨A, hA⟩ : ∃ A, A = idA l := ⟨_, rfl⟩
      have hAone : A.all (·.oneCell') = true := by rw [hA]; exact idA_one _
      have hAsz : A.size = 16 := by rw [hA, idA_size]
      rw [← hA] at r2 hAi
      replace hAone := hid hAone
      replace hAsz := hid hAsz
      replace hA := hid hA
      go_wp2_with (first
        | (with_reducible refine at_op (some 14) (.load 23 (.tmp 3)) ?_
           refine wpList_load_row (o := ⟨some 14, _, _, _, _, _⟩) rfl 23 (.tmp 3) rfl g rfl 23 A (0, 0) _ r2.out Tryz.underlying23 rfl hAi.out ?_)
        | (with_reducible refine at_op none (.store 23 (.tmp 2) (.tmp 14)) ?_
           refine wpList_store_row (o := ⟨none, .store _ (.tmp 2) (.tmp 14), _, _, _, _⟩) rfl 23 (.tmp 2) (.tmp 14) rfl h A rfl rfl 23 _ r0.out hAi.out (by rw [hAsz.out, idA_size]) hAone.out ?_))
      exact bodyPost_ret (results_cell_row rfl _ _ h 23 A (0, 0) _ rfl (r0.out.setRow _) Tryz.underlying23 rfl hAi.out) rfl ⟨by rw [hA.out], below_setRow hb.out hhw _⟩
end
section
open Go Go.RowKit
set_option linter.unusedSimpArgs false
set_option linter.unusedVariables false

theorem draw_set (l : List UInt8) (hl : l.length = 16) : ((idA l).setIfInBounds 6 (.int .u8 (((l.getD 6 0).toNat % 16 + 64 : Nat) : Int))).setIfInBounds 8 (.int .u8 (((l.getD 8 0).toNat % 64 + 128 : Nat) : Int)) = idA (drawL l) := by
  have hu6 : (l.getD 6 0).toNat < 256 := (l.getD 6 0).toNat_lt
  have hu8 : (l.getD 8 0).toNat < 256 := (l.getD 8 0).toNat_lt
  unfold idA
  rw [rowA_set, rowA_set]
  refine rowA_ext fun i hi => ?_
  have hil : i < l.length := by omega
  have m1 : (l.getD 6 0).toNat % 16 + 64 < 256 := by omega
  have m2 : (l.getD 8 0).toNat % 64 + 128 < 256 := by omega
  unfold idV drawL
  by_cases h8 : i = 8
  · subst h8; simp [List.getD_eq_getElem?_getD, hil]
    rw [List.getD_eq_getElem?_getD, List.getElem?_eq_getElem hil] at m2
    simp at m2; omega
  · by_cases h6 : i = 6
    · subst h6; simp [List.getD_eq_getElem?_getD, hil, h8]
      rw [List.getD_eq_getElem?_getD, List.getElem?_eq_getElem hil] at m1
      simp at m1; omega
    · simp [h6, h8, List.getD_eq_getElem?_getD, hil, Ne.symm h6, Ne.symm h8, List.getElem_set]

set_option maxRecDepth 100000 in
set_option maxHeartbeats 4000000 in
theorem idAwake_any (w : World) : Calls Tryz.prog 11 #[] w fun e w' => e = .returned (.bool true) ∧ Below w.heap.size w w' := by
  have LT := fun w => callsIn_wide.1 (idText_in (List.replicate 16 0) rfl w)
  rw [textI_zero] at LT
  rw [show idA (List.replicate 16 0) = #[.int .u8 0, .int .u8 0, .int .u8 0, .int .u8 0, .int .u8 0, .int .u8 0, .int .u8 0, .int .u8 0, .int .u8 0, .int .u8 0, .int .u8 0, .int .u8 0, .int .u8 0, .int .u8 0, .int .u8 0, .int .u8 0] from rfl] at LT
  have L2 : ∀ w, Calls Tryz.prog 42 #[] w fun e w' => e = .returned (.bool true) ∧ Below w.heap.size w w' := fun w => by
    go_enter Tryz.func42, Tryz.ntmps42
    go_wp2_with (go_at_call 81; with_reducible refine (basAwake_any _).mono ?_; rintro e w1 ⟨rfl, hB⟩)
    go_ret
    exact ⟨rfl, hB⟩
  have L6 : ∀ w, Calls Tryz.prog 43 #[] w fun e w' => e = .returned (.bool true) ∧ Below w.heap.size w w' := fun w => by
    go_enter Tryz.func43, Tryz.ntmps43
    go_wp2_with (go_at_call 82; with_reducible refine (hmacAwake_any _).mono ?_; rintro e w1 ⟨rfl, hB⟩)
    go_ret
    exact ⟨rfl, hB⟩
  replace LT := hid LT
  replace L2 := hid L2
  replace L6 := hid L6
  go_enter Tryz.func11, Tryz.ntmps11
  go_wp2_with (first
    | (go_at_call 42; with_reducible refine (L2.out _).mono ?_; rintro e w1 ⟨rfl, hB1⟩)
    | (go_at_call 43; with_reducible refine (L6.out _).mono ?_; rintro e w2 ⟨rfl, hB2⟩)
    | (go_at_call 12; with_reducible refine (LT.out _).mono ?_; rintro e w3 ⟨rfl, hB3⟩))
  go_ret
  exact ⟨rfl, by repeat (first | assumption | with_reducible apply below_cat)⟩
end
end Go.Proofs.YtdjlpmelmhhooaaGreatDoor
