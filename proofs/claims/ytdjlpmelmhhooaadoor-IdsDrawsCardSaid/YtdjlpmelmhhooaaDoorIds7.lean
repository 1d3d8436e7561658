/- Ids: Draw of 16 bytes. -/
import Derived.Test.YtdjlpmelmhhooaaDoorIds6
import Derived.Test.YtdjlpmelmhhooaaDoorAtOp
import Derived.Deep.MidRow
namespace Go.Proofs.YtdjlpmelmhhooaaDoor
open Go Go.RowKit
set_option linter.unusedSimpArgs false
set_option linter.unusedVariables false

/-- What is drawn. -/
def drawL (l : List UInt8) : List UInt8 := (l.set 6 (UInt8.ofNat ((l.getD 6 0).toNat % 16 + 64))).set 8 (UInt8.ofNat ((l.getD 8 0).toNat % 64 + 128))
theorem drawL_len (l : List UInt8) : (drawL l).length = l.length := by simp [drawL]
theorem and_or_six (u : Nat) (h : u < 256) : bits .or .u8 (bits .and .u8 (u : Int) 15) 64 = ((u % 16 + 64 : Nat) : Int) := by
  have : ∀ u : Fin 256, bits .or .u8 (bits .and .u8 ((u.val : Nat) : Int) 15) 64 = ((u.val % 16 + 64 : Nat) : Int) := by decide +kernel
  exact this ⟨u, h⟩
theorem and_or_eight (u : Nat) (h : u < 256) : bits .or .u8 (bits .and .u8 (u : Int) 63) 128 = ((u % 64 + 128 : Nat) : Int) := by
  have : ∀ u : Fin 256, bits .or .u8 (bits .and .u8 ((u.val : Nat) : Int) 63) 128 = ((u.val % 64 + 128 : Nat) : Int) := by decide +kernel
  exact this ⟨u, h⟩
theorem range_bytes {w : World} {e : TypeId} {base : Nat} {g c n : Nat} {l : List UInt8} (h : BytesE w e base (.slice (some ⟨g, 0, none⟩) n c) l) (hn : n = 16) (hl : l.length = 16) : w.rangeAt g 0 (idA l).toList := by
  subst hn
  intro j v hj
  have hj16 : j < 16 := by
    have := (List.getElem?_eq_some_iff.1 hj).1
    rw [Array.length_toList, idA_size] at this
    exact this
  rw [Array.getElem?_toList] at hj
  have : (idA l)[j]? = some (idV l j) := rowA_get 16 (idV l) j hj16
  rw [this] at hj
  obtain rfl := Option.some.inj hj
  have hjl : j < l.length := by omega
  have := (h.cell j hjl).1
  rw [Nat.zero_add]
  rw [this]
  simp [idV, List.getD_eq_getElem?_getD, hjl]

theorem arr16 (g c : Nat) (w : World) : (Instr.arrayAt 23 (.slice (some ⟨g, 0, none⟩) 16 c)).run Tryd.prog w = .ok (.pointer (some ⟨g, 0, none⟩)) w := by
  simp [Instr.arrayAt, Sem.run_bind, run_underlying Tryd.underlying23]

set_option maxRecDepth 100000 in
set_option maxHeartbeats 4000000 in
theorem draw_some (l : List UInt8) (hl : l.length = 16) (w : World) : Calls Tryd.prog 8 #[.string (idS l)] w fun e w' => e = .returned (.tuple #[.agg (idA (drawL l)), .int .i64 0]) ∧ Below w.heap.size w w' := by
  have hd : (((idS l).size : Int) != 16) = false := by rw [idS_size, hl]; rfl
  have hs16 : (idS l).size = 16 := by rw [idS_size, hl]
  have hsl : (idS l).data.toList = l := by simp [idS]
  obtain ⟨gF, cF, F, hF⟩ := bytesF (P := Tryd.prog) 9 44 5 (idS l) Tryd.underlying9 Tryd.underlying44 Tryd.underlying5 (by rw [hs16]; decide)
  rw [hsl, hs16] at hF
  have hF1 := fun W => (hF W).1
  obtain ⟨s, hs⟩ : ∃ s, s = idS l := ⟨_, rfl⟩
  rw [← hs] at hd hF1 ⊢
  have hR := hid (fun W => range_bytes (hF W).2.1 rfl hl)
  have hB := hid (fun W => (hF W).2.2.1)
  obtain ⟨A, hA⟩ : ∃ A, A = idA l := ⟨_, rfl⟩
  have hAs : (Tryd.prog.info? 23).map (·.size) = some A.toList.length := by rw [info16, hA, Array.length_toList, idA_size]
  replace hAs := hid hAs
  rw [← hA] at hR
  replace hs := hid hs
  have ha := arr16
  clear hF hs16 hsl
  go_enter Tryd.func8, Tryd.ntmps8
  have hAone : A.all (·.oneCell') = true := by rw [hA]; exact idA_one l
  have hAsz : A.size = 16 := by rw [hA, idA_size]
  have hAi : (Tryd.prog.info? 23).map (·.size) = some A.size := by rw [info16, hAsz]
  have hu6 : (l.getD 6 0).toNat < 256 := (l.getD 6 0).toNat_lt
  have hu8 : (l.getD 8 0).toNat < 256 := (l.getD 8 0).toNat_lt
  have hb6 := and_or_six _ hu6
  have hb8 := and_or_eight _ hu8
  have hA6 : A[6]? = some (.int .u8 ((l.getD 6 0).toNat : Int)) := by rw [hA]; exact rowA_get 16 (idV l) 6 (by decide)
  have hA8 : A[8]? = some (.int .u8 ((l.getD 8 0).toNat : Int)) := by rw [hA]; exact rowA_get 16 (idV l) 8 (by decide)
  have hfin : (A.setIfInBounds 6 (.int .u8 (((l.getD 6 0).toNat % 16 + 64 : Nat) : Int))).setIfInBounds 8 (.int .u8 (((l.getD 8 0).toNat % 64 + 128 : Nat) : Int)) = idA (drawL l) := by
    rw [hA]
    unfold idA
    rw [rowA_set, rowA_set]
    refine rowA_ext fun i hi => ?_
    have hil : i < l.length := by omega
    have m1 : (l.getD 6 0).toNat % 16 + 64 < 256 := by omega
    have m2 : (l.getD 8 0).toNat % 64 + 128 < 256 := by omega
    unfold idV drawL
    by_cases h8 : i = 8
    · subst h8; simp [List.getD_eq_getElem?_getD, hil]
      rw [List.getD_eq_getElem?_getD, List.getElem?_eq_getElem hil] at m2
      simp at m2; omega
    · by_cases h6 : i = 6
      · subst h6; simp [List.getD_eq_getElem?_getD, hil, h8]
        rw [List.getD_eq_getElem?_getD, List.getElem?_eq_getElem hil] at m1
        simp at m1; omega
      · simp [h6, h8, List.getD_eq_getElem?_getD, hil, Ne.symm h6, Ne.symm h8, List.getElem_set]
  obtain ⟨u6, e6⟩ : ∃ u, u = (l.getD 6 0).toNat := ⟨_, rfl⟩
  obtain ⟨u8, e8⟩ : ∃ u, u = (l.getD 8 0).toNat := ⟨_, rfl⟩
  rw [← e6] at hA6 hb6 hfin
  rw [← e8] at hA8 hb8 hfin
  rw [← hfin]
  obtain ⟨v6, f6⟩ : ∃ u : Int, u = ((u6 % 16 + 64 : Nat) : Int) := ⟨_, rfl⟩
  obtain ⟨v8, f8⟩ : ∃ u : Int, u = ((u8 % 64 + 128 : Nat) : Int) := ⟨_, rfl⟩
  rw [← f6] at hb6 hfin ⊢
  rw [← f8] at hb8 hfin ⊢
  replace hA6 := hid hA6
  replace hA8 := hid hA8
  replace hAone := hid hAone
  replace hAsz := hid hAsz
  replace hAi := hid hAi
  replace hfin := hid hfin
  clear hA hu6 hu8 e6 e8 f6 f8
  go_wp2_with (first
    | (with_reducible refine at_op (some 12) (.load 23 (.tmp 11)) ?_
       refine wpList_load_mid (op := ⟨some 12, _, _, _, _, _⟩) rfl 23 (.tmp 11) rfl (gF _) 0 rfl A.toList _ (hR.out _) Tryd.underlying23 rfl hAs.out ?_
       generalize hW0 : World.alloc w _ = W0
       have r0 : RowAt W0 w.heap.size 23 (idA (List.replicate 16 0)) := by rw [← hW0]; exact RowAt.new w _ _
       have b0 : Below w.heap.size w W0 := by rw [← hW0]; exact below_al (Below.refl _ _) _
       have b1 := below_cat (hB.out W0) b0
       have r1 := r0.below (hB.out W0) r0.lt
       have s1 : w.heap.size < (F W0).heap.size := r1.lt
       clear hW0 r0 b0
       generalize hX : F W0 = X
       rw [hX] at b1 r1 s1
       clear hX hR hB hF1
       replace b1 := hid b1
       replace r1 := hid r1)
    | (with_reducible refine at_op none (.store 23 (.tmp 4) (.tmp 12)) ?_
       refine wpList_store_row (o := ⟨none, .store _ (.tmp 4) (.tmp 12), _, _, _, _⟩) rfl 23 (.tmp 4) (.tmp 12) rfl X.heap.size A rfl rfl 23 _ (RowAt.new X _ _) hAi.out (by rw [hAsz.out]; rfl) hAone.out ?_
       generalize hY : World.setRow _ _ _ = Y
       have r2 : RowAt Y X.heap.size 23 A := by rw [← hY]; exact (RowAt.new X _ _).setRow A
       have r3 : RowAt Y w.heap.size 23 (idA (List.replicate 16 0)) := by rw [← hY]; exact (r1.out.alloc _).setRowOther _ _ (by omega)
       have b2 : Below w.heap.size w Y := by rw [← hY]; exact below_setRow (below_al b1.out _) (by omega) _
       generalize hg : X.heap.size = g
       rw [hg] at r2 s1
       have c6 := r2.cell hA6.out
       have c8 := r2.cell hA8.out
       have k6 := r2.free 6
       have k8 := r2.free 8
       have r4 := hid (((r2.set 6 (.int .u8 v6)).set 8 (.int .u8 v8)))
       have r5 := hid ((r3.other ⟨g, 6, none⟩ (.int .u8 v6) (by show w.heap.size ≠ g; omega)).other ⟨g, 8, none⟩ (.int .u8 v8) (by show w.heap.size ≠ g; omega))
       have b3 := hid ((b2.setCell (p := ⟨g, 6, none⟩) (by show w.heap.size ≤ g; omega) (.int .u8 v6)).setCell (p := ⟨g, 8, none⟩) (by show w.heap.size ≤ g; omega) (.int .u8 v8))
       clear hY hg r1 b1 r2 r3 b2)
    | (with_reducible refine at_op (some 23) (.load 23 (.tmp 4)) ?_
       refine wpList_load_row (o := ⟨some 23, _, _, _, _, _⟩) rfl 23 (.tmp 4) rfl g rfl 23 _ (0, 0) _ r4.out Tryd.underlying23 rfl (by rw [info16]; simp [hAsz.out]) ?_)
    | (with_reducible refine at_op none (.store 23 (.tmp 2) (.tmp 23)) ?_
       refine wpList_store_row (o := ⟨none, .store _ (.tmp 2) (.tmp 23), _, _, _, _⟩) rfl 23 (.tmp 2) (.tmp 23) rfl w.heap.size _ rfl rfl 23 _ r5.out (by rw [info16]; simp [hAsz.out]) (by simp [hAsz.out, idA_size]) ?hone ?_))
  case hone => rw [hfin.out]; exact idA_one _
  exact bodyPost_ret (results_row_tmpI rfl _ _ w.heap.size 23 _ (0, 0) _ rfl (r5.out.setRow _) Tryd.underlying23 rfl (by rw [info16]; simp [hAsz.out])) rfl ⟨rfl, below_setRow b3.out (Nat.le_refl _) _⟩
end Go.Proofs.YtdjlpmelmhhooaaDoor
