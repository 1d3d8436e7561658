/- A hash's sum: the walk. -/
import Derived.Test.YtbbjoahloghpkaaDoorSha7
import Derived.Test.YtbbjoahloghpkaaDoorSha8
import Derived.Lib.BufferWrite
import Derived.Lib.SlBuf
namespace Go.Proofs.YtbbjoahloghpkaaDoor
open Go Go.RowKit
set_option linter.unusedSimpArgs false
attribute [local go_sem] Oper.semAt_some

def initS : St := ⟨startL.getD 0 0, startL.getD 1 0, startL.getD 2 0, startL.getD 3 0, startL.getD 4 0, startL.getD 5 0, startL.getD 6 0, startL.getD 7 0⟩
theorem initS_ok : initS.Ok := ⟨by decide, by decide, by decide, by decide, by decide, by decide, by decide, by decide⟩
theorem initS_row : rowA 8 (wordsF startL 8) = initS.cells := by
  refine (rowA_of (n := 8) (A := initS.cells) rfl fun j h => ?_).symm
  rcases lt8 h with rfl | rfl | rfl | rfl | rfl | rfl | rfl | rfl <;> rfl
def compAll (s : St) (bs : List ByteArray) : St := bs.foldl (fun s b => comp s b.data.toList) s
theorem compAll_snoc (s : St) (bs : List ByteArray) (b : ByteArray) : compAll s (bs ++ [b]) = comp (compAll s bs) b.data.toList := by simp [compAll]
theorem compAll_ok (s : St) (h : s.Ok) (bs : List ByteArray) : (compAll s bs).Ok := by
  unfold compAll
  induction bs generalizing s with
  | nil => exact h
  | cons b bs ih => exact ih _ (comp_ok _ _)
/-- A sum's byte. -/
def shaByte (t : St) (j : Nat) : UInt8 := byteAt (t.nth (j / 4)) (3 - j % 4)
def outV (t : St) (k j : Nat) : Value := .int .u8 (((if j < 4 * k then shaByte t j else 0 : UInt8).toNat : Nat) : Int)
def lastS (s : ByteArray) : St := compAll initS (blocksN (padS s))
def sumA (s : ByteArray) : Array Value := rowA 32 fun j => .int .u8 ((shaByte (lastS s) j).toNat : Int)
theorem outV_all (t : St) : rowA 32 (outV t 8) = rowA 32 fun j => .int .u8 ((shaByte t j).toNat : Int) := rowA_ext fun j hj => by
  unfold outV; rw [if_pos (by omega)]
theorem outV_zero (t : St) : rowA 32 (outV t 0) = rowA 32 fun _ => .int .u8 0 := rowA_ext fun j hj => by
  unfold outV; rw [if_neg (by omega)]; rfl
theorem outV_splice (t : St) (k : Nat) (hk : k < 8) :
    ((rowA 32 (outV t k)).toList.take (4 * k) ++ Lib.byteCells (beS (t.nth k) 4).data.toList ++ (rowA 32 (outV t k)).toList.drop (4 * k + (beS (t.nth k) 4).size)).toArray = rowA 32 (outV t (k + 1)) := by
  have hb : (beS (t.nth k) 4).size = 4 := beS_size _ _
  have hl : (beS (t.nth k) 4).data.toList = beL (t.nth k) 4 := by simp [beS]
  have hbl : (Lib.byteCells (beL (t.nth k) 4)).length = 4 := by rw [Lib.byteCells_length, beL_length]
  have hrl : (rowA 32 (outV t k)).toList.length = 32 := by simp [rowA]
  rw [hb, hl]
  refine rowA_of ?_ fun j hj => ?_
  · simp [hbl, rowA_size]; omega
  · rw [List.getElem?_toArray]
    by_cases h1 : j < 4 * k
    · rw [List.getElem?_append_left (by simp [hbl, rowA_size]; omega), List.getElem?_append_left (by simp [rowA_size]; omega), List.getElem?_take, if_pos h1, Array.getElem?_toList, rowA_get _ _ _ hj]
      unfold outV; rw [if_pos h1, if_pos (by omega)]
    · by_cases h2 : j < 4 * k + 4
      · rw [List.getElem?_append_left (by simp [hbl, rowA_size]; omega), List.getElem?_append_right (by simp [rowA_size]; omega)]
        obtain ⟨i, hi, rfl⟩ : ∃ i, i < 4 ∧ j = 4 * k + i := ⟨j - 4 * k, by omega, by omega⟩
        have e : 4 * k + i - (List.take (4 * k) (rowA 32 (outV t k)).toList).length = i := by simp [rowA_size]; omega
        rw [e]
        unfold outV shaByte
        rw [if_pos (by omega), show (4 * k + i) / 4 = k by omega, show (4 * k + i) % 4 = i by omega]
        simp [Lib.byteCells, beL, hi]
      · rw [List.getElem?_append_right (by simp [hbl, rowA_size]; omega), List.getElem?_drop]
        have e : 4 * k + 4 + (j - (List.take (4 * k) (rowA 32 (outV t k)).toList ++ Lib.byteCells (beL (t.nth k) 4)).length) = j := by simp [hbl, rowA_size]; omega
        rw [e, Array.getElem?_toList, rowA_get _ _ _ hj]
        unfold outV; rw [if_neg h1, if_neg (by omega)]
theorem outV_one (t : St) (k : Nat) : (rowA 32 (outV t k)).all (·.oneCell') = true := by
  rw [Array.all_eq_true]; intro i h; simp only [rowA, Array.getElem_ofFn, outV]; rfl
theorem sumA_one (s : ByteArray) : (sumA s).all (·.oneCell') = true := by
  rw [Array.all_eq_true]; intro i h; simp only [sumA, rowA, Array.getElem_ofFn]; rfl
theorem zero32 (t : St) (w : World) : (zeroValue 86).run Tryd.prog w = .ok (.agg (rowA 32 (outV t 0))) w := by rw [outV_zero]; kernel_rfl
theorem info32 : (Tryd.prog.info? 86).map (·.size) = some 32 := by kernel_rfl

theorem mem_blocks {p x : ByteArray} (h : x ∈ blocksN p) : x.size = 64 := by
  unfold blocksN blocksTo at h
  obtain ⟨i, hi, rfl⟩ := List.mem_map.1 h
  have := List.mem_range.1 hi
  exact blk_size _ _ (by omega)
theorem nth_lt {t : St} (h : t.Ok) (i : Nat) : t.nth i < 4294967296 := by
  unfold St.nth
  split
  · exact h.a
  · exact h.b
  · exact h.c
  · exact h.d
  · exact h.e
  · exact h.f
  · exact h.g
  · exact h.h
  · decide
theorem info1 : (Tryd.prog.info? 5).map (·.size) = some 1 := by kernel_rfl
theorem padS_le (s : ByteArray) : (padS s).size ≤ s.size + 72 := by rw [padS_size]; unfold padK; omega
theorem sum_world (w w1 w2 W0 : World) (s : ByteArray) (t : St) (hB1 : Below ((w.alloc (.cells #[.string s] 110)).alloc (.cells (rowA 32 (outV t 0)) 86)).heap.size ((w.alloc (.cells #[.string s] 110)).alloc (.cells (rowA 32 (outV t 0)) 86)) w1) (hB2 : Below w1.heap.size w1 w2)
    (hW0 : (((w2.alloc (.cells (rowA 8 (wordsF startL 0)) 127)).alloc (.cells (rowA 64 (wordsF keyL 0)) 129)).setRow w2.heap.size initS.cells).setRow (w2.heap.size + 1) (rowA 64 (wordsF keyL 64)) = W0) :
    RowAt W0 w.heap.size 110 #[.string s] ∧ RowAt W0 (w.heap.size + 1) 86 (rowA 32 (outV t 0)) ∧ RowAt W0 w2.heap.size 127 initS.cells ∧ RowAt W0 (w2.heap.size + 1) 129 (rowA 64 (wordsF keyL 64)) ∧ Below w.heap.size w W0 ∧ w.heap.size + 2 ≤ w2.heap.size := by
  have h1 := hB1.size
  have h2 := hB2.size
  simp only [World.size_alloc] at h1
  have hc := below_cat hB2 hB1
  have r0 : RowAt w2 w.heap.size 110 #[.string s] := ((RowAt.new w #[.string s] 110).alloc (.cells (rowA 32 (outV t 0)) 86)).below hc (by simp; omega)
  have r1 : RowAt w2 (w.heap.size + 1) 86 (rowA 32 (outV t 0)) := by
    have := RowAt.new (w.alloc (.cells #[.string s] 110)) (rowA 32 (outV t 0)) 86
    rw [World.size_alloc] at this
    exact this.below hc (by simp)
  have r2 := RowAt.new w2 (rowA 8 (wordsF startL 0)) 127
  have r3 := RowAt.new (w2.alloc (.cells (rowA 8 (wordsF startL 0)) 127)) (rowA 64 (wordsF keyL 0)) 129
  rw [World.size_alloc] at r3
  have hB : Below w.heap.size w w2 := below_cat hc (below_al (below_al (Below.refl _ _) _) _)
  rw [← hW0]
  refine ⟨?_, ?_, ?_, ?_, ?_, by omega⟩
  · exact (((r0.alloc _).alloc _).setRowOther _ _ (by omega)).setRowOther _ _ (by omega)
  · exact (((r1.alloc _).alloc _).setRowOther _ _ (by omega)).setRowOther _ _ (by omega)
  · exact ((r2.alloc _).setRow _).setRowOther _ _ (by omega)
  · exact (r3.setRowOther _ _ (by omega)).setRow _
  · exact below_setRow (below_setRow (below_al (below_al hB _) _) (by omega) _) (by omega) _

set_option maxRecDepth 100000 in
set_option maxHeartbeats 4000000 in
theorem hash_sum (s : ByteArray) (hs : s.size ≤ 140737488351232) (w : World) : Calls Tryd.prog 91 #[.agg #[.string s]] w fun e w' => e = .returned (.agg (sumA s)) ∧ Below w.heap.size w w' := by
  obtain ⟨t, ht⟩ : ∃ t, t = lastS s := ⟨_, rfl⟩
  have hz := zero32 t
  have hz8 := zero8
  have hz64 := zero64
  have LS : ∀ w, Calls Tryd.prog 102 #[] w fun e w' => e = .returned (.agg initS.cells) ∧ Below w.heap.size w w' := fun w => by have := start_any w; unfold wordsV at this; rwa [initS_row] at this
  have LK : ∀ w, Calls Tryd.prog 103 #[] w fun e w' => e = .returned (.agg (rowA 64 (wordsF keyL 64))) ∧ Below w.heap.size w w' := fun w => keys_any w
  have LB := fun w => blocks_make s hs w
  replace LS := hid LS
  replace LK := hid LK
  replace LB := hid LB
  replace ht := hid ht
  refine (callsIn_wide (n := 0)).1 ?_
  refine callsIn_of_wp_marks Tryd.func91 rfl trivial ?_
  simp only [Tryd.ntmps91, List.size_toArray, List.length_cons, List.length_nil, Nat.reduceAdd, Nat.reduceSub, Array.replicate_succ, Array.replicate_zero, List.push_toArray, List.append_toArray, List.nil_append, List.cons_append]
  gi_wp2_with (first
    | (refine ⟨trivial, rfl, ?_⟩; gi_at_call 102; refine (callsIn_wide.2 (LS.out _)).mono ?_; rintro e w1 ⟨rfl, hB1⟩)
    | (refine ⟨trivial, rfl, ?_⟩; gi_at_call 103; refine (callsIn_wide.2 (LK.out _)).mono ?_; rintro e w2 ⟨rfl, hB2⟩)
    | (refine wpListIn_store_row rfl 127 _ _ rfl w2.heap.size initS.cells rfl rfl 127 (rowA 8 (wordsF startL 0)) ((RowAt.new _ _ _).alloc _) (by rw [info8]; rfl) (by rw [rowA_size]; rfl) (St.one _) ?_)
    | (refine wpListIn_store_row rfl 129 _ _ rfl (w2.heap.size + 1) (rowA 64 (wordsF keyL 64)) rfl rfl 129 (rowA 64 (wordsF keyL 0)) (RowAt.setRowOther (by have := RowAt.new (w2.alloc (.cells (rowA 8 (wordsF startL 0)) 127)) (rowA 64 (wordsF keyL 0)) 129; rwa [World.size_alloc] at this) _ _ (by omega)) (by rw [info64, rowA_size]) (by rw [rowA_size, rowA_size]) (wordsF_one _ _ _) ?_
       generalize hW0 : World.setRow (World.setRow _ _ _) _ _ = W0
       obtain ⟨m0, m1, m2, m3, hB0, hsz0⟩ := sum_world w w1 w2 W0 s t hB1 hB2 hW0
       have q0 : W0.cell? ⟨w.heap.size, 0, none⟩ = some (.string s) := m0.cell rfl
       clear hW0 hB1 hB2
       obtain ⟨S0, hS0⟩ : ∃ S0, S0 = w2.heap.size := ⟨_, rfl⟩
       rw [← hS0] at m2 m3 hsz0 ⊢
       clear hS0 hz8 hz64
       clear w1 w2
       replace m0 := hid m0
       replace m1 := hid m1
       replace m2 := hid m2
       replace m3 := hid m3
       replace hB0 := hid hB0)
    | (refine ⟨trivial, rfl, ?_⟩; gi_at_call 104; refine (callsIn_wide.2 (LB.out _)).mono ?_; rintro e W1 ⟨rfl, hbx, hB1⟩
       replace hbx := hid hbx
       replace hB1 := hid hB1))
  have n1 := m1.out.below hB1.out m1.out.lt
  have n2 := m2.out.below hB1.out m2.out.lt
  have n3 := m3.out.below hB1.out m3.out.lt
  have nB := below_cat hB1.out hB0.out
  have hS0 : S0 + 1 < W0.heap.size := m3.out.lt
  have hsz01 := hB1.out.size
  have hw1 : w.heap.size + 1 < W0.heap.size := m1.out.lt
  refine wp_iter_put (gf := 120) (lb := #[.pointer (some ⟨W0.heap.size, 0, none⟩)]) rfl (enters_of Tryd.func120 (by kernel_rfl) rfl) (blocks_on (padS s) (by have := padS_le s; omega) (padS_mod s) W0.heap.size W1 hbx.out)
    (fun _ h => h.elim) (fun k hk => by subst hk; exact hbx.out.lt) (fun _ => rfl) (fun x => [(5, .string x)])
    (fun pre X => RowAt X (w.heap.size + 1) 86 (rowA 32 (outV t 0)) ∧ RowAt X S0 127 (compAll initS pre).cells ∧ RowAt X (S0 + 1) 129 (rowA 64 (wordsF keyL 64)) ∧ Below w.heap.size w X)
    (fun _ _ _ => False) ?hI ?hIx ⟨n1, n2, n3, nB⟩ ?assign ?body ?done ?stop
  case hI =>
    rintro pre X Y ⟨h1, h2, h3, h4⟩ hk
    have hT : ∀ k, (False ∨ twoOf W1.heap.size k) → W0.heap.size ≤ k := by rintro k (h | h | h); exact h.elim; all_goals omega
    exact ⟨hk.row h1 (fun x => by have := hT _ x; omega), hk.row h2 (fun x => by have := hT _ x; omega), hk.row h3 (fun x => by have := hT _ x; omega), below_kept h4 hk (Nat.le_refl _) (fun k x => by have := hT _ x; omega)⟩
  case hIx => exact fun _ _ _ _ h => h.elim
  case assign =>
    intro l x W K hK
    gi_wp2
    simpa [encB, putAll] using hK
  case body =>
    rintro pre x post X hx hXs _ ⟨h1, h2, h3, h4⟩
    have hx64 : x.size = 64 := mem_blocks (by rw [hx]; simp)
    have hok := compAll_ok initS initS_ok pre
    have LN := next_any (compAll initS pre) hok (S0 + 1) x hx64 X h3
    obtain ⟨c, hc⟩ : ∃ c, c = compAll initS pre := ⟨_, rfl⟩
    have hcn : comp c x.data.toList = compAll initS (pre ++ [x]) := by rw [hc, compAll_snoc]
    rw [← hc] at LN h2
    obtain ⟨d, hd⟩ : ∃ d, d = comp c x.data.toList := ⟨_, rfl⟩
    rw [← hd] at LN hcn
    have g2 : X.heap[S0]? = some (.cells c.cells 127 (0, 0)) := h2
    replace g2 := hid g2
    replace hcn := hid hcn
    replace LN := hid LN
    clear hx hok hx64 hc hd
    simp only [putAll, encB, fold1, List.foldl_cons, List.foldl_nil, List.setIfInBounds_toArray, List.set_cons_zero, List.set_cons_succ]
    gi_wp2_with (first
      | (refine wpListIn_load_row rfl 127 _ rfl S0 rfl 127 c.cells (0, 0) _ g2.out Tryd.underlying127 rfl (by rw [info8]; rfl) ?_)
      | (refine ⟨trivial, rfl, ?_⟩; gi_at_call 105; with_reducible refine (CallsIn.inRound _ (callsIn_wide.2 LN.out)).mono ?_; rintro e Y ⟨rfl, hBY⟩
         have k1 := h1.below hBY h1.lt; have k2 := h2.below hBY h2.lt; have k3 := h3.below hBY h3.lt; have k4 := below_cat hBY h4
         have hkp := Kept.of_below (S := fun k => ¬ (twoOf W1.heap.size k ∨ k = W0.heap.size)) hBY
         have g3 : Hid (Y.heap[S0]? = some (.cells c.cells 127 (0, 0))) := k2
         clear hBY LN g2)
      | (refine wpListIn_store_row rfl 127 _ _ rfl S0 d.cells rfl rfl 127 c.cells g3.out (by rw [info8]; rfl) rfl (St.one _) ?_))
    exact ⟨hkp.setRow _ (by simp [twoOf]; omega) _, k1.setRowOther _ _ (by omega), by rw [← hcn.out]; exact k2.setRow _, k3.setRowOther _ _ (by omega), below_setRow k4 (by omega) _⟩
  case stop => exact fun _ _ _ _ _ _ _ h => h.elim
  case done =>
    rintro X hX ⟨h1, h2, h3, h4⟩ hd
    have ht2 : compAll initS (blocksN (padS s)) = t := by rw [ht.out]; rfl
    have hok : t.Ok := by rw [← ht2]; exact compAll_ok _ initS_ok _
    rw [ht2] at h2
    have g2 : X.heap[S0]? = some (.cells t.cells 127 (0, 0)) := h2
    have hwX : w.heap.size + 1 < X.heap.size := h1.lt
    have hSX : W1.heap.size < X.heap.size := by omega
    replace g2 := hid g2
    replace h1 := hid h1
    replace h3 := hid h3
    replace h4 := hid h4
    replace hd := hid hd
    replace n1 := hid n1
    replace n2 := hid n2
    replace n3 := hid n3
    replace nB := hid nB
    replace hok := hid hok
    clear h2 ht2
    gi_wp2_with (refine wpListIn_load_row rfl 127 _ rfl S0 rfl 127 t.cells (0, 0) _ (RowAt.alloc (w := X) g2.out _) Tryd.underlying127 rfl (by rw [info8]; rfl) ?_)
    obtain ⟨O, hO⟩ : ∃ O, O = X.heap.size := ⟨_, rfl⟩
    have k0 : RowAt (X.alloc (.cells (rowA 32 (outV t 0)) 86)) O 86 (rowA 32 (outV t 0)) := by rw [hO]; exact RowAt.new _ _ _
    have k1 := h1.out.alloc (.cells (rowA 32 (outV t 0)) 86)
    have k4 := below_al h4.out (.cells (rowA 32 (outV t 0)) 86)
    have kd : (X.alloc (.cells (rowA 32 (outV t 0)) 86)).heap[W1.heap.size]? = some (.deferred (some [])) := (Below.heap_alloc _ _ _ hSX).trans hd.out
    rw [← hO] at hwX hSX ⊢
    obtain ⟨X1, hX1⟩ : ∃ X1, X1 = X.alloc (.cells (rowA 32 (outV t 0)) 86) := ⟨_, rfl⟩
    rw [← hX1] at k0 k1 k4 kd ⊢
    clear hX1 hO h1 h3 h4 hd hX
    clear g2
    clear X
    gi_loopw [19] (fun v wr => ∃ i : Nat, i ≤ 8 ∧ v = .int .i64 (i : Nat) ∧ Hid (RowAt wr O 86 (rowA 32 (outV t i))) ∧ Hid (RowAt wr (w.heap.size + 1) 86 (rowA 32 (outV t 0))) ∧ Hid (Below w.heap.size w wr) ∧ Hid (wr.heap[W1.heap.size]? = some (.deferred (some [])))) (fun v _ => 8 - (intOf v).toNat)
    case atStart => exact ⟨0, by omega, rfl, k0, k1, k4, kd⟩
    case round =>
      clear k0 k1 k4 kd
      obtain ⟨i, hi, rfl, k0, k1, k4, kd⟩ := hrel
      by_cases h8 : i = 8
      · subst h8
        have g0 : wr.heap[O]? = some (.cells (rowA 32 (outV t 8)) 86 (0, 0)) := k0.out
        have g1 : wr.heap[w.heap.size + 1]? = some (.cells (rowA 32 (outV t 0)) 86 (0, 0)) := k1.out
        replace g0 := hid g0
        replace g1 := hid g1
        gi_wp2_with (first
          | (refine wpListIn_load_row rfl 86 _ rfl O rfl 86 (rowA 32 (outV t 8)) (0, 0) _ g0.out Tryd.underlying86 rfl (by rw [info32, rowA_size]) ?_)
          | (refine wpListIn_store_row rfl 86 _ _ rfl (w.heap.size + 1) (rowA 32 (outV t 8)) rfl rfl 86 (rowA 32 (outV t 0)) g1.out (by rw [info32, rowA_size]) (by rw [rowA_size, rowA_size]) (outV_one _ _) ?_))
        have r1 := k1.out.setRow (rowA 32 (outV t 8))
        have hb1 := below_setRow k4.out (show w.heap.size ≤ w.heap.size + 1 by omega) (rowA 32 (outV t 8))
        have hd1 := (setRow_other wr (w.heap.size + 1) W1.heap.size (rowA 32 (outV t 8)) (by omega)).trans kd.out
        obtain ⟨Y, hY⟩ : ∃ Y, Y = wr.setRow (w.heap.size + 1) (rowA 32 (outV t 8)) := ⟨_, rfl⟩
        rw [← hY] at r1 hb1 hd1 ⊢
        have r2 : RowAt (Y.putObj W1.heap.size (.deferred none)) (w.heap.size + 1) 86 (rowA 32 (outV t 8)) := (World.putObj_heap_other (by omega)).trans r1
        refine leave_one hd1 ⟨_, results_cell_row rfl _ _ (w.heap.size + 1) 86 (rowA 32 (outV t 8)) (0, 0) _ rfl r2 Tryd.underlying86 rfl (by rw [info32, rowA_size]), by rw [outV_all, ht.out]; rfl, ?_⟩
        exact below_kept hb1 ((Kept.refl (fun k => k = W1.heap.size) _).putObj _ _ (.inl rfl)) (Nat.le_refl _) (fun k hk => by omega)
      · have hlt8 : i < 8 := by omega
        have hlt8i : (i : Int) < 8 := by omega
        obtain ⟨v, hv⟩ : ∃ v, v = t.nth i := ⟨_, rfl⟩
        have hv32 : v < 4294967296 := by rw [hv]; exact nth_lt hok.out i
        have hv32i : (v : Int) < 4294967296 := by omega
        have hidx : ∀ w, (Instr.index 127 (.agg t.cells) (.int .i64 (i : Int))).run Tryd.prog w = .ok (.int .u32 (v : Nat)) w := fun w => by
          rw [hv]; exact run_index_row 127 93 8 .u32 Tryd.underlying127 Tryd.underlying93 (by kernel_rfl) .i64 t.cells i _ hlt8 (cells_nth t hlt8) w
        have LP := fun w => put_any v 4 w
        rw [show clip8 4 = 4 from rfl] at LP
        obtain ⟨B, hB⟩ : ∃ B : ByteArray, B = beS v 4 := ⟨_, rfl⟩
        rw [← hB] at LP
        have hBs : B.size = 4 := by rw [hB, beS_size]
        have hsp := outV_splice t i hlt8
        rw [← hv, ← hB] at hsp
        obtain ⟨a, ha⟩ : ∃ a, a = 4 * i := ⟨_, rfl⟩
        have hai : 4 * (i : Int) = (a : Int) := by omega
        have hai2 : IntKind.i64.wrap (4 * (i : Int)) = (a : Int) := by rw [IntKind.wrap_i64]; omega
        have ha28 : (a : Int) ≤ 28 := by omega
        have ha32 : (a : Int) ≤ 32 := by omega
        have ha0 : (0 : Int) ≤ (a : Int) := by omega
        rw [← ha] at hsp
        replace hsp := hid hsp
        replace LP := hid LP
        replace hv := hid hv
        replace hB := hid hB
        replace hBs := hid hBs
        replace ha := hid ha
        gi_wp2
        refine wpIn_region_last (by kernel_rfl) (by kernel_rfl) (by kernel_rfl) 6 _ rfl rfl ?_
        simp only [muted, mute]
        repeat (go_big_quiet_step (first | (go_at_call 62; with_reducible refine Sub.call _ (LP.out _))))
        refine wpQuiet_nil ?_
        intro q
        have y0 := k0.out.below q.h k0.out.lt
        have y1 := k1.out.below q.h k1.out.lt
        have y4 := below_cat q.h k4.out
        have yd : q.x.heap[W1.heap.size]? = some (.deferred (some [])) := (q.h.block _ (Array.getElem?_eq_some_iff.1 kd.out).1).trans kd.out
        obtain ⟨Y, hY⟩ : ∃ Y, Y = q.x := ⟨_, rfl⟩
        rw [← hY] at y0 y1 y4 yd ⊢
        clear hY q k0 k1 k4 kd
        refine Lib.wp_copy_run Y _ _ _ _ rfl _ _ rfl rfl (Lib.run_copy_row_string Y 29 9 _ 5 O a (32 - a) (32 - a) B (rowA 32 (outV t i)) 86 Tryd.underlying29 info1 y0 (by have := hBs.out; omega) (by rw [rowA_size]; have := hBs.out; omega)) ?_
        rw [hsp.out]
        have z0 := y0.setRow (rowA 32 (outV t (i + 1)))
        have z1 := y1.setRowOther O (rowA 32 (outV t (i + 1))) (by omega)
        have z4 := below_setRow y4 (show w.heap.size ≤ O by omega) (rowA 32 (outV t (i + 1)))
        have zd := (setRow_other Y O W1.heap.size (rowA 32 (outV t (i + 1))) (by omega)).trans yd
        obtain ⟨Z, hZ⟩ : ∃ Z, Z = Y.setRow O (rowA 32 (outV t (i + 1))) := ⟨_, rfl⟩
        rw [← hZ] at z0 z1 z4 zd ⊢
        clear hZ y0 y1 y4 yd hidx
        replace z0 := hid z0
        replace z1 := hid z1
        replace z4 := hid z4
        replace zd := hid zd
        gi_wp2
        go_roundw
        case rel => exact ⟨i + 1, by omega, by go_num, z0, z1, z4, zd⟩
        case measure => simp [intOf]; omega
end Go.Proofs.YtbbjoahloghpkaaDoor
