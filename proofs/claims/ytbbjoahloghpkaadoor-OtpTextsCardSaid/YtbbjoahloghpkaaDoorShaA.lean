/- New, Add, Sum of parts, Text: the walks. -/
import Derived.Test.YtbbjoahloghpkaaDoorSha9
import Derived.Test.YtbbjoahloghpkaaDoorShJ
namespace Go.Proofs.YtbbjoahloghpkaaDoor
open Go Go.RowKit
set_option linter.unusedSimpArgs false

def sumL (s : ByteArray) : List UInt8 := (List.range 32).map (shaByte (lastS s))
def sumS (s : ByteArray) : ByteArray := ⟨(sumL s).toArray⟩
theorem sumS_size (s : ByteArray) : (sumS s).size = 32 := by simp [sumS, sumL, ByteArray.size]
theorem infoH : (Tryd.prog.info? 110).map (·.size) = some 1 := by kernel_rfl
theorem new_any (w : World) : Calls Tryd.prog 89 #[] w fun e w' => e = .returned (.agg #[.string ⟨#[]⟩]) ∧ Below w.heap.size w w' := by
  go_enter Tryd.func89, Tryd.ntmps89
  go_wp2
  refine bodyPost_ret (results_cell_row rfl _ _ w.heap.size 110 #[.string ⟨#[]⟩] (0, 0) _ rfl (RowAt.new _ _ _) Tryd.underlying110 rfl (by rw [infoH]; rfl)) rfl ⟨rfl, below_al (Below.refl _ _) _⟩
theorem add_any (s t : ByteArray) (hs : s.size ≤ 140737488351232) (ht : t.size ≤ 140737488351232) (w : World) : Calls Tryd.prog 90 #[.agg #[.string s], .string t] w fun e w' => e = .returned (.agg #[.string (s ++ t)]) ∧ Below w.heap.size w w' := by
  go_enter Tryd.func90, Tryd.ntmps90
  go_wp2
  have r : RowAt ((w.alloc (.cells #[.string s] 110)).alloc (.cells #[.string (s ++ t)] 110)) (w.heap.size + 1) 110 #[.string (s ++ t)] := by
    have := RowAt.new (w.alloc (.cells #[.string s] 110)) #[.string (s ++ t)] 110
    rwa [World.size_alloc] at this
  refine bodyPost_ret (results_cell_row rfl _ _ (w.heap.size + 1) 110 #[.string (s ++ t)] (0, 0) _ rfl r Tryd.underlying110 rfl (by rw [infoH]; rfl)) rfl ⟨rfl, below_al (below_al (Below.refl _ _) _) _⟩
/-- Texts, one behind the other. -/
def joinS (xs : List ByteArray) : ByteArray := ⟨(Lib.join (xs.map (·.data.toList)) []).toArray⟩
theorem joinS_size (xs : List ByteArray) : (Lib.join (xs.map (·.data.toList)) []).length = (joinS xs).size := by
  show _ = (Lib.join (xs.map (·.data.toList)) []).toArray.size
  rw [List.size_toArray]
/-- A slice of texts, none among them. -/
def StrsAt (w : World) (a : Option Addr) (n c : Nat) (xs : List ByteArray) : Prop :=
  (n = 0 ∧ xs = []) ∨ (∃ bk o, a = some ⟨bk, o, none⟩ ∧ n = xs.length ∧ xs.length ≤ c ∧ bk < w.heap.size ∧ ∀ (j : Nat) x, xs[j]? = some x → w.cell? ⟨bk, o + j, none⟩ = some (.string x))
theorem StrsAt.below {w w' : World} {a : Option Addr} {n c : Nat} {xs : List ByteArray} (h : StrsAt w a n c xs) (hb : Below w.heap.size w w') : StrsAt w' a n c xs := by
  rcases h with h | ⟨bk, o, rfl, hn, hc, hbk, hx⟩
  · exact .inl h
  · exact .inr ⟨bk, o, rfl, hn, hc, Nat.lt_of_lt_of_le hbk hb.size, fun j x hj => (hb.cell (p := ⟨bk, o + j, none⟩) hbk).trans (hx j x hj)⟩
theorem join_any (a : Option Addr) (n c : Nat) (xs : List ByteArray) (w : World) (h : StrsAt w a n c xs) (hN : xs.length ≤ 1000000) (hs : (joinS xs).size ≤ 140737488351232) :
    Calls Tryd.prog 58 #[.slice a n c, .string ⟨#[]⟩] w fun e w' => e = .returned (.string (joinS xs)) ∧ Below w.heap.size w w' := by
  rcases h with ⟨rfl, rfl⟩ | ⟨bk, o, rfl, rfl, hc, hbk, hx⟩
  · refine (shj_strings_Join_none a c ⟨#[]⟩ w).mono ?_
    rintro e w' ⟨rfl, rfl⟩
    exact ⟨rfl, Below.refl _ _⟩
  · refine (shj_strings_Join bk o c xs ⟨#[]⟩ w hx hbk (by omega) hc (by have := joinS_size xs; show (Lib.join (xs.map (·.data.toList)) []).length ≤ _; omega)).mono ?_
    rintro e w' ⟨rfl, hB⟩
    exact ⟨rfl, hB⟩
set_option maxRecDepth 100000 in
set_option maxHeartbeats 1000000 in
theorem sum_any (a : Option Addr) (n c : Nat) (xs : List ByteArray) (w : World) (h : StrsAt w a n c xs) (hN : xs.length ≤ 1000000) (hs : (joinS xs).size ≤ 140737488351232) :
    Calls Tryd.prog 77 #[.slice a n c] w fun e w' => e = .returned (.agg (sumA (joinS xs))) ∧ Below w.heap.size w w' := by
  obtain ⟨t, ht⟩ : ∃ t, t = lastS ⟨#[]⟩ := ⟨_, rfl⟩
  have hz := zero32 t
  have LN := fun w => new_any w
  have LJ := fun w h => join_any a n c xs w h hN hs
  obtain ⟨J, hJ⟩ : ∃ J, J = joinS xs := ⟨_, rfl⟩
  rw [← hJ] at LJ hs ⊢
  have LA := fun w => add_any ⟨#[]⟩ J (by decide) hs w
  have hJ0 : (⟨#[]⟩ : ByteArray) ++ J = J := ByteArray.ext (by simp)
  rw [hJ0] at LA
  clear hJ0
  have LS := fun w => hash_sum J hs w
  replace LN := hid LN
  replace LJ := hid LJ
  replace LA := hid LA
  replace LS := hid LS
  replace h := hid h
  clear hJ ht hs
  go_enter Tryd.func77, Tryd.ntmps77
  go_wp2_with (first
    | (go_at_call 89; with_reducible refine (LN.out _).mono ?_; rintro e w1 ⟨rfl, hB1⟩)
    | (go_at_call 58; with_reducible refine (LJ.out _ (StrsAt.below h.out (below_cat hB1 (below_al (Below.refl _ _) _)))).mono ?_; rintro e w2 ⟨rfl, hB2⟩)
    | (go_at_call 90; with_reducible refine (LA.out _).mono ?_; rintro e w3 ⟨rfl, hB3⟩)
    | (go_at_call 91; with_reducible refine (LS.out _).mono ?_; rintro e w4 ⟨rfl, hB4⟩
       have hB := below_cat hB4 (below_cat hB3 (below_cat hB2 hB1))
       have r := (RowAt.new w (rowA 32 (outV t 0)) 86).below hB (by simp)
       have hB' := below_cat hB (below_al (Below.refl _ _) _)
       clear hB1 hB2 hB3 hB4 hB
       clear w1 w2 w3
       replace hB' := hid hB'
       replace r := hid r)
    | (refine wpList_store_row rfl 86 _ _ rfl w.heap.size (sumA J) rfl rfl 86 (rowA 32 (outV t 0)) r.out (by rw [info32]; simp [sumA, rowA_size]) (by simp [sumA, rowA_size]) (sumA_one _) ?_))
  refine bodyPost_ret (results_cell_row rfl _ _ w.heap.size 86 (sumA J) (0, 0) _ rfl (r.out.setRow _) Tryd.underlying86 rfl (by rw [info32]; simp [sumA, rowA_size])) rfl ⟨rfl, below_setRow hB'.out (Nat.le_refl _) _⟩
set_option maxRecDepth 100000 in
set_option maxHeartbeats 1000000 in
theorem text_any (a : Option Addr) (n c : Nat) (xs : List ByteArray) (w : World) (h : StrsAt w a n c xs) (hN : xs.length ≤ 1000000) (hs : (joinS xs).size ≤ 140737488351232) :
    Calls Tryd.prog 56 #[.slice a n c] w fun e w' => e = .returned (.string (sumS (joinS xs))) ∧ Below w.heap.size w w' := by
  obtain ⟨t, ht⟩ : ∃ t, t = lastS ⟨#[]⟩ := ⟨_, rfl⟩
  have hz := zero32 t
  have LS := fun w h => sum_any a n c xs w h hN hs
  obtain ⟨J, hJ⟩ : ∃ J, J = joinS xs := ⟨_, rfl⟩
  rw [← hJ] at LS hs ⊢
  replace LS := hid LS
  replace h := hid h
  clear hJ ht hs
  go_enter Tryd.func56, Tryd.ntmps56
  go_wp2_with (first
    | (go_at_call 77; with_reducible refine (LS.out _ h.out).mono ?_; rintro e w1 ⟨rfl, hB1⟩)
    | (refine wpList_store_row rfl 86 _ _ rfl w1.heap.size (sumA J) rfl rfl 86 (rowA 32 (outV t 0)) (RowAt.new _ _ _) (by rw [info32]; simp [sumA, rowA_size]) (by simp [sumA, rowA_size]) (sumA_one _) ?_
       have r := (RowAt.new w1 (rowA 32 (outV t 0)) 86).setRow (sumA J)
       have hB := below_setRow (below_al hB1 (.cells (rowA 32 (outV t 0)) 86)) hB1.size (sumA J)
       have hcv := conv_row (P := Tryd.prog) 29 9 5 Tryd.underlying29 Tryd.underlying5 Tryd.underlying9 32 r
       replace hB := hid hB))
  go_ret
  exact ⟨rfl, hB.out⟩
end Go.Proofs.YtbbjoahloghpkaaDoor
