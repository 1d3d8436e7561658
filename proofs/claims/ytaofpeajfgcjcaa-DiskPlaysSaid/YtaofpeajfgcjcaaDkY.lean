/- Disk: plain laws on what a crash leaves. -/
import Derived.Test.YtaofpeajfgcjcaaDkX
namespace Go.Proofs.Ytaofpeajfgcjcaa
open Go Go.RowKit Go.Maps
set_option linter.unusedSimpArgs false
set_option linter.unusedVariables false

theorem take_snoc {α : Type} {qs : List α} {i : Nat} {q : α} (hq : qs[i]? = some q) : qs.take i ++ [q] = qs.take (i + 1) := by
  have h1 := (List.getElem?_eq_some_iff.1 hq).1
  rw [List.take_succ_eq_append_getElem h1]
  rw [List.getElem?_eq_getElem h1] at hq
  rw [Option.some.inj hq]
theorem write_len {S : DS} {n k : Nat} (h : S.Calm n k) (a : Int) (b : Blk) : (((S.write a b).1 == 0) = true ∧ (S.write a b).2.hangs.length = S.hangs.length + 1) ∨ (((S.write a b).1 == 0) = false ∧ (S.write a b).2.hangs.length = S.hangs.length) := by
  unfold DS.write
  by_cases hm : S.mayE a ≠ 0
  · rw [if_pos hm]; exact .inr ⟨by simpa using hm, rfl⟩
  · rw [if_neg hm, if_neg (by rw [h.f]; decide)]
    exact .inl ⟨rfl, by show (S.hangs ++ _).length = _; simp⟩
theorem runW_lasts (S : DS) (qs : List ActT) : (S.runW qs).lasts = S.lasts := by
  refine snoc_ind (p := fun qs => (S.runW qs).lasts = S.lasts) rfl (fun l a ih => ?_) qs
  rw [runW_snoc, ← ih]
  unfold DS.write
  split
  · rfl
  · split <;> rfl
/-- All writes done, one behind the other. -/
def fullL (hs : List (Nat × Blk)) (l : Nat → UInt8) : Nat → UInt8 := hs.foldl (fun l p => ovl l p.1 128 p.2) l
theorem ovl_all (hs : List (Nat × Blk)) (l : Nat → UInt8) (p : Nat × Blk) : ovl (allL hs l) p.1 128 p.2 = allL (hs ++ [p]) l := by
  funext j
  unfold ovl allL
  rw [shownZ_snoc]
  by_cases h : p.1 * 128 ≤ j ∧ j < p.1 * 128 + 128
  · rw [if_pos h, if_pos (by omega)]
    have h2 : j - p.1 * 128 = j % 128 := by omega
    show p.2 (j - p.1 * 128) = p.2 (j % 128)
    rw [h2]
  · rw [if_neg h, if_neg (by omega)]
theorem fullL_all (hs : List (Nat × Blk)) (l : Nat → UInt8) : fullL hs l = allL hs l := by
  refine snoc_ind (p := fun hs => fullL hs l = allL hs l) (by funext j; simp [fullL, allL, shownZ]) (fun hs p ih => ?_) hs
  rw [← ovl_all, ← ih]
  simp [fullL]
theorem settleL_full : ∀ (hs : List (Nat × Blk)) (keep : Int) (l : Nat → UInt8), ((hs.length * 128 : Nat) : Int) ≤ keep → settleL hs keep l = fullL hs l
  | [], _, _, _ => rfl
  | p :: r, keep, l, h => by
    simp only [List.length_cons] at h
    have h1 : min (max keep 0) 128 = 128 := by omega
    rw [settleL, h1, settleL_full r _ _ (by push_cast at h ⊢; omega)]
    rfl
theorem settleL_none : ∀ (hs : List (Nat × Blk)) (keep : Int) (l : Nat → UInt8), keep ≤ 0 → settleL hs keep l = l
  | [], _, _, _ => rfl
  | p :: r, keep, l, h => by
    have h1 : min (max keep 0) 128 = 0 := by omega
    rw [settleL, h1, show (0 : Int).toNat = 0 from rfl, ovl_zero, settleL_none r _ _ (by omega)]
theorem secOf_allL (hs : List (Nat × Blk)) (l : Nat → UInt8) (x : Nat) : blkA (secOf (allL hs l) x) = blkA ((shownZ hs (x : Int)).getD (secOf l x)) := by
  refine blkA_ext fun j hj => ?_
  have h1 : (x * 128 + j) / 128 = x := by omega
  have h2 : (x * 128 + j) % 128 = j := by omega
  unfold secOf allL
  rw [h1, h2]
  cases shownZ hs (x : Int) <;> rfl
/-- Behind a crash: what is wanted is there. -/
theorem keeps_plain (S : DS) (last : Nat → UInt8) (hl : S.lasts = last) (keep : Int) (x : Nat) (hw : keep ≤ 0 ∨ ((S.hangs.length * 128 : Nat) : Int) ≤ keep) :
    blkA (if ((S.hangs.length * 128 : Nat) : Int) ≤ keep then S.look (x : Int) else secOf last x) = blkA (secOf (S.crash keep).lasts x) := by
  show _ = blkA (secOf (settleL S.hangs keep S.lasts) x)
  by_cases h : ((S.hangs.length * 128 : Nat) : Int) ≤ keep
  · rw [if_pos h, settleL_full _ _ _ h, fullL_all, secOf_allL]
    rfl
  · rw [if_neg h, settleL_none _ _ _ (by rcases hw with hw | hw; exact hw; exact absurd hw h), hl]
end Go.Proofs.Ytaofpeajfgcjcaa
