/- Ids: the iterator over a text's five parts. -/
import Derived.Test.YtdjlpmelmhhooaaDoorIdP
import Derived.Test.YtdjlpmelmhhooaaDoorIdA
import Derived.Test.YtdjlpmelmhhooaaDoorIterW
import Derived.Test.YtdjlpmelmhhooaaDoorRndR
import Derived.OwnWalkIn
import Derived.TacticsInMore
import Derived.LoopNIn
import Derived.LoopIn
import Derived.Shelf.Abstract
import Derived.Shelf.RegionOpen
namespace Go.Proofs.YtdjlpmelmhhooaaDoor
open Go Go.RowKit
set_option linter.unusedSimpArgs false
set_option linter.unusedVariables false

def encI (p : Nat × Nat) : Array Value := #[.int .i64 (p.1 : Nat), .int .i64 (p.2 : Nat)]
theorem parts_none (w : World) : Calls Tryd.prog 16 #[] w fun e w' => e = .returned (.func (.func 26) #[] #[]) ∧ w = w' := by
  go_enter Tryd.func16, Tryd.ntmps16
  go_wp2
  go_ret
  exact ⟨rfl, rfl⟩

def atI (i : Nat) : Nat := [0, 4, 6, 8, 10, 16].getD i 0
def widI (i : Nat) : Nat := [4, 2, 2, 2, 6].getD i 0
def litI : Array Value := #[.int .i64 4, .int .i64 2, .int .i64 2, .int .i64 2, .int .i64 6]
theorem litI_get : ∀ i, i < 5 → litI[i]? = some (.int .i64 (widI i : Nat))
  | 0, _ => rfl
  | 1, _ => rfl
  | 2, _ => rfl
  | 3, _ => rfl
  | 4, _ => rfl
theorem atI_next : ∀ i, i < 5 → atI i + widI i = atI (i + 1) ∧ atI (i + 1) ≤ 16
  | 0, _ => by decide
  | 1, _ => by decide
  | 2, _ => by decide
  | 3, _ => by decide
  | 4, _ => by decide
theorem pairsI_split : ∀ i, i < 5 → pairsI = pairsI.take i ++ (atI i, atI (i + 1)) :: pairsI.drop (i + 1) ∧ pairsI.take (i + 1) = pairsI.take i ++ [(atI i, atI (i + 1))]
  | 0, _ => ⟨rfl, rfl⟩
  | 1, _ => ⟨rfl, rfl⟩
  | 2, _ => ⟨rfl, rfl⟩
  | 3, _ => ⟨rfl, rfl⟩
  | 4, _ => ⟨rfl, rfl⟩

attribute [local go_sem] Oper.semAt_some
set_option maxRecDepth 100000 in
set_option maxHeartbeats 8000000 in
theorem ids_on (w : World) : IterAt Tryd.prog 1 26 #[] encI (fun _ => False) (fun k => k = w.heap.size + 2) pairsI w := by
  intro l J Jx W hb hsz hJ hJx hY h0
  refine callsIn_of_wp Tryd.func26 rfl trivial ?_
  simp only [Tryd.ntmps26, List.size_toArray, List.length_cons, List.length_nil, Nat.reduceAdd, Nat.reduceSub, Array.replicate_succ, Array.replicate_zero, List.push_toArray, List.append_toArray, List.nil_append, List.cons_append]
  gi_wp2
  rw [show (#[.int .i64 4, .int .i64 2, .int .i64 2, .int .i64 2, .int .i64 6] : Array Value) = litI from rfl]
  have hrow0 : RowAt (W.alloc (.cells litI 3)) (w.heap.size + 2) 3 litI := by rw [← hsz]; exact RowAt.new _ _ _
  have hj0 := hJ [] W (W.alloc (.cells litI 3)) h0 ((Kept.refl _ _).alloc _)
  have hsz0 : W.heap.size + 1 ≤ (W.alloc (.cells litI 3)).heap.size := by simp
  obtain ⟨W0, hW0⟩ : ∃ W0, W0 = W.alloc (.cells litI 3) := ⟨_, rfl⟩
  rw [← hW0] at hrow0 hj0 hsz0 ⊢
  obtain ⟨nb, hnb⟩ : ∃ nb, nb = w.heap.size + 2 := ⟨_, rfl⟩
  rw [← hnb] at hrow0 ⊢
  replace hrow0 := hid hrow0
  replace hj0 := hid hj0
  replace hnb := hid hnb
  clear hW0 h0
  gi_loopw [2, 7] (fun q p wr => ∃ i : Nat, p = .int .i64 i ∧ i ≤ 5 ∧ q = .int .i64 (atI i : Nat) ∧ Hid (J (pairsI.take i) wr) ∧ Hid (RowAt wr nb 3 litI) ∧ W.heap.size + 1 ≤ wr.heap.size)
    (fun _ p _ => 5 - (intOf p).toNat)
  case atStart => exact ⟨0, rfl, by omega, rfl, hj0, hrow0, hsz0⟩
  case round =>
    clear hj0 hrow0
    obtain ⟨i, rfl, hi, rfl, hj, hrow, hsw⟩ := hrel
    by_cases hlt : i < 5
    · have hc : wr.cell? ⟨nb, i, none⟩ = some (.int .i64 (widI i : Nat)) := hrow.out.cell (litI_get i hlt)
      obtain ⟨hn1, hn2⟩ := atI_next i hlt
      obtain ⟨hs1, hs2⟩ := pairsI_split i hlt
      obtain ⟨fn, tmps, assign, body, hy, hR⟩ := hY (pairsI.take i) (atI i, atI (i + 1)) _ wr hs1 hsw hj.out
      simp only [encI] at hy
      obtain ⟨A, hA⟩ : ∃ A, A = atI i := ⟨_, rfl⟩
      obtain ⟨D, hD⟩ : ∃ D, D = widI i := ⟨_, rfl⟩
      obtain ⟨E, hE⟩ : ∃ E, E = atI (i + 1) := ⟨_, rfl⟩
      rw [← hA, ← hD, ← hE] at hn1
      rw [← hE] at hn2
      rw [← hD] at hc
      rw [← hA, ← hE] at hy
      have hsum : (A : Int) + (D : Int) = (E : Int) := by omega
      have hd : (i : Int) < 5 := by omega
      have hdb : decide ((i : Int) < 5) = true := decide_eq_true hd
      have hs1' := hid hs1
      have hs2' := hid hs2
      have hEr := hid hE
      rw [← hA]
      clear hs1 hs2 hn1 hA hD hE
      gi_wp2
      refine ⟨rfl, hR.mono ?_⟩
      rintro e W2 (⟨rfl, hj4, hk4⟩ | ⟨rfl, hj4, hk4⟩)
      · have rn4 := hid (hk4.row hrow.out (fun h => h hnb.out))
        have hs4 := Nat.le_trans hsw hk4.size
        have hj5 := hid hj4
        clear hj4 hk4 hj hrow hy hR hc
        gi_wp2
        go_roundw
        case rel => exact ⟨i + 1, by go_num, by omega, by rw [hEr.out], hid (by rw [hs2'.out]; exact hj5.out), rn4, hs4⟩
        case measure => simp [intOf]; omega
      · gi_wp2
        refine bodyPost_ret (results_none rfl _ _ _) rfl ?_
        exact ⟨⟨_, rfl⟩, .inr ⟨_, _, _, hs1'.out, hj4⟩⟩
    · obtain rfl : i = 5 := by omega
      gi_wp2
      refine bodyPost_end (results_none rfl _ _ _) rfl ?_
      exact ⟨⟨_, rfl⟩, .inl hj.out⟩
end Go.Proofs.YtdjlpmelmhhooaaDoor
