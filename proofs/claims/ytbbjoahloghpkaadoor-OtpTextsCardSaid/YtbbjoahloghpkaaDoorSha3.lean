/- The primes' iterator: its contract. -/
import Derived.Test.YtbbjoahloghpkaaDoorSha0
import Derived.Test.YtbbjoahloghpkaaDoorIterT
import Derived.Test.YtbbjoahloghpkaaDoorProg
import Derived.Scope
import Derived.OwnWalkIn
import Derived.TacticsInMore
import Derived.LoopNIn
import Derived.LoopIn
import Derived.Shelf.Abstract
import Derived.Shelf.RegionOpen
namespace Go.Proofs.YtbbjoahloghpkaaDoor
open Go Go.RowKit
set_option linter.unusedSimpArgs false
attribute [local go_sem] Oper.semAt_some

theorem wpIn_scope0 {P : Program} {c : Code} {Q : Exit → Act → World → Prop} {a : Act} {w : World} (h : c.wpIn Fence.wide 0 P (Exit.noGoto Q) a w) : (Code.scope c).wpIn Fence.wide 0 P Q a w :=
  (wpIn_wide (n := 0)).2 (wp_scope_straight ((wpIn_wide (n := 0)).1 h))
def encN (p : Nat) : Array Value := #[.int .u64 (p : Nat)]
theorem primes_make (w : World) : Calls Tryd.prog 116 #[] w fun e w' => e = .returned (.func (.func 128) #[] #[]) ∧ w = w' := by
  go_enter Tryd.func116, Tryd.ntmps116
  go_wp2
  go_ret
  exact ⟨rfl, rfl⟩
set_option maxRecDepth 1000000 in
set_option maxHeartbeats 4000000 in
theorem primes_on (w : World) : IterTo Tryd.prog 128 #[] encN (fun _ => False) (fun _ => False) (primesTo 314) w := by
  intro l J Jx W hb hno hJ hJx hY h0
  refine callsIn_of_wp Tryd.func128 rfl trivial ?_
  simp only [Tryd.ntmps128, List.size_toArray, List.length_cons, List.length_nil, Nat.reduceAdd, Nat.reduceSub, Array.replicate_succ, Array.replicate_zero, List.push_toArray, List.append_toArray, List.nil_append, List.cons_append]
  gi_wp2
  refine wpIn_scope0 ?_
  refine wpIn_seq ?_
  refine wpIn_label ?_
  gi_wp2
  gi_loopw [2, 3] (fun nv _ wr => ∃ n : Nat, nv = .int .u64 n ∧ 2 ≤ n ∧ n ≤ 314 ∧ Hid (J (primesTo n) wr) ∧ W.heap.size ≤ wr.heap.size) (fun nv _ _ => 314 - (intOf nv).toNat)
  case atStart => exact ⟨2, rfl, by omega, by omega, hid (by rw [primes_2]; exact h0), Nat.le_refl _⟩
  case round =>
    obtain ⟨n, rfl, hn2, hn314, hj, hsz⟩ := hrel
    by_cases hn : n = 314
    · subst hn; exact (hno _ hj.out).elim
    · have hlt : n ≤ 313 := by omega
      have hlti : (n : Int) ≤ 313 := by omega
      have hn2i : (2 : Int) ≤ (n : Int) := by omega
      gi_wp2
      gi_loop [3] (fun dv => ∃ d : Nat, dv = .int .u64 d ∧ 2 ≤ d ∧ d ≤ n ∧ Hid (∀ e, 2 ≤ e → e < d → n % e ≠ 0)) (fun dv => 400 - (intOf dv).toNat)
      case atStart => exact ⟨2, rfl, by omega, hn2, hid (fun e h1 h2 => by omega)⟩
      case round =>
        obtain ⟨d, rfl, hd2, hdn, hall⟩ := hrel
        obtain ⟨dd, hdd0⟩ : ∃ dd, dd = d * d := ⟨_, rfl⟩
        have hdd : (d : Int) * (d : Int) = (dd : Int) := by rw [hdd0]; simp
        have hdb : dd ≤ 313 * 313 := by rw [hdd0]; exact Nat.mul_le_mul (by omega) (by omega)
        have hddi : (dd : Int) ≤ 97969 := by omega
        have hd0i : (0 : Int) < (d : Int) := by omega
        have hdi : (d : Int) ≤ 313 := by omega
        by_cases hle : dd ≤ n
        · have b1 : decide ((dd : Int) ≤ (n : Int)) = true := by rw [decide_eq_true_iff]; omega
          have b1' : decide (dd ≤ n) = true := decide_eq_true hle
          obtain ⟨r, hr0⟩ : ∃ r, r = n % d := ⟨_, rfl⟩
          have hr : (n : Int) % (d : Int) = (r : Int) := by rw [hr0]; simp
          have hdn : d < n := by
            have : d * 2 ≤ d * d := Nat.mul_le_mul_left d hd2
            omega
          by_cases hz : r = 0
          · have b2 : ((r : Int) == 0) = true := by rw [beq_iff_eq]; omega
            have hnp : primesTo (n + 1) = primesTo n := by
              rw [primesTo_succ, prime_no hd2 (by rw [← hdd0]; exact hle) (by rw [← hr0]; exact hz), if_neg (by decide), List.append_nil]
            replace hnp := hid hnp
            clear hdd0 hr0 hz hle
            gi_wp2
            go_roundw
            case rel => exact ⟨n + 1, by go_num, by omega, by omega, by rw [hnp.out]; exact hj, hsz⟩
            case measure => simp [intOf] <;> omega
          · have b2 : ((r : Int) == 0) = false := by rw [beq_eq_false_iff_ne]; omega
            have hall2 : ∀ e, 2 ≤ e → e < d + 1 → n % e ≠ 0 := fun e h1 h2 => by
              by_cases e1 : e = d
              · rw [e1, ← hr0]; exact hz
              · exact hall.out e h1 (by omega)
            replace hall2 := hid hall2
            clear hdd0 hr0 hz hle
            gi_wp2
            go_round
            case rel => exact ⟨d + 1, by go_num, by omega, by omega, hall2⟩
            case measure => simp [intOf] <;> omega
        · have b1 : decide ((dd : Int) ≤ (n : Int)) = false := by rw [decide_eq_false_iff_not]; omega
          have b1' : decide (dd ≤ n) = false := decide_eq_false hle
          have hpr : primesTo (n + 1) = primesTo n ++ [n] := by
            rw [primesTo_succ, prime_yes hn2 (by rw [← hdd0]; omega) hall.out, if_pos rfl]
          have hxs : ∃ post, primesTo 314 = primesTo n ++ n :: post := by
            obtain ⟨k, hk⟩ : ∃ k, 314 = n + 1 + k := ⟨313 - n, by omega⟩
            have key : ∀ k, ∃ post, primesTo (n + 1 + k) = primesTo (n + 1) ++ post := by
              intro k
              induction k with
              | zero => exact ⟨[], by simp⟩
              | succ k ih => obtain ⟨p, hp⟩ := ih; exact ⟨_, by rw [← Nat.add_assoc, primesTo_succ, hp, List.append_assoc]⟩
            obtain ⟨post, hp⟩ := key k
            exact ⟨post, by rw [hk, hp, hpr, List.append_assoc]; rfl⟩
          obtain ⟨post, hxs⟩ := hxs
          obtain ⟨fn, tmps, assign, body, hy, hR⟩ := hY (primesTo n) n post wr hxs hsz hj.out
          simp only [encN] at hy
          replace hpr := hid hpr
          replace hxs := hid hxs
          clear hdd0 hle hall
          gi_wp2
          refine ⟨rfl, hR.mono ?_⟩
          rintro e W2 (⟨rfl, hj2, hk2⟩ | ⟨rfl, hj2, hk2⟩)
          · have hsz2 : W.heap.size ≤ W2.heap.size := Nat.le_trans hsz hk2.size
            replace hj2 := hid hj2
            clear hj hy hR hk2
            gi_wp2
            go_roundw
            case rel => exact ⟨n + 1, by go_num, by omega, by omega, by rw [hpr.out]; exact hj2, hsz2⟩
            case measure => simp [intOf] <;> omega
          · gi_wp2
            try rw [Exit.noGoto_ret]
            refine bodyPost_ret (results_none rfl _ _ _) rfl ?_
            exact ⟨⟨_, rfl⟩, primesTo n, n, post, hxs.out, hj2⟩
end Go.Proofs.YtbbjoahloghpkaaDoor
