/- Format: names, Name, Kinds; the walk of FormatNames. -/
import Derived.Test.YtdjlpmelmhhooaaGreatDoorFmT
namespace Go.Proofs.YtdjlpmelmhhooaaGreatDoor
open Go Go.RowKit
set_option linter.unusedSimpArgs false
set_option linter.unusedVariables false

def nmL : List ByteArray := [⟨#[]⟩, ⟨#[100, 105, 103, 105, 116, 115]⟩, ⟨#[116, 101, 120, 116]⟩, ⟨#[105, 100]⟩, ⟨#[97, 109, 111, 110, 103]⟩, ⟨#[99, 97, 114, 100]⟩, ⟨#[100, 97, 116, 101]⟩, ⟨#[112, 114, 111, 111, 102]⟩, ⟨#[97, 109, 111, 117, 110, 116]⟩]
def nmS (i : Nat) : ByteArray := nmL.getD i ⟨#[]⟩
def nmA : Array Value := (nmL.map Value.string).toArray
theorem nmA_get : ∀ i, i < 9 → nmA[i]? = some (.string (nmS i))
  | 0, _ => rfl
  | 1, _ => rfl
  | 2, _ => rfl
  | 3, _ => rfl
  | 4, _ => rfl
  | 5, _ => rfl
  | 6, _ => rfl
  | 7, _ => rfl
  | 8, _ => rfl
theorem infoNm : (Tryz.prog.info? 100).map (·.size) = some 9 := by kernel_rfl
theorem run_index_str {P : Program} (t e : TypeId) (n : Nat) (ht : P.underlying t = some (.array n e)) (he : P.underlying e = some .string) (hsz : (P.info? e).map (·.size) = some 1)
    (k : IntKind) (A : Array Value) (i : Nat) (v : Value) (hi : i < n) (hA : A[i]? = some v) (w : World) : (Instr.index t (.agg A) (.int k (i : Int))).run P w = .ok v w := by
  cases hq : P.info? e with
  | none => rw [hq] at hsz; cases hsz
  | some inf =>
    rw [hq] at hsz
    have h1 : inf.size = 1 := by simpa using hsz
    simp [Instr.index, asIntOf, run_underlying ht, run_underlying he, part, isAgg, sizeOf, typeInfo, hq, h1, hi, hA, Sem.run_bind, Result.andThen]
theorem names_any (w : World) : Calls Tryz.prog 72 #[] w fun e w' => e = .returned (.agg nmA) ∧ Below w.heap.size w w' := by
  go_enter Tryz.func72, Tryz.ntmps72
  go_wp2
  exact bodyPost_ret (results_cell_row rfl _ _ w.heap.size 100 nmA (0, 0) _ rfl (RowAt.new w nmA _) Tryz.underlying100 rfl infoNm) rfl ⟨rfl, below_al (Below.refl _ _) _⟩
theorem name_in (i : Nat) (h1 : 1 ≤ i) (h8 : i ≤ 8) (w : World) : Calls Tryz.prog 27 #[.int .i64 (i : Nat)] w fun e w' => e = .returned (.string (nmS i)) ∧ Below w.heap.size w w' := by
  have LN := hid names_any
  have hx := fun w => run_index_str (P := Tryz.prog) 100 9 9 Tryz.underlying100 Tryz.underlying9 (by kernel_rfl) .i64 nmA i _ (by omega) (nmA_get i (by omega)) w
  have g1 : ¬ (i : Int) < 1 := by omega
  have g1' : decide ((i : Int) < 1) = false := decide_eq_false g1
  have g2 : ¬ (8 : Int) < (i : Int) := by omega
  have g2' : decide ((8 : Int) < (i : Int)) = false := decide_eq_false g2
  obtain ⟨A, hA⟩ : ∃ A, A = nmA := ⟨_, rfl⟩
  rw [← hA] at LN
  simp only [← hA] at hx
  obtain ⟨s, hs⟩ : ∃ s, s = nmS i := ⟨_, rfl⟩
  simp only [← hs] at hx ⊢
  clear hA hs
  go_enter Tryz.func27, Tryz.ntmps27
  go_wp2_with (go_at_call 72; with_reducible refine (LN.out _).mono ?_; rintro e w1 ⟨rfl, hB⟩)
  go_ret
  exact ⟨rfl, hB⟩
theorem name_out (k : Int) (h : k < 1 ∨ 8 < k) (w : World) : Calls Tryz.prog 27 #[.int .i64 k] w fun e w' => e = .returned (.string ⟨#[63]⟩) ∧ Below w.heap.size w w' := by
  by_cases g : k < 1
  · have g' : decide (k < 1) = true := decide_eq_true g
    go_enter Tryz.func27, Tryz.ntmps27
    go_wp2
    go_ret
    exact ⟨rfl, Below.refl _ _⟩
  · have g1 : (8 : Int) < k := by omega
    have g' : decide (k < 1) = false := decide_eq_false g
    have g1' : decide (8 < k) = true := decide_eq_true g1
    clear h
    go_enter Tryz.func27, Tryz.ntmps27
    go_wp2
    go_ret
    exact ⟨rfl, Below.refl _ _⟩
theorem kinds_none (w : World) : Calls Tryz.prog 26 #[] w fun e w' => e = .returned (.func (.func 71) #[] #[]) ∧ w = w' := by
  go_enter Tryz.func26, Tryz.ntmps26
  go_wp2
  go_ret
  exact ⟨rfl, rfl⟩
def kindsL : List Nat := [1, 2, 3, 4, 5, 6, 7, 8]
def encK (k : Nat) : Array Value := #[.int .i64 (k : Nat), .string (nmS k)]
theorem kinds_split : ∀ i, i < 8 → kindsL = kindsL.take i ++ (i + 1) :: kindsL.drop (i + 1) ∧ kindsL.take (i + 1) = kindsL.take i ++ [i + 1]
  | 0, _ => ⟨rfl, rfl⟩
  | 1, _ => ⟨rfl, rfl⟩
  | 2, _ => ⟨rfl, rfl⟩
  | 3, _ => ⟨rfl, rfl⟩
  | 4, _ => ⟨rfl, rfl⟩
  | 5, _ => ⟨rfl, rfl⟩
  | 6, _ => ⟨rfl, rfl⟩
  | 7, _ => ⟨rfl, rfl⟩

attribute [local go_sem] Oper.semAt_some
set_option maxRecDepth 100000 in
set_option maxHeartbeats 8000000 in
theorem kinds_on (w : World) : IterOn Tryz.prog 71 #[] encK (fun _ => False) (fun _ => False) kindsL w := by
  intro l J Jx W hb hJ hJx hY h0
  refine callsIn_of_wp Tryz.func71 rfl trivial ?_
  simp only [Tryz.ntmps71, List.size_toArray, List.length_cons, List.length_nil, Nat.reduceAdd, Nat.reduceSub, Array.replicate_succ, Array.replicate_zero, List.push_toArray, List.append_toArray, List.nil_append, List.cons_append]
  gi_wp2
  gi_loopw [2] (fun p wr => ∃ i : Nat, p = .int .i64 ((i + 1 : Nat) : Int) ∧ i ≤ 8 ∧ Hid (J (kindsL.take i) wr) ∧ W.heap.size ≤ wr.heap.size) (fun p _ => 9 - (intOf p).toNat)
  case atStart => exact ⟨0, rfl, by omega, hid h0, Nat.le_refl _⟩
  case round =>
    obtain ⟨i, rfl, hi, hj, hsz⟩ := hrel
    by_cases hlt : i < 8
    · obtain ⟨hs1, hs2⟩ := kinds_split i hlt
      have LN := hid (fun w => name_in (i + 1) (by omega) (by omega) w)
      obtain ⟨m, hm⟩ : ∃ m, m = i + 1 := ⟨_, rfl⟩
      rw [← hm] at hs1 hs2 LN ⊢
      have g1 : (m : Int) ≤ 8 := by omega
      have g1' : decide ((m : Int) ≤ 8) = true := decide_eq_true g1
      replace hs1 := hid hs1
      replace hs2 := hid hs2
      replace hm := hid hm
      gi_wp2_with (refine ⟨trivial, rfl, ?_⟩; gi_at_call 27; refine (callsIn_wide.2 (LN.out _)).mono ?_; rintro e w2 ⟨rfl, hB⟩
                   have hj2 := hJ _ _ _ hj.out (Kept.of_below hB)
                   have hsz2 := Nat.le_trans hsz hB.size
                   obtain ⟨fn, tmps, assign, body, hy, hR⟩ := hY _ m _ w2 hs1.out hsz2 hj2
                   simp only [encK] at hy
                   replace hj2 := hid hj2
                   clear hB hj)
      refine ⟨rfl, hR.mono ?_⟩
      rintro e W2 (⟨rfl, hj4, hk4⟩ | ⟨rfl, hj4, hk4⟩)
      · have hs4 := Nat.le_trans hsz2 hk4.size
        have hm8 : m ≤ 8 := by have := hm.out; omega
        replace hj4 := hid hj4
        clear hk4 hy hR hj2
        gi_wp2
        go_roundw
        case rel => exact ⟨m, by go_num, hm8, hid (by rw [hs2.out]; exact hj4.out), hs4⟩
        case measure => have := hm.out; simp [intOf]; omega
      · gi_wp2
        refine bodyPost_ret (results_none rfl _ _ _) rfl ?_
        exact ⟨⟨_, rfl⟩, .inr ⟨_, _, _, hs1.out, hj4⟩⟩
    · obtain rfl : i = 8 := by omega
      have g1' : decide (((8 + 1 : Nat) : Int) ≤ 8) = false := by decide
      gi_wp2
      go_end0
      exact ⟨⟨_, rfl⟩, .inl hj.out⟩
end Go.Proofs.YtdjlpmelmhhooaaGreatDoor
