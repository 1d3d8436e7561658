/- Format: Longest; the walk of FormatLongest. -/
import Derived.Test.YtdjlpmelmhhooaaGreatDoorFmV
namespace Go.Proofs.YtdjlpmelmhhooaaGreatDoor
open Go Go.RowKit
set_option linter.unusedSimpArgs false
set_option linter.unusedVariables false

def mostS (ss : List ByteArray) : Nat := ss.foldl (fun m t => max m t.size) 0
theorem mostS_snoc (ss : List ByteArray) (t : ByteArray) : mostS (ss ++ [t]) = max (mostS ss) t.size := by simp [mostS]
theorem mostS_mem {ss : List ByteArray} {t : ByteArray} (h : t ∈ ss) : t.size ≤ mostS ss := by
  have : ∀ (l : List ByteArray) (m : Nat), m ≤ l.foldl (fun m t => max m t.size) m ∧ ∀ t ∈ l, t.size ≤ l.foldl (fun m t => max m t.size) m := by
    intro l
    induction l with
    | nil => intro m; exact ⟨Nat.le_refl _, fun t ht => by cases ht⟩
    | cons x l ih =>
      intro m
      obtain ⟨h1, h2⟩ := ih (max m x.size)
      refine ⟨?_, fun t ht => ?_⟩
      · exact Nat.le_trans (Nat.le_max_left _ _) h1
      · rcases List.mem_cons.1 ht with rfl | ht
        · exact Nat.le_trans (Nat.le_max_right _ _) h1
        · exact h2 t ht
  exact (this ss 0).2 t h
theorem mostS_le {ss : List ByteArray} {k : Nat} (h : ∀ t ∈ ss, t.size ≤ k) : mostS ss ≤ k := by
  have : ∀ (l : List ByteArray) (m : Nat), m ≤ k → (∀ t ∈ l, t.size ≤ k) → l.foldl (fun m t => max m t.size) m ≤ k := by
    intro l
    induction l with
    | nil => intro m hm _; exact hm
    | cons x l ih => intro m hm hl; exact ih _ (Nat.max_le.2 ⟨hm, hl x (.head _)⟩) (fun t ht => hl t (.tail _ ht))
  exact this ss 0 (Nat.zero_le _) h
/-- The longest text that fits. -/
def longN (k mn mx : Int) (ss : List ByteArray) : Int :=
  if k = 2 then 4 * mx else if k = 3 then 36 else if k = 4 then mostS ss else if k = 5 then 19 else if k = 6 then 14 else if k = 7 then (mn + 2) / 3 * 4 else mx
theorem sizeN_std (n : Nat) : sizeN 6 true n = (n + 2) / 3 * 4 := by
  unfold sizeN padN
  simp only [if_true]
  omega
set_option maxRecDepth 100000 in
set_option maxHeartbeats 4000000 in
theorem longest_any (k mn mx : Int) (a : Option Addr) (n c : Nat) (ss : List ByteArray) (hc : chkN k mn mx n = 0) (hn : n ≤ 1000) (hsz : ∀ t ∈ ss, t.size ≤ 1000) (w : World) (hS : IsStrs w a n ss) :
    Calls Tryz.prog 28 #[.agg (ruleA k mn mx (.slice a n c))] w fun e w' => e = .returned (.int .i64 (longN k mn mx ss)) ∧ Below w.heap.size w w' := by
  obtain ⟨h1, h2, h3, h4, h5, h6, h7⟩ := chkN_kind hc
  have hlen := hS.len
  have hk : k = 1 ∨ k = 2 ∨ k = 3 ∨ k = 4 ∨ k = 5 ∨ k = 6 ∨ k = 7 ∨ k = 8 := by omega
  clear hc
  unfold ruleA
  rcases hk with rfl | rfl | rfl | rfl | rfl | rfl | rfl | rfl
  case inr.inr.inr.inl =>
    have r := hid (RowAt.new w #[.int .i64 4, .int .i64 mn, .int .i64 mx, .slice a n c] 37)
    have b := hid (below_al (Below.refl w.heap.size w) (.cells #[.int .i64 4, .int .i64 mn, .int .i64 mx, .slice a n c] 37))
    replace hS := hid (hS.alloc (.cells #[.int .i64 4, .int .i64 mn, .int .i64 mx, .slice a n c] 37))
    have hl : longN 4 mn mx ss = (mostS ss : Nat) := by simp [longN]
    rw [hl]
    have hmx := fun (x y : Nat) ts t w => run_mx2 (P := Tryz.prog) ts t .i64 (x : Int) (y : Int) w
    replace hmx := hid hmx
    replace hsz := hid hsz
    clear hl h1 h2 h3 h4 h5 h6 h7
    go_enter Tryz.func28, Tryz.ntmps28
    go_wp2
    generalize World.alloc w _ = W at r b hS ⊢
    go_loop [3, 20] (fun m v => ∃ i : Nat, i ≤ n ∧ v = .int .i64 i ∧ m = .int .i64 (mostS (ss.take i) : Nat)) (fun _ v => n - (intOf v).toNat)
    case atStart => exact ⟨0, Nat.zero_le _, rfl, rfl⟩
    case round =>
      obtain ⟨i, hi, rfl, rfl⟩ := hrel
      by_cases hlt : i < n
      · obtain ⟨t, ht⟩ : ∃ s, ss[i]? = some s := ⟨_, List.getElem?_eq_getElem (by omega)⟩
        obtain ⟨x, rfl, hx⟩ := hS.out.at ht
        have hd : decide ((i : Int) < (n : Int)) = true := by rw [decide_eq_true_iff]; omega
        have hnx : mostS (ss.take (i + 1)) = max (mostS (ss.take i)) t.size := by
          rw [List.take_succ_eq_append_getElem (by omega), mostS_snoc]
          have : ss[i] = t := by rw [List.getElem?_eq_getElem (by omega)] at ht; exact Option.some.inj ht
          rw [this]
        obtain ⟨m, hm⟩ : ∃ m, m = mostS (ss.take i) := ⟨_, rfl⟩
        rw [← hm] at hnx ⊢
        have hmm := hmx.out m t.size
        have hmm2 : (max (m : Int) (t.size : Int)) = ((max m t.size : Nat) : Int) := by omega
        rw [hmm2] at hmm
        replace hnx := hid hnx
        clear ht hm hmm2
        go_wp2
        go_round
        case rel => exact ⟨i + 1, by omega, by go_num, by rw [hnx.out]⟩
        case measure => simp [intOf]; omega
      · obtain rfl : i = n := by omega
        have hd : decide ((i : Int) < (i : Int)) = false := by rw [decide_eq_false_iff_not]; omega
        have htk : ss.take i = ss := List.take_of_length_le (by omega)
        rw [htk]
        go_wp2
        go_ret
        exact ⟨rfl, b.out⟩
  case inr.inr.inr.inr.inr.inr.inl =>
    have LH0 : ∀ w, Calls Tryz.prog 65 #[] w fun e w' => e = .returned (.agg #[.string stdL, .int .i64 6, .bool true]) ∧ Below w.heap.size w w' := fun w => std_any w
    obtain ⟨m, rfl⟩ : ∃ m : Nat, mn = (m : Int) := ⟨mn.toNat, by omega⟩
    have LZ0 : ∀ w, Calls Tryz.prog 73 #[.agg #[.string stdL, .int .i64 6, .bool true], .int .i64 (m : Int)] w fun e w' => e = .returned (.int .i64 (sizeN 6 true m : Nat)) ∧ Below w.heap.size w w' := fun w => size_any stdL 6 true m (.inr rfl) (fun _ => rfl) (by omega) w
    have hl : longN 7 (m : Int) mx ss = ((sizeN 6 true m : Nat) : Int) := by rw [sizeN_std]; simp [longN]
    rw [hl]
    obtain ⟨H, hH⟩ : ∃ H, H = stdL := ⟨_, rfl⟩
    obtain ⟨z, hz⟩ : ∃ z, z = sizeN 6 true m := ⟨_, rfl⟩
    rw [← hH] at LH0 LZ0
    rw [← hz] at LZ0 ⊢
    have LH := hid LH0
    have LZ := hid LZ0
    have r := RowAt.new w #[.int .i64 7, .int .i64 (m : Int), .int .i64 mx, .slice a n c] 37
    have b := hid (below_al (Below.refl w.heap.size w) (.cells #[.int .i64 7, .int .i64 (m : Int), .int .i64 mx, .slice a n c] 37))
    clear LH0 LZ0 hH hz hl h1 h2 h3 h4 h5 h6 h7 hS hsz
    go_enter Tryz.func28, Tryz.ntmps28
    go_wp2
    generalize World.alloc w _ = W at r b ⊢
    have c1 := fun q : Sub W => q.cell r (j := 1) rfl
    replace r := hid r
    refine wp_region_sub (by kernel_rfl) (by kernel_rfl) ?_
    repeat (go_big_quiet_step (first
      | (go_at_call 65; with_reducible refine Sub.call _ (LH.out _))
      | (go_at_call 73; with_reducible refine Sub.call _ (LZ.out _))))
    refine wpQuiet_nil ?_
    intro q
    go_wp2
    go_ret
    exact ⟨rfl, below_cat q.h b.out⟩
  case inr.inl =>
    have h8 := h6 rfl
    have h9 : 0 ≤ mx := by omega
    have hl : longN 2 mn mx ss = 4 * mx := by simp [longN]
    rw [hl]
    clear hl h6 h7 hsz hS
    go_enter Tryz.func28, Tryz.ntmps28
    go_wp2
    go_ret
    exact ⟨rfl, below_al (Below.refl _ _) _⟩
  all_goals
    clear h6 h7 hsz hS
    go_enter Tryz.func28, Tryz.ntmps28
    go_wp2
    go_ret
    exact ⟨rfl, below_al (Below.refl _ _) _⟩
end Go.Proofs.YtdjlpmelmhhooaaGreatDoor
