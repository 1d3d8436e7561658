/- digits' weights (an iterator) and their sum; Luhn, Check, Card. -/
import Derived.Test.YtbbjoahloghpkaaDoorDig1
import Derived.Test.YtbbjoahloghpkaaDoorIter
import Derived.OwnWalkIn
import Derived.TacticsInMore
import Derived.LoopNIn
import Derived.LoopIn
import Derived.Shelf.Abstract
import Derived.Shelf.RegionOpen
namespace Go.Proofs.YtbbjoahloghpkaaDoor
open Go Go.RowKit
set_option linter.unusedSimpArgs false
attribute [local go_sem] Oper.semAt_some

def encW (x : Nat) : Array Value := #[.int .i64 (x : Nat)]

theorem run_index_text {P : Program} (t : TypeId) (s : ByteArray) (k : IntKind) (i c : Nat) (h : P.underlying t = some .string) (hi : i < s.size) (hc : c = s[i].toNat) (w : World) :
    (Instr.index t (.string s) (.int k (i : Int))).run P w = .ok (.int .u8 (c : Int)) w := by
  subst hc
  have h2 : s[i]? = some s[i] := by simp [hi]
  simp [Instr.index, asIntOf, run_underlying h, h2]

theorem weights_make (s : ByteArray) (d : Bool) (w : World) : Calls Tryd.prog 45 #[.string s, .bool d] w fun e w' =>
    e = .returned (.func (.func 69) #[] #[.pointer (some ⟨w.heap.size, 0, none⟩), .pointer (some ⟨w.heap.size + 1, 0, none⟩)]) ∧ (w.alloc (.cells #[.string s] 9)).alloc (.cells #[.bool d] 4) = w' := by
  go_enter Tryd.func45, Tryd.ntmps45
  go_wp2
  go_ret
  exact ⟨by simp, rfl⟩

set_option maxRecDepth 100000 in
set_option maxHeartbeats 8000000 in
theorem weights_on (s : ByteArray) (hs : s.size ≤ 140737488351232) (hd : isDig s.data.toList = true) (d : Bool) (bs bd : Nat) (hne : bs ≠ bd) (w : World) (hrs : RowAt w bs 9 #[.string s]) (hrd : RowAt w bd 4 #[.bool d]) :
    IterOn Tryd.prog 69 #[.pointer (some ⟨bs, 0, none⟩), .pointer (some ⟨bd, 0, none⟩)] encW (fun k => k = bd) (fun k => k = bs ∨ k = bd) (weightsN d s.data.toList.reverse) w := by
  intro l J Jx W hb hJ hJx hY h0
  have hrsW : RowAt W bs 9 #[.string s] := hrs.below hb hrs.lt
  have hrdW : RowAt W bd 4 #[.bool d] := hrd.below hb hrd.lt
  have hcs0 := hrsW.cell (j := 0) rfl
  have hlen : s.data.toList.length = s.size := by simp
  replace hd := hid hd
  replace hlen := hid hlen
  refine callsIn_of_wp Tryd.func69 rfl trivial ?_
  simp only [Tryd.ntmps69, List.size_toArray, List.length_cons, List.length_nil, Nat.reduceAdd, Nat.reduceSub, Array.replicate_succ, Array.replicate_zero, List.push_toArray, List.append_toArray, List.nil_append, List.cons_append]
  gi_wp2
  gi_loopw [4] (fun p wr => ∃ (k : Nat) (i : Int) (d' : Bool) (pre : List Nat), p = .int .i64 i ∧ (k : Int) = i + 1 ∧ k ≤ s.size ∧ Hid (weightsN d s.data.toList.reverse = pre ++ weightsN d' (s.data.toList.take k).reverse) ∧ Hid (J pre wr) ∧ Hid (RowAt wr bs 9 #[.string s]) ∧ Hid (RowAt wr bd 4 #[.bool d']) ∧ W.heap.size ≤ wr.heap.size)
    (fun p _ => (intOf p + 1).toNat)
  case atStart => exact ⟨s.size, _, d, [], rfl, by omega, Nat.le_refl _, by refine hid ?_; rw [List.take_of_length_le (by simp)]; rfl, hid h0, hid hrsW, hid hrdW, Nat.le_refl _⟩
  case round =>
    obtain ⟨k, i, d', pre, rfl, hki, hk, hx, hj, hbs, hbd, hsz⟩ := hrel
    rcases k with _ | k
    · obtain rfl : i = -1 := by omega
      have hxs : weightsN d s.data.toList.reverse = pre := by rw [hx.out]; simp [weightsN]
      replace hxs := hid hxs
      gi_wp2
      go_end0
      exact ⟨⟨_, rfl⟩, .inl (by rw [hxs.out]; exact hj.out)⟩
    · obtain rfl : i = (k : Int) := by omega
      have hl : k < s.data.toList.length := by rw [hlen.out]; omega
      have hdg := isDig_get hd.out hl
      obtain ⟨u, hu⟩ : ∃ u, u = s.data.toList[k] := ⟨_, rfl⟩
      obtain ⟨c, hc⟩ : ∃ c, c = u.toNat := ⟨_, rfl⟩
      have hidx := fun w => run_index_text (P := Tryd.prog) 9 s .i64 k c Tryd.underlying9 (by omega) (by rw [hc, hu]; rfl) w
      obtain ⟨wt, hwt⟩ : ∃ x, x = weightN u d' := ⟨_, rfl⟩
      have hxs : weightsN d s.data.toList.reverse = pre ++ wt :: weightsN (!d') (s.data.toList.take k).reverse := by
        rw [hx.out, List.take_succ_eq_append_getElem hl, List.reverse_append, hwt, hu]; rfl
      obtain ⟨fn, tmps, assign, body, hy, hR⟩ := hY pre wt _ wr hxs hsz hj.out
      simp only [encW] at hy
      rw [← hu, ← hc] at hdg
      have hcs := hbs.out.cell (j := 0) rfl
      have hcd := hbd.out.cell (j := 0) rfl
      obtain ⟨nd, hnd⟩ : ∃ x, x = !d' := ⟨_, rfl⟩
      have hxs2 : weightsN d s.data.toList.reverse = (pre ++ [wt]) ++ weightsN nd (s.data.toList.take k).reverse := by rw [hxs, hnd]; simp
      replace hxs := hid hxs
      replace hxs2 := hid hxs2
      obtain ⟨hc1, hc2⟩ := hdg
      have hsub : ((c : Int) - 48) % 256 = (c : Int) - 48 := by omega
      have hW : wt = if d' then (if 10 ≤ (c - 48) * 2 then (c - 48) * 2 - 9 else (c - 48) * 2) else c - 48 := by rw [hwt, hc]; rfl
      clear hwt hu hc hl
      have ways : (d' = false ∧ wt = c - 48) ∨ (d' = true ∧ 10 ≤ (c - 48) * 2 ∧ wt = (c - 48) * 2 - 9) ∨ (d' = true ∧ ¬ 10 ≤ (c - 48) * 2 ∧ wt = (c - 48) * 2) := by
        cases d'
        · exact .inl ⟨rfl, by simpa using hW⟩
        · by_cases h : 10 ≤ (c - 48) * 2
          · exact .inr (.inl ⟨rfl, h, by simpa [h] using hW⟩)
          · exact .inr (.inr ⟨rfl, h, by simpa [h] using hW⟩)
      clear hW
      rcases ways with ⟨rfl, hw⟩ | ⟨rfl, hge, hw⟩ | ⟨rfl, hge, hw⟩
      case' inl =>
        obtain rfl : nd = true := hnd
        have hv : (c : Int) - 48 = (wt : Int) := by omega
        have h10 : decide ((10 : Int) ≤ (wt : Int)) = false := decide_eq_false (by omega)
        have h10' : ¬ (10 : Int) ≤ (wt : Int) := by omega
      case' inr.inl =>
        obtain rfl : nd = false := hnd
        have h10 : decide ((10 : Int) ≤ ((c : Int) - 48) * 2) = true := decide_eq_true (by omega)
        have h10' : (10 : Int) ≤ ((c : Int) - 48) * 2 := by omega
        have hv : ((c : Int) - 48) * 2 - 9 = (wt : Int) := by omega
      case' inr.inr =>
        obtain rfl : nd = false := hnd
        have hv : ((c : Int) - 48) * 2 = (wt : Int) := by omega
        have h10 : decide ((10 : Int) ≤ (wt : Int)) = false := decide_eq_false (by omega)
        have h10' : ¬ (10 : Int) ≤ (wt : Int) := by omega
      all_goals
        replace hw := hid hw
        gi_wp2
        refine ⟨rfl, hR.mono ?_⟩
        rintro e W2 (⟨rfl, hj2, hk2⟩ | ⟨rfl, hj2, hk2⟩)
        · have hbs2 : RowAt W2 bs 9 #[.string s] := hk2.row hbs.out (fun h => h (.inl rfl))
          have hbd2 := hk2.row hbd.out (fun h => h (.inr rfl))
          have hsz2 : W.heap.size ≤ W2.heap.size := Nat.le_trans hsz hk2.size
          have hcd2 := hbd2.cell (j := 0) rfl
          have hfd2 := hbd2.free 0
          clear hcs hcd
          have hcs2 := hbs2.cell (j := 0) rfl
          replace hbs2 := hid hbs2
          replace hbd2 := hid hbd2
          replace hj2 := hid hj2
          clear hj hbs hbd hy hR hk2
          gi_wp2
          go_roundw
          case rel =>
            exact ⟨k, _, _, pre ++ [wt], rfl, by omega, by omega, hxs2, hid (hJ _ _ _ hj2.out ((Kept.refl (fun k => k = bd) W2).setCell ⟨bd, 0, none⟩ (.inl rfl) _)), hid (hbs2.out.other _ _ hne),
              hid ((hbd2.out.set 0 _).eqA (by simp)), by simpa using hsz2⟩
          case measure => simp only [intOf]; omega
        · gi_wp2
          refine bodyPost_ret (results_none rfl _ _ _) rfl ?_
          exact ⟨⟨_, rfl⟩, .inr ⟨pre, wt, _, hxs.out, hj2⟩⟩

theorem weightsN_split {xs pre post : List Nat} {x B : Nat} (h : xs = pre ++ x :: post) (hB : xs.sum ≤ B) : pre.sum + x ≤ B := by
  subst h
  simp only [List.sum_append, List.sum_cons] at hB
  omega

set_option maxRecDepth 100000 in
set_option maxHeartbeats 8000000 in
theorem dsum_any (s : ByteArray) (hs : s.size ≤ 140737488351232) (hd : isDig s.data.toList = true) (d : Bool) (bs bd : Nat) (hne : bs ≠ bd) (n : Nat) (hn1 : n ≤ bs) (hn2 : n ≤ bd) (w : World) (hrs : RowAt w bs 9 #[.string s]) (hrd : RowAt w bd 4 #[.bool d]) :
    Calls Tryd.prog 44 #[.func (.func 69) #[] #[.pointer (some ⟨bs, 0, none⟩), .pointer (some ⟨bd, 0, none⟩)]] w fun e w' => e = .returned (.int .i64 (luhnSum d s.data.toList : Nat)) ∧ Below n w w' := by
  refine (callsIn_wide (n := 0)).1 ?_
  refine callsIn_of_wp_marks Tryd.func44 rfl trivial ?_
  simp only [Tryd.ntmps44, List.size_toArray, List.length_cons, List.length_nil, Nat.reduceAdd, Nat.reduceSub, Array.replicate_succ, Array.replicate_zero, List.push_toArray, List.append_toArray, List.nil_append, List.cons_append]
  have hbound : (weightsN d s.data.toList.reverse).sum ≤ 9 * 140737488351232 := by
    have h1 := weightsN_le s.data.toList.reverse d (isDig_reverse hd)
    have h2 : s.data.toList.length = s.size := by simp
    rw [List.length_reverse] at h1
    omega
  replace hbound := hid hbound
  have hls := hrs.lt
  have hld := hrd.lt
  gi_wp2
  obtain ⟨W0, hW0⟩ : ∃ W0, w.alloc (.cells #[.int .i64 0] 3) = W0 := ⟨_, rfl⟩
  have hc : RowAt W0 w.heap.size 3 #[.int .i64 0] := by rw [← hW0]; exact RowAt.new w _ _
  have hrs0 : RowAt W0 bs 9 #[.string s] := by rw [← hW0]; exact hrs.alloc _
  have hrd0 : RowAt W0 bd 4 #[.bool d] := by rw [← hW0]; exact hrd.alloc _
  have hB : Below w.heap.size w W0 := by rw [← hW0]; exact below_al (Below.refl _ _) _
  have hsz : w.heap.size + 1 = W0.heap.size := by rw [← hW0]; simp
  rw [hW0]
  clear hW0
  refine wp_iter (gf := 69) (lb := #[.pointer (some ⟨bs, 0, none⟩), .pointer (some ⟨bd, 0, none⟩)]) rfl (enters_of Tryd.func69 (by kernel_rfl) rfl) (weights_on s hs hd d bs bd hne W0 hrs0 hrd0)
    (fun k hk => by subst hk; exact hrd0.lt) (fun k hk => by rcases hk with rfl | rfl; exact hrs0.lt; exact hrd0.lt) (fun _ => rfl)
    (fun pre W => RowAt W w.heap.size 3 #[.int .i64 (pre.sum : Nat)] ∧ Below n w W) (fun _ _ _ => False) ?hI ?hIx ⟨hc, hB.mono (by omega)⟩
    (fun x a' _ => a' = { tmps := #[.func (.func 69) #[] #[.pointer (some ⟨bs, 0, none⟩), .pointer (some ⟨bd, 0, none⟩)], undef, .int .i64 0, .pointer (some ⟨w.heap.size, 0, none⟩), .int .i64 (x : Nat), .func (.func 69) #[] #[.pointer (some ⟨bs, 0, none⟩), .pointer (some ⟨bd, 0, none⟩)], .int .i64 (x : Nat), undef, undef, undef, undef], defers := [] }) ?hAx ?assign ?body ?done ?stop
  case hI =>
    rintro pre X Y ⟨h1, h2⟩ hk
    exact ⟨hk.row h1 (fun h => by rcases h with h | h | h <;> omega), below_kept h2 hk (by omega) (fun k h => by rcases h with h | h | h <;> omega)⟩
  case hIx => intro _ _ _ _ h; exact h.elim
  case hAx => intro _ _ _ _ h _; exact h
  case assign =>
    intro l pre x W K _ hi hK
    gi_wp2
    exact hK _ _ (Kept.refl _ _) hi (by simp [encW])
  case body =>
    rintro pre x post a' W hx hWs _ ⟨h1, h2⟩ rfl
    have hcell := h1.cell (j := 0) rfl
    have hfr := h1.free 0
    have hlen := weightsN_split hx hbound.out
    gi_wp2
    refine ⟨(Kept.refl _ _).setCell _ (.inl ?_) _, ?_, ?_⟩
    · rintro (h | h)
      · rcases h with h | h <;> simp at h <;> omega
      · rcases h with h | h <;> simp at h <;> omega
    · exact (h1.set 0 _).eqA (by simp)
    · exact h2.setCell (by simp; omega) _
  case done =>
    rintro W hWs ⟨h1, h2⟩ hd
    have hcell := h1.cell (j := 0) rfl
    gi_wp2
    refine leave_one hd ⟨_, results_tmp rfl _ _ _, ?_, ?_⟩
    · rfl
    · exact below_kept h2 ((Kept.refl (fun k => k = W0.heap.size) _).putObj _ _ (.inl rfl)) (by omega) (fun k hk => by omega)
  case stop => intro _ _ _ _ _ _ _ h; exact h.elim

end Go.Proofs.YtbbjoahloghpkaaDoor
