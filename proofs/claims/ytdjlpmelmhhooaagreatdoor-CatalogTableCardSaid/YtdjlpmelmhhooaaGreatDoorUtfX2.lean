/- Code points: the iterator, Count, Valid; the chapter's example. -/
import Derived.Test.YtdjlpmelmhhooaaGreatDoorUtfX1
import Derived.Test.YtdjlpmelmhhooaaGreatDoorLibA
import Derived.OwnWalkIn
import Derived.TacticsInMore
import Derived.LoopNIn
import Derived.LoopIn
import Derived.Shelf.Abstract
import Derived.Shelf.RegionOpen
import Derived.Lib.IndexBytes
import Derived.Laws.DeepBits32
namespace Go.Proofs.YtdjlpmelmhhooaaGreatDoor
section
open Go Go.RowKit
set_option linter.unusedSimpArgs false
attribute [local go_sem] Oper.semAt_some

def encRn (x : Nat × Nat) : Array Value := #[.int .i64 (x.1 : Nat), .int .i32 (x.2 : Nat)]

theorem extract_size (s : ByteArray) (k : Nat) (_h : k ≤ s.size) : (s.extract k s.size).size = s.size - k := by simp [ByteArray.size_extract]
theorem extract_list (s : ByteArray) (k : Nat) : (s.extract k s.size).data.toList = s.data.toList.drop k := by
  rw [Lib.extract_data, List.take_of_length_le]
  simp
theorem first_at (s : ByteArray) (k : Nat) (h : k < s.size) (hs : s.size ≤ 140737488351232) (w : World) :
    Calls Tryz.prog 128 #[.string (s.extract k s.size)] w fun e w' => e = .returned (firstV (s.data.toList.drop k)) ∧ w = w' := by
  have := first_any (s.extract k s.size) (by rw [extract_size s k (by omega)]; omega) (by rw [extract_size s k (by omega)]; omega) w
  rwa [extract_list] at this

set_option maxRecDepth 100000 in
set_option maxHeartbeats 4000000 in
theorem runes_on (s : ByteArray) (hs : s.size ≤ 140737488351232) (b : Nat) (w : World) (hbox : RowAt w b 9 #[.string s]) :
    IterOn Tryz.prog 127 #[.pointer (some ⟨b, 0, none⟩)] encRn (fun _ => False) (fun k => k = b) (runesN s.data.toList) w := by
  intro l J Jx W hb hJ hJx hY h0
  have hboxW : RowAt W b 9 #[.string s] := hbox.below hb hbox.lt
  refine callsIn_of_wp Tryz.func127 rfl trivial ?_
  simp only [Tryz.ntmps127, List.size_toArray, List.length_cons, List.length_nil, Nat.reduceAdd, Nat.reduceSub, Array.replicate_succ, Array.replicate_zero, List.push_toArray, List.append_toArray, List.nil_append, List.cons_append]
  gi_wp2
  gi_loopw [3] (fun p wr => ∃ (k fuel : Nat) (pre : List (Nat × Nat)), p = .int .i64 k ∧ k ≤ s.size ∧ s.size - k ≤ fuel ∧ Hid (runesN s.data.toList = pre ++ runesF fuel k (s.data.toList.drop k)) ∧ Hid (J pre wr) ∧ Hid (RowAt wr b 9 #[.string s]) ∧ W.heap.size ≤ wr.heap.size)
    (fun p _ => s.size - (intOf p).toNat)
  case atStart => exact ⟨0, s.size, [], rfl, Nat.zero_le _, by omega, by refine hid ?_; simp [runesN], hid h0, hid hboxW, Nat.le_refl _⟩
  case round =>
    obtain ⟨k, fuel, pre, rfl, hk, hf, hx, hj, hbx, hsz⟩ := hrel
    by_cases hlt : k < s.size
    · have hc := hbx.out.cell (j := 0) rfl
      cases hfr : firstN (s.data.toList.drop k) with
      | none =>
        have L := fun w => first_at s k hlt hs w
        rw [show firstV (s.data.toList.drop k) = .tuple #[.int .i32 0, .int .i64 0] by unfold firstV; rw [hfr]] at L
        replace L := hid L
        have hxs : runesN s.data.toList = pre := by
          rw [hx.out]; cases fuel with
          | zero => simp [runesF]
          | succ m => simp [runesF, hfr]
        replace hxs := hid hxs
        clear hfr
        gi_wp2_with (refine ⟨trivial, rfl, ?_⟩; gi_at_call 128; refine (callsIn_wide.2 (L.out _)).mono ?_; rintro e w' ⟨rfl, rfl⟩)
        refine ⟨fun _ h => (by cases h), ?_⟩
        gi_wp2
        refine bodyPost_ret (results_none rfl _ _ _) rfl ?_
        exact ⟨⟨_, rfl⟩, .inl (by rw [hxs.out]; exact hj.out)⟩
      | some rn =>
        obtain ⟨r, n⟩ := rn
        obtain ⟨hn1, hn2, hn4, hpt, hszn⟩ := firstN_size hfr
        have L := fun w => first_at s k hlt hs w
        rw [show firstV (s.data.toList.drop k) = .tuple #[.int .i32 (r : Nat), .int .i64 (n : Nat)] by unfold firstV; rw [hfr]] at L
        replace L := hid L
        obtain ⟨fuel, rfl⟩ : ∃ m, fuel = m + 1 := ⟨fuel - 1, by omega⟩
        have hxs : runesN s.data.toList = pre ++ (k, r) :: runesF fuel (k + n) (s.data.toList.drop (k + n)) := by
          rw [hx.out]; simp only [runesF, hfr, List.drop_drop]
        obtain ⟨fn, tmps, assign, body, hy, hR⟩ := hY pre (k, r) _ wr hxs hsz hj.out
        have hnz : ((n : Int) == 0) = false := by rw [beq_eq_false_iff_ne]; omega
        simp only [encRn] at hy
        clear hfr
        gi_wp2_with (refine ⟨trivial, rfl, ?_⟩; gi_at_call 128; refine (callsIn_wide.2 (L.out _)).mono ?_; rintro e w' ⟨rfl, rfl⟩)
        refine ⟨rfl, hR.mono ?_⟩
        rintro e W2 (⟨rfl, hj2, hk2⟩ | ⟨rfl, hj2, hk2⟩)
        · have hbx2 : RowAt W2 b 9 #[.string s] := hk2.row hbx.out (fun h => h rfl)
          have hsz2 : W.heap.size ≤ W2.heap.size := Nat.le_trans hsz hk2.size
          replace hbx2 := hid hbx2
          replace hj2 := hid hj2
          clear hj hbx hy hR hk2
          gi_wp2
          go_roundw
          case rel => exact ⟨k + n, fuel, pre ++ [(k, r)], by go_num, by simp at hn2; omega, by omega, hid (by rw [hxs]; simp), hj2, hbx2, hsz2⟩
          case measure => simp [intOf]; simp at hn2; omega
        · gi_wp2
          refine bodyPost_ret (results_none rfl _ _ _) rfl ?_
          exact ⟨⟨_, rfl⟩, .inr ⟨pre, (k, r), _, hxs, hj2⟩⟩
    · obtain rfl : k = s.size := by omega
      have hnil : s.data.toList.drop s.size = [] := by simp
      have hxs : runesN s.data.toList = pre := by
        rw [hx.out, hnil]; cases fuel <;> simp [runesF, firstN]
      have hc := hbx.out.cell (j := 0) rfl
      gi_wp2
      go_end0
      exact ⟨⟨_, rfl⟩, .inl (by rw [hxs]; exact hj.out)⟩
end
section
open Go Go.RowKit
set_option linter.unusedSimpArgs false
attribute [local go_sem] Oper.semAt_some

theorem runesF_len : ∀ (k a : Nat) (l : List UInt8), (runesF k a l).length ≤ k
  | 0, _, _ => by simp [runesF]
  | k + 1, a, l => by
    unfold runesF
    split
    · simp
    · simp only [List.length_cons]; have := runesF_len k (a + ‹Nat›) (l.drop ‹Nat›); omega
theorem runesN_len (l : List UInt8) : (runesN l).length ≤ l.length := runesF_len _ _ _

theorem runes_make (s : ByteArray) (w : World) : Calls Tryz.prog 99 #[.string s] w fun e w' => e = .returned (.func (.func 127) #[] #[.pointer (some ⟨w.heap.size, 0, none⟩)]) ∧ w.alloc (.cells #[.string s] 9) = w' := by
  go_enter Tryz.func99, Tryz.ntmps99
  go_wp2
  go_ret
  exact ⟨rfl, rfl⟩

set_option maxRecDepth 100000 in
set_option maxHeartbeats 4000000 in
theorem count_any (s : ByteArray) (hs : s.size ≤ 140737488351232) (w : World) : Calls Tryz.prog 62 #[.string s] w fun e w' => e = .returned (.int .i64 ((runesN s.data.toList).length : Nat)) ∧ Below w.heap.size w w' := by
  refine (callsIn_wide (n := 0)).1 ?_
  refine callsIn_of_wp_marks Tryz.func62 rfl trivial ?_
  simp only [Tryz.ntmps62, List.size_toArray, List.length_cons, List.length_nil, Nat.reduceAdd, Nat.reduceSub, Array.replicate_succ, Array.replicate_zero, List.push_toArray, List.append_toArray, List.nil_append, List.cons_append]
  gi_wp2_with (refine ⟨trivial, rfl, ?_⟩; gi_at_call 99; refine (callsIn_wide.2 (runes_make s _)).mono ?_; rintro e w' ⟨rfl, rfl⟩)
  obtain ⟨W0, hW0⟩ : ∃ W0, (w.alloc (.cells #[.int .i64 0] 3)).alloc (.cells #[.string s] 9) = W0 := ⟨_, rfl⟩
  have hc : RowAt W0 w.heap.size 3 #[.int .i64 0] := by rw [← hW0]; exact (RowAt.new w _ _).alloc _
  have hbx : RowAt W0 (w.heap.size + 1) 9 #[.string s] := by rw [← hW0]; have := RowAt.new (w.alloc (.cells #[.int .i64 0] 3)) #[.string s] 9; rwa [World.size_alloc] at this
  have hB : Below w.heap.size w W0 := by rw [← hW0]; exact below_al (below_al (Below.refl _ _) _) _
  have hsz : w.heap.size + 2 ≤ W0.heap.size := by rw [← hW0]; simp
  rw [hW0]
  clear hW0
  refine wp_iter (gf := 127) (lb := #[.pointer (some ⟨w.heap.size + 1, 0, none⟩)]) rfl (enters_of Tryz.func127 (by kernel_rfl) rfl) (runes_on s hs (w.heap.size + 1) W0 hbx)
    (fun _ h => h.elim) (fun k hk => by subst hk; exact hbx.lt) (fun _ => rfl)
    (fun pre W => RowAt W w.heap.size 3 #[.int .i64 (pre.length : Nat)] ∧ Below w.heap.size w W) (fun _ _ _ => False) ?hI ?hIx ⟨hc, hB⟩
    (fun x a' _ => a' = { tmps := #[.string s, undef, .int .i64 0, .pointer (some ⟨w.heap.size, 0, none⟩), .string s, .func (.func 127) #[] #[.pointer (some ⟨w.heap.size + 1, 0, none⟩)], .int .i64 (x.1 : Nat), .int .i32 (x.2 : Nat), undef, undef, undef], defers := [] }) ?hAx ?assign ?body ?done ?stop
  case hI =>
    rintro pre X Y ⟨h1, h2⟩ hk
    exact ⟨hk.row h1 (fun h => by rcases h with h | h | h <;> first | exact h | omega), below_kept h2 hk (Nat.le_refl _) (fun k h => by rcases h with h | h | h; exact h.elim; all_goals omega)⟩
  case hIx => intro _ _ _ _ h; exact h.elim
  case hAx => intro _ _ _ _ h _; exact h
  case assign =>
    intro l pre x W K _ hi hK
    gi_wp2
    exact hK _ _ (Kept.refl _ _) hi (by simp [encRn])
  case body =>
    rintro pre x post a' W hx hWs _ ⟨h1, h2⟩ rfl
    have hcell := h1.cell (j := 0) rfl
    have hfr := h1.free 0
    have hlen : pre.length < 140737488351232 := by
      have h3 := congrArg List.length hx
      simp only [List.length_append, List.length_cons] at h3
      have h4 := runesN_len s.data.toList
      have h5 : s.data.toList.length = s.size := by simp
      omega
    gi_wp2
    refine ⟨(Kept.refl _ _).setCell _ (.inl ?_) _, ?_, ?_⟩
    · rintro (h | h)
      · rcases h with h | h <;> simp at h <;> omega
      · simp at h
    · exact (h1.set 0 _).eqA (by simp)
    · exact h2.setCell (Nat.le_refl _) _
  case done =>
    rintro W hWs ⟨h1, h2⟩ hd
    have hcell := h1.cell (j := 0) rfl
    gi_wp2
    refine leave_one hd ⟨_, results_tmp rfl _ _ _, ?_, ?_⟩
    · rfl
    · exact below_kept h2 ((Kept.refl (fun k => k = W0.heap.size) _).putObj _ _ (.inl rfl)) (Nat.le_refl _) (fun k hk => by omega)
  case stop => intro _ _ _ _ _ _ _ h; exact h.elim
end
section
open Go Go.RowKit
set_option linter.unusedSimpArgs false
attribute [local go_sem] Oper.semAt_some

theorem runesF_all : ∀ (k a : Nat) (l : List UInt8), ∀ x ∈ runesF k a l, isPoint x.2 = true ∧ x.1 + sizeU x.2 ≤ a + l.length
  | 0, _, _ => by simp [runesF]
  | k + 1, a, l => by
    unfold runesF
    split
    · simp
    · rename_i r n h
      obtain ⟨h1, h2, h3, h4, h5⟩ := firstN_size h
      intro x hx
      rcases List.mem_cons.1 hx with rfl | hx
      · exact ⟨h4, by simp only [h5]; omega⟩
      · have := runesF_all k (a + n) (l.drop n) x hx
        rw [List.length_drop] at this
        exact ⟨this.1, by omega⟩
theorem runesN_all (l : List UInt8) : ∀ x ∈ runesN l, isPoint x.2 = true ∧ x.1 + sizeU x.2 ≤ l.length := by
  have := runesF_all l.length 0 l
  rwa [Nat.zero_add] at this
/-- Where so many code points end. -/
def lastEnd (a : Nat) (xs : List (Nat × Nat)) : Nat := (xs.getLast?.map fun x => x.1 + sizeU x.2).getD a
theorem endF_eq : ∀ (k a : Nat) (l : List UInt8), endF k a l = lastEnd a (runesF k a l)
  | 0, _, _ => rfl
  | k + 1, a, l => by
    unfold runesF endF
    split
    · rfl
    · rename_i r n h
      obtain ⟨h1, h2, h3, h4, h5⟩ := firstN_size h
      rw [endF_eq k (a + n) (l.drop n)]
      unfold lastEnd
      rw [List.getLast?_cons]
      cases (runesF k (a + n) (l.drop n)).getLast? with
      | none => simp [h5]
      | some y => simp
theorem lastEnd_push (a : Nat) (xs : List (Nat × Nat)) (x : Nat × Nat) : lastEnd a (xs ++ [x]) = x.1 + sizeU x.2 := by simp [lastEnd]
theorem endN_eq (l : List UInt8) : endN l = lastEnd 0 (runesN l) := endF_eq _ _ _
theorem lastEnd_le (l : List UInt8) (pre post : List (Nat × Nat)) (h : runesN l = pre ++ post) : lastEnd 0 pre ≤ l.length := by
  unfold lastEnd
  cases hq : pre.getLast? with
  | none => simp
  | some x =>
    have : x ∈ runesN l := by rw [h]; exact List.mem_append_left _ (List.mem_of_getLast? hq)
    exact (runesN_all l x this).2

/-- The first byte that is wrong; -1: none. -/
def badN (s : ByteArray) : Int := if endN s.data.toList = s.size then -1 else (endN s.data.toList : Nat)

set_option maxRecDepth 100000 in
set_option maxHeartbeats 4000000 in
theorem bad_any (s : ByteArray) (hs : s.size ≤ 140737488351232) (w : World) : Calls Tryz.prog 129 #[.string s] w fun e w' => e = .returned (.int .i64 (badN s)) ∧ Below w.heap.size w w' := by
  refine (callsIn_wide (n := 0)).1 ?_
  refine callsIn_of_wp_marks Tryz.func129 rfl trivial ?_
  simp only [Tryz.ntmps129, List.size_toArray, List.length_cons, List.length_nil, Nat.reduceAdd, Nat.reduceSub, Array.replicate_succ, Array.replicate_zero, List.push_toArray, List.append_toArray, List.nil_append, List.cons_append]
  gi_wp2_with (refine ⟨trivial, rfl, ?_⟩; gi_at_call 99; refine (callsIn_wide.2 (runes_make s _)).mono ?_; rintro e w' ⟨rfl, rfl⟩)
  obtain ⟨W0, hW0⟩ : ∃ W0, (w.alloc (.cells #[.int .i64 0] 3)).alloc (.cells #[.string s] 9) = W0 := ⟨_, rfl⟩
  have hc : RowAt W0 w.heap.size 3 #[.int .i64 0] := by rw [← hW0]; exact (RowAt.new w _ _).alloc _
  have hbx : RowAt W0 (w.heap.size + 1) 9 #[.string s] := by rw [← hW0]; have := RowAt.new (w.alloc (.cells #[.int .i64 0] 3)) #[.string s] 9; rwa [World.size_alloc] at this
  have hB : Below w.heap.size w W0 := by rw [← hW0]; exact below_al (below_al (Below.refl _ _) _) _
  have hsz : w.heap.size + 2 ≤ W0.heap.size := by rw [← hW0]; simp
  rw [hW0]
  clear hW0
  refine wp_iter (gf := 127) (lb := #[.pointer (some ⟨w.heap.size + 1, 0, none⟩)]) rfl (enters_of Tryz.func127 (by kernel_rfl) rfl) (runes_on s hs (w.heap.size + 1) W0 hbx)
    (fun _ h => h.elim) (fun k hk => by subst hk; exact hbx.lt) (fun _ => rfl)
    (fun pre W => RowAt W w.heap.size 3 #[.int .i64 (lastEnd 0 pre : Nat)] ∧ Below w.heap.size w W) (fun _ _ _ => False) ?hI ?hIx ⟨hc, hB⟩
    (fun x a' _ => a' = { tmps := #[.string s, undef, .int .i64 0, .pointer (some ⟨w.heap.size, 0, none⟩), .int .i64 (x.1 : Nat), .int .i32 (x.2 : Nat), .string s, .func (.func 127) #[] #[.pointer (some ⟨w.heap.size + 1, 0, none⟩)], .int .i64 (x.1 : Nat), .int .i32 (x.2 : Nat), undef, undef, undef, undef, undef, undef, undef, undef, undef], defers := [] }) ?hAx ?assign ?body ?done ?stop
  case hI =>
    rintro pre X Y ⟨h1, h2⟩ hk
    exact ⟨hk.row h1 (fun h => by rcases h with h | h | h <;> first | exact h | omega), below_kept h2 hk (Nat.le_refl _) (fun k h => by rcases h with h | h | h; exact h.elim; all_goals omega)⟩
  case hIx => intro _ _ _ _ h; exact h.elim
  case hAx => intro _ _ _ _ h _; exact h
  case assign =>
    intro l pre x W K _ hi hK
    gi_wp2
    exact hK _ _ (Kept.refl _ _) hi (by simp [encRn])
  case body =>
    rintro pre x post a' W hx hWs _ ⟨h1, h2⟩ rfl
    have hcell := h1.cell (j := 0) rfl
    have hfr := h1.free 0
    have hx1 := (runesN_all s.data.toList x (by rw [hx]; simp)).2
    have h5 : s.data.toList.length = s.size := by simp
    rw [h5] at hx1
    have hpz := sizeN_pos (x.2 : Nat)
    replace hx := hid hx
    obtain ⟨q, hq⟩ : ∃ q, q = sizeU (x.2 : Nat) := ⟨_, rfl⟩
    have L := fun w => usize_any (x.2 : Nat) w
    rw [← hq] at L hx1 hpz
    have hl : lastEnd 0 (pre ++ [x]) = x.1 + q := by rw [lastEnd_push, hq]
    replace L := hid L
    replace hq := hid hq
    replace hl := hid hl
    gi_wp2_with (refine ⟨trivial, rfl, ?_⟩; gi_at_call 150; refine (CallsIn.inRound _ (callsIn_wide.2 (L.out _))).mono ?_; rintro e w' ⟨rfl, rfl⟩)
    refine ⟨(Kept.refl _ _).setCell _ (.inl ?_) _, ?_, ?_⟩
    · rintro (h | h)
      · rcases h with h | h <;> simp at h <;> omega
      · simp at h
    · exact (h1.set 0 _).eqA (by rw [hl.out]; simp)
    · exact h2.setCell (Nat.le_refl _) _
  case done =>
    rintro W hWs ⟨h1, h2⟩ hd
    have hcell := h1.cell (j := 0) rfl
    rw [← endN_eq] at hcell
    have hle : endN s.data.toList ≤ s.size := by rw [endN_eq]; simpa using lastEnd_le s.data.toList (runesN s.data.toList) [] (by simp)
    by_cases he : endN s.data.toList = s.size
    · rw [he] at hcell
      have hv : badN s = -1 := by rw [badN, if_pos he]
      replace hv := hid hv
      clear he hle h1
      gi_wp2
      refine leave_one hd ⟨_, results_tmp rfl _ _ _, ?_, ?_⟩
      · exact ret_int hv.out.symm
      · exact below_kept h2 ((Kept.refl (fun k => k = W0.heap.size) _).putObj _ _ (.inl rfl)) (Nat.le_refl _) (fun k hk => by omega)
    · have hv : badN s = (endN s.data.toList : Nat) := by rw [badN, if_neg he]
      obtain ⟨q, hq⟩ : ∃ q, q = endN s.data.toList := ⟨_, rfl⟩
      rw [← hq] at hle hcell he hv
      replace hv := hid hv
      have hn : ((q : Int) == (s.size : Int)) = false := by rw [beq_eq_false_iff_ne]; omega
      clear he h1 hq
      gi_wp2
      refine leave_one hd ⟨_, results_tmp rfl _ _ _, ?_, ?_⟩
      · exact ret_int hv.out.symm
      · exact below_kept h2 ((Kept.refl (fun k => k = W0.heap.size) _).putObj _ _ (.inl rfl)) (Nat.le_refl _) (fun k hk => by omega)
  case stop => intro _ _ _ _ _ _ _ h; exact h.elim

theorem valid_any (s : ByteArray) (hs : s.size ≤ 140737488351232) (w : World) : Calls Tryz.prog 100 #[.string s] w fun e w' => e = .returned (.bool (decide (badN s < 0))) ∧ Below w.heap.size w w' := by
  have L := fun w => bad_any s hs w
  replace L := hid L
  go_enter Tryz.func100, Tryz.ntmps100
  go_wp2_with (go_at_call 129; refine (L.out _).mono ?_; rintro e w1 ⟨rfl, hB1⟩)
  go_ret
  exact ⟨rfl, hB1⟩
end
section
open Go Go.RowKit
set_option linter.unusedSimpArgs false

theorem i32_and10 (x : Int) (h0 : 0 ≤ x) (h1 : x < 2147483648) : bits .and .i32 x 1023 = x % 1024 := by
  obtain ⟨n, rfl⟩ : ∃ n : Nat, x = (n : Int) := ⟨x.toNat, by omega⟩
  show IntKind.i32.wrap ((BitVec.ofInt 32 (n : Int) &&& BitVec.ofInt 32 1023).toNat : Int) = _
  have h1 : (BitVec.ofInt 32 1023).toNat = 1023 := by decide
  rw [BitVec.toNat_and, ofInt_u32 n (by omega), h1, nat_mask10]
  rw [wrap_i32_small _ (by omega) (by omega)]
  omega

theorem put_euro : putS 8364 = ⟨#[226, 130, 172]⟩ := by kernel_rfl
theorem count_euro : (runesN [226, 130, 172]).length = 1 := by kernel_rfl

theorem utfAwake_any (w : World) : Calls Tryz.prog 98 #[] w fun e w' => e = .returned (.bool true) ∧ Below w.heap.size w w' := by
  have L1 := fun w => put_rune 8364 w
  have L2 := fun w => count_any ⟨#[226, 130, 172]⟩ (by decide) w
  rw [put_euro] at L1
  simp only [count_euro] at L2
  replace L1 := hid L1
  replace L2 := hid L2
  go_enter Tryz.func98, Tryz.ntmps98
  go_wp2_with (first | (go_at_call 126; refine (L1.out _).mono ?_; rintro e w1 ⟨rfl, hB1⟩) | (go_at_call 62; refine (L2.out _).mono ?_; rintro e w1 ⟨rfl, hB2⟩))
  go_ret
  exact ⟨rfl, by repeat (first | assumption | apply below_cat)⟩

theorem ret_pair {a b : Int} (h : a = b) : Ending.returned (.tuple #[.int .i32 a, .bool true]) = .returned (.tuple #[.int .i32 b, .bool true]) := by rw [h]
theorem ret_split {a b c d : Int} (h : a = b) (h' : c = d) : Ending.returned (.tuple #[.int .u16 a, .int .u16 c, .bool true]) = .returned (.tuple #[.int .u16 b, .int .u16 d, .bool true]) := by rw [h, h']

def surN (a : Nat) : Nat := if 55296 ≤ a ∧ a < 56320 then 1 else if 56320 ≤ a ∧ a ≤ 57343 then 2 else 0
def pairV (a b : Nat) : Value := if surN a = 1 ∧ surN b = 2 then .tuple #[.int .i32 ((a - 55296) * 1024 + (b - 56320) + 65536 : Nat), .bool true] else .tuple #[.int .i32 0, .bool false]
theorem sur1 {a : Nat} (h : surN a = 1) : 55296 ≤ a ∧ a < 56320 := by
  unfold surN at h; split at h
  · assumption
  · split at h <;> simp at h
theorem sur2 {a : Nat} (h : surN a = 2) : 56320 ≤ a ∧ a ≤ 57343 := by
  unfold surN at h; split at h
  · simp at h
  · split at h
    · assumption
    · simp at h
def splitV (r : Int) : Value := if 65536 ≤ r ∧ r ≤ 1114111 then .tuple #[.int .u16 (55296 + (r.toNat - 65536) / 1024 : Nat), .int .u16 (56320 + (r.toNat - 65536) % 1024 : Nat), .bool true] else .tuple #[.int .u16 0, .int .u16 0, .bool false]
end
end Go.Proofs.YtdjlpmelmhhooaaGreatDoor
