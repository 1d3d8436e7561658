/- Bad, Valid. -/
import Derived.Test.YtbedanlkkidkkabUtf4
namespace Go.Proofs.Ytbedanlkkidkkab
open Go Go.RowKit
set_option linter.unusedSimpArgs false
attribute [local go_sem] Oper.semAt_some

theorem runesF_all : ∀ (k a : Nat) (l : List UInt8), ∀ x ∈ runesF k a l, isPoint x.2 = true ∧ x.1 + sizeN x.2 ≤ a + l.length
  | 0, _, _ => by simp [runesF]
  | k + 1, a, l => by
    unfold runesF
    split
    · simp
    · rename_i r n h
      obtain ⟨h1, h2, h3, h4, h5⟩ := firstN_size h
      intro x hx
      rcases List.mem_cons.1 hx with rfl | hx
      · exact ⟨h4, by simp only [h5]; omega⟩
      · have := runesF_all k (a + n) (l.drop n) x hx
        rw [List.length_drop] at this
        exact ⟨this.1, by omega⟩
theorem runesN_all (l : List UInt8) : ∀ x ∈ runesN l, isPoint x.2 = true ∧ x.1 + sizeN x.2 ≤ l.length := by
  have := runesF_all l.length 0 l
  rwa [Nat.zero_add] at this
/-- Where so many code points end. -/
def lastEnd (a : Nat) (xs : List (Nat × Nat)) : Nat := (xs.getLast?.map fun x => x.1 + sizeN x.2).getD a
theorem endF_eq : ∀ (k a : Nat) (l : List UInt8), endF k a l = lastEnd a (runesF k a l)
  | 0, _, _ => rfl
  | k + 1, a, l => by
    unfold runesF endF
    split
    · rfl
    · rename_i r n h
      obtain ⟨h1, h2, h3, h4, h5⟩ := firstN_size h
      rw [endF_eq k (a + n) (l.drop n)]
      unfold lastEnd
      rw [List.getLast?_cons]
      cases (runesF k (a + n) (l.drop n)).getLast? with
      | none => simp [h5]
      | some y => simp
theorem lastEnd_push (a : Nat) (xs : List (Nat × Nat)) (x : Nat × Nat) : lastEnd a (xs ++ [x]) = x.1 + sizeN x.2 := by simp [lastEnd]
theorem endN_eq (l : List UInt8) : endN l = lastEnd 0 (runesN l) := endF_eq _ _ _
theorem lastEnd_le (l : List UInt8) (pre post : List (Nat × Nat)) (h : runesN l = pre ++ post) : lastEnd 0 pre ≤ l.length := by
  unfold lastEnd
  cases hq : pre.getLast? with
  | none => simp
  | some x =>
    have : x ∈ runesN l := by rw [h]; exact List.mem_append_left _ (List.mem_of_getLast? hq)
    exact (runesN_all l x this).2

/-- The first byte that is wrong; -1: none. -/
def badN (s : ByteArray) : Int := if endN s.data.toList = s.size then -1 else (endN s.data.toList : Nat)

set_option maxRecDepth 100000 in
set_option maxHeartbeats 4000000 in
theorem bad_any (s : ByteArray) (hs : s.size ≤ 140737488351232) (w : World) : Calls Try.prog 11 #[.string s] w fun e w' => e = .returned (.int .i64 (badN s)) ∧ Below w.heap.size w w' := by
  refine (callsIn_wide (n := 0)).1 ?_
  refine callsIn_of_wp_marks Try.func11 rfl trivial ?_
  simp only [Try.ntmps11, List.size_toArray, List.length_cons, List.length_nil, Nat.reduceAdd, Nat.reduceSub, Array.replicate_succ, Array.replicate_zero, List.push_toArray, List.append_toArray, List.nil_append, List.cons_append]
  gi_wp2_with (refine ⟨trivial, rfl, ?_⟩; gi_at_call 9; refine (callsIn_wide.2 (runes_make s _)).mono ?_; rintro e w' ⟨rfl, rfl⟩)
  obtain ⟨W0, hW0⟩ : ∃ W0, (w.alloc (.cells #[.int .i64 0] 3)).alloc (.cells #[.string s] 9) = W0 := ⟨_, rfl⟩
  have hc : RowAt W0 w.heap.size 3 #[.int .i64 0] := by rw [← hW0]; exact (RowAt.new w _ _).alloc _
  have hbx : RowAt W0 (w.heap.size + 1) 9 #[.string s] := by rw [← hW0]; have := RowAt.new (w.alloc (.cells #[.int .i64 0] 3)) #[.string s] 9; rwa [World.size_alloc] at this
  have hB : Below w.heap.size w W0 := by rw [← hW0]; exact below_al (below_al (Below.refl _ _) _) _
  have hsz : w.heap.size + 2 ≤ W0.heap.size := by rw [← hW0]; simp
  rw [hW0]
  clear hW0
  refine wp_iter (gf := 20) (lb := #[.pointer (some ⟨w.heap.size + 1, 0, none⟩)]) rfl (enters_of Try.func20 (by kernel_rfl) rfl) (runes_on s hs (w.heap.size + 1) W0 hbx)
    (fun _ h => h.elim) (fun k hk => by subst hk; exact hbx.lt) (fun _ => rfl)
    (fun pre W => RowAt W w.heap.size 3 #[.int .i64 (lastEnd 0 pre : Nat)] ∧ Below w.heap.size w W) (fun _ _ _ => False) ?hI ?hIx ⟨hc, hB⟩
    (fun x a' _ => a' = { tmps := #[.string s, undef, .int .i64 0, .pointer (some ⟨w.heap.size, 0, none⟩), .int .i64 (x.1 : Nat), .int .i32 (x.2 : Nat), .string s, .func (.func 20) #[] #[.pointer (some ⟨w.heap.size + 1, 0, none⟩)], .int .i64 (x.1 : Nat), .int .i32 (x.2 : Nat), undef, undef, undef, undef, undef, undef, undef, undef, undef], defers := [] }) ?hAx ?assign ?body ?done ?stop
  case hI =>
    rintro pre X Y ⟨h1, h2⟩ hk
    exact ⟨hk.row h1 (fun h => by rcases h with h | h | h <;> first | exact h | omega), below_kept h2 hk (Nat.le_refl _) (fun k h => by rcases h with h | h | h; exact h.elim; all_goals omega)⟩
  case hIx => intro _ _ _ _ h; exact h.elim
  case hAx => intro _ _ _ _ h _; exact h
  case assign =>
    intro l pre x W K _ hi hK
    gi_wp2
    exact hK _ _ (Kept.refl _ _) hi (by simp [encR])
  case body =>
    rintro pre x post a' W hx hWs _ ⟨h1, h2⟩ rfl
    have hcell := h1.cell (j := 0) rfl
    have hfr := h1.free 0
    have hx1 := (runesN_all s.data.toList x (by rw [hx]; simp)).2
    have h5 : s.data.toList.length = s.size := by simp
    rw [h5] at hx1
    have hpz := sizeN_pos (x.2 : Nat)
    replace hx := hid hx
    obtain ⟨q, hq⟩ : ∃ q, q = sizeN (x.2 : Nat) := ⟨_, rfl⟩
    have L := fun w => size_any (x.2 : Nat) w
    rw [← hq] at L hx1 hpz
    have hl : lastEnd 0 (pre ++ [x]) = x.1 + q := by rw [lastEnd_push, hq]
    replace L := hid L
    replace hq := hid hq
    replace hl := hid hl
    gi_wp2_with (refine ⟨trivial, rfl, ?_⟩; gi_at_call 22; refine (CallsIn.inRound _ (callsIn_wide.2 (L.out _))).mono ?_; rintro e w' ⟨rfl, rfl⟩)
    refine ⟨(Kept.refl _ _).setCell _ (.inl ?_) _, ?_, ?_⟩
    · rintro (h | h)
      · rcases h with h | h <;> simp at h <;> omega
      · simp at h
    · exact (h1.set 0 _).eqA (by rw [hl.out]; simp)
    · exact h2.setCell (Nat.le_refl _) _
  case done =>
    rintro W hWs ⟨h1, h2⟩ hd
    have hcell := h1.cell (j := 0) rfl
    rw [← endN_eq] at hcell
    have hle : endN s.data.toList ≤ s.size := by rw [endN_eq]; simpa using lastEnd_le s.data.toList (runesN s.data.toList) [] (by simp)
    by_cases he : endN s.data.toList = s.size
    · rw [he] at hcell
      have hv : badN s = -1 := by rw [badN, if_pos he]
      replace hv := hid hv
      clear he hle h1
      gi_wp2
      refine leave_one hd ⟨_, results_tmp rfl _ _ _, ?_, ?_⟩
      · exact ret_int hv.out.symm
      · exact below_kept h2 ((Kept.refl (fun k => k = W0.heap.size) _).putObj _ _ (.inl rfl)) (Nat.le_refl _) (fun k hk => by omega)
    · have hv : badN s = (endN s.data.toList : Nat) := by rw [badN, if_neg he]
      obtain ⟨q, hq⟩ : ∃ q, q = endN s.data.toList := ⟨_, rfl⟩
      rw [← hq] at hle hcell he hv
      replace hv := hid hv
      have hn : ((q : Int) == (s.size : Int)) = false := by rw [beq_eq_false_iff_ne]; omega
      clear he h1 hq
      gi_wp2
      refine leave_one hd ⟨_, results_tmp rfl _ _ _, ?_, ?_⟩
      · exact ret_int hv.out.symm
      · exact below_kept h2 ((Kept.refl (fun k => k = W0.heap.size) _).putObj _ _ (.inl rfl)) (Nat.le_refl _) (fun k hk => by omega)
  case stop => intro _ _ _ _ _ _ _ h; exact h.elim

theorem valid_any (s : ByteArray) (hs : s.size ≤ 140737488351232) (w : World) : Calls Try.prog 12 #[.string s] w fun e w' => e = .returned (.bool (decide (badN s < 0))) ∧ Below w.heap.size w w' := by
  have L := fun w => bad_any s hs w
  replace L := hid L
  go_enter Try.func12, Try.ntmps12
  go_wp2_with (go_at_call 11; refine (L.out _).mono ?_; rintro e w1 ⟨rfl, hB1⟩)
  go_ret
  exact ⟨rfl, hB1⟩

end Go.Proofs.Ytbedanlkkidkkab
