/- Count, Bad, Valid. -/
import Derived.Test.YtbedanlkkidkkabUtf3
namespace Go.Proofs.Ytbedanlkkidkkab
open Go Go.RowKit
set_option linter.unusedSimpArgs false
attribute [local go_sem] Oper.semAt_some

theorem runesF_len : ∀ (k a : Nat) (l : List UInt8), (runesF k a l).length ≤ k
  | 0, _, _ => by simp [runesF]
  | k + 1, a, l => by
    unfold runesF
    split
    · simp
    · simp only [List.length_cons]; have := runesF_len k (a + ‹Nat›) (l.drop ‹Nat›); omega
theorem runesN_len (l : List UInt8) : (runesN l).length ≤ l.length := runesF_len _ _ _

theorem runes_make (s : ByteArray) (w : World) : Calls Try.prog 9 #[.string s] w fun e w' => e = .returned (.func (.func 20) #[] #[.pointer (some ⟨w.heap.size, 0, none⟩)]) ∧ w.alloc (.cells #[.string s] 9) = w' := by
  go_enter Try.func9, Try.ntmps9
  go_wp2
  go_ret
  exact ⟨rfl, rfl⟩

set_option maxRecDepth 100000 in
set_option maxHeartbeats 4000000 in
theorem count_any (s : ByteArray) (hs : s.size ≤ 140737488351232) (w : World) : Calls Try.prog 10 #[.string s] w fun e w' => e = .returned (.int .i64 ((runesN s.data.toList).length : Nat)) ∧ Below w.heap.size w w' := by
  refine (callsIn_wide (n := 0)).1 ?_
  refine callsIn_of_wp_marks Try.func10 rfl trivial ?_
  simp only [Try.ntmps10, List.size_toArray, List.length_cons, List.length_nil, Nat.reduceAdd, Nat.reduceSub, Array.replicate_succ, Array.replicate_zero, List.push_toArray, List.append_toArray, List.nil_append, List.cons_append]
  gi_wp2_with (refine ⟨trivial, rfl, ?_⟩; gi_at_call 9; refine (callsIn_wide.2 (runes_make s _)).mono ?_; rintro e w' ⟨rfl, rfl⟩)
  obtain ⟨W0, hW0⟩ : ∃ W0, (w.alloc (.cells #[.int .i64 0] 3)).alloc (.cells #[.string s] 9) = W0 := ⟨_, rfl⟩
  have hc : RowAt W0 w.heap.size 3 #[.int .i64 0] := by rw [← hW0]; exact (RowAt.new w _ _).alloc _
  have hbx : RowAt W0 (w.heap.size + 1) 9 #[.string s] := by rw [← hW0]; have := RowAt.new (w.alloc (.cells #[.int .i64 0] 3)) #[.string s] 9; rwa [World.size_alloc] at this
  have hB : Below w.heap.size w W0 := by rw [← hW0]; exact below_al (below_al (Below.refl _ _) _) _
  have hsz : w.heap.size + 2 ≤ W0.heap.size := by rw [← hW0]; simp
  rw [hW0]
  clear hW0
  refine wp_iter (gf := 20) (lb := #[.pointer (some ⟨w.heap.size + 1, 0, none⟩)]) rfl (enters_of Try.func20 (by kernel_rfl) rfl) (runes_on s hs (w.heap.size + 1) W0 hbx)
    (fun _ h => h.elim) (fun k hk => by subst hk; exact hbx.lt) (fun _ => rfl)
    (fun pre W => RowAt W w.heap.size 3 #[.int .i64 (pre.length : Nat)] ∧ Below w.heap.size w W) (fun _ _ _ => False) ?hI ?hIx ⟨hc, hB⟩
    (fun x a' _ => a' = { tmps := #[.string s, undef, .int .i64 0, .pointer (some ⟨w.heap.size, 0, none⟩), .string s, .func (.func 20) #[] #[.pointer (some ⟨w.heap.size + 1, 0, none⟩)], .int .i64 (x.1 : Nat), .int .i32 (x.2 : Nat), undef, undef, undef], defers := [] }) ?hAx ?assign ?body ?done ?stop
  case hI =>
    rintro pre X Y ⟨h1, h2⟩ hk
    exact ⟨hk.row h1 (fun h => by rcases h with h | h | h <;> first | exact h | omega), below_kept h2 hk (Nat.le_refl _) (fun k h => by rcases h with h | h | h; exact h.elim; all_goals omega)⟩
  case hIx => intro _ _ _ _ h; exact h.elim
  case hAx => intro _ _ _ _ h _; exact h
  case assign =>
    intro l pre x W K _ hi hK
    gi_wp2
    exact hK _ _ (Kept.refl _ _) hi (by simp [encR])
  case body =>
    rintro pre x post a' W hx hWs _ ⟨h1, h2⟩ rfl
    have hcell := h1.cell (j := 0) rfl
    have hfr := h1.free 0
    have hlen : pre.length < 140737488351232 := by
      have h3 := congrArg List.length hx
      simp only [List.length_append, List.length_cons] at h3
      have h4 := runesN_len s.data.toList
      have h5 : s.data.toList.length = s.size := by simp
      omega
    gi_wp2
    refine ⟨(Kept.refl _ _).setCell _ (.inl ?_) _, ?_, ?_⟩
    · rintro (h | h)
      · rcases h with h | h <;> simp at h <;> omega
      · simp at h
    · exact (h1.set 0 _).eqA (by simp)
    · exact h2.setCell (Nat.le_refl _) _
  case done =>
    rintro W hWs ⟨h1, h2⟩ hd
    have hcell := h1.cell (j := 0) rfl
    gi_wp2
    refine leave_one hd ⟨_, results_tmp rfl _ _ _, ?_, ?_⟩
    · rfl
    · exact below_kept h2 ((Kept.refl (fun k => k = W0.heap.size) _).putObj _ _ (.inl rfl)) (Nat.le_refl _) (fun k hk => by omega)
  case stop => intro _ _ _ _ _ _ _ h; exact h.elim

end Go.Proofs.Ytbedanlkkidkkab
