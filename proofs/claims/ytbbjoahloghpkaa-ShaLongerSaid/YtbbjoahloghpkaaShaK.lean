/- The law ShaLonger: the walk. -/
import Derived.Test.YtbbjoahloghpkaaShaI
import Derived.Test.YtbbjoahloghpkaaShaC
import Derived.Test.YtbbjoahloghpkaaLeav
namespace Go.Proofs.Ytbbjoahloghpkaa
open Go Go.RowKit
set_option linter.unusedSimpArgs false
attribute [local go_sem] Oper.semAt_some

set_option maxRecDepth 100000 in
theorem longer_big (s : ByteArray) (hbig : decide ((1000 : Int) < (s.size : Int)) = true) (w : World) :
    CallsIn Fence.wide 0 Try.prog 5 #[.string s] w fun e w' => e = .returned (.bool true) ∧ Below w.heap.size w w' := by
  have hbig' : decide (1000 < s.size) = true := by rw [decide_eq_true_iff] at hbig ⊢; omega
  refine callsIn_of_wp_marks Try.func5 rfl trivial ?_
  simp only [Try.ntmps5, List.size_toArray, List.length_cons, List.length_nil, Nat.reduceAdd, Nat.reduceSub, Array.replicate_succ, Array.replicate_zero, List.push_toArray, List.append_toArray, List.nil_append, List.cons_append]
  gi_wp2_with (refine ⟨trivial, rfl, ?_⟩; gi_at_call 6; refine (callsIn_wide.2 (shaAwake_any _)).mono ?_; rintro e w1 ⟨rfl, hB1⟩)
  exact leave_empty ⟨_, results_tmp rfl _ _ _, rfl, hB1⟩
set_option maxRecDepth 100000 in
set_option maxHeartbeats 4000000 in
theorem longer_small (s : ByteArray) (hs : s.size ≤ 1000) (w : World) :
    CallsIn Fence.wide 0 Try.prog 5 #[.string s] w fun e w' => e = .returned (.bool true) ∧ Below w.heap.size w w' := by
  have LB := fun w => blocks_make s (by omega) w
  have hpm := padS_mod s
  have hpl := padS_le s
  have hpz := padS_size s
  have hpre := padS_prefix s
  obtain ⟨hmk1, hmk2⟩ := padS_mark s
  obtain ⟨p, hp⟩ : ∃ p, p = padS s := ⟨_, rfl⟩
  have LI := blocks_on p (by rw [hp]; omega) (by rw [hp]; exact hpm)
  rw [← hp] at LB hpm hpl hpre hpz hmk1
  have LH := fun w => shp_strings_HasPrefix p s w
  rw [hpre] at LH
  obtain ⟨c, hc⟩ : ∃ c, c = p[s.size].toNat := ⟨_, rfl⟩
  have hc128 : c = 128 := by rw [hc]; simp only [hp]; exact hmk2
  have hidx := fun w => run_index_byte (P := Try.prog) 9 p .i64 s.size c Try.underlying9 hmk1 hc w
  rw [hc128] at hidx
  obtain ⟨N, hN⟩ : ∃ N, N = p.size / 64 := ⟨_, rfl⟩
  have hxs : blocksN p = blocksTo p N := by rw [hN]; rfl
  have hall : p.extract 0 (64 * N) = p := by rw [hN]; exact extract_all hpm
  have hcount : ∃ m : Nat, (m = 1 ∨ m = 2) ∧ (decide ((s.size : Int) % 64 > 55) = decide (m = 2)) ∧ N = s.size / 64 + m := by
    unfold padK at hpz
    by_cases h : s.size % 64 > 55
    · exact ⟨2, .inr rfl, by rw [decide_eq_true (by omega)]; rfl, by omega⟩
    · exact ⟨1, .inl rfl, by rw [decide_eq_false (by omega)]; rfl, by omega⟩
  obtain ⟨m, hm12, hm55, hNm⟩ := hcount
  have hsm : decide ((1000 : Int) < (s.size : Int)) = false := by rw [decide_eq_false_iff_not]; omega
  have hsm' : decide (1000 < s.size) = false := by rw [decide_eq_false_iff_not]; omega
  have hlenN : ∀ pre x post, blocksTo p N = pre ++ x :: post → pre.length < N ∧ x = blk p pre.length := fun pre x post h => blocks_split h
  have hlN : (blocksTo p N).length = N := by simp [blocksTo]
  have hps : 64 * N ≤ 2000 := by omega
  replace LB := hid LB
  replace LI := hid LI
  replace LH := hid LH
  replace hxs := hid hxs
  replace hall := hid hall
  replace hNm := hid hNm
  replace hlenN := hid hlenN
  replace hlN := hid hlN
  replace hm55 := hid hm55
  replace hidx := hid hidx
  clear hpm hpl hpz hpre hmk1 hmk2 hp hc hc128 hN
  refine callsIn_of_wp_marks Try.func5 rfl trivial ?_
  simp only [Try.ntmps5, List.size_toArray, List.length_cons, List.length_nil, Nat.reduceAdd, Nat.reduceSub, Array.replicate_succ, Array.replicate_zero, List.push_toArray, List.append_toArray, List.nil_append, List.cons_append]
  gi_wp2_with (first
    | (refine ⟨trivial, rfl, ?_⟩; gi_at_call 6; refine (callsIn_wide.2 (shaAwake_any _)).mono ?_; rintro e w1 ⟨rfl, hB1⟩)
    | (refine ⟨trivial, rfl, ?_⟩; gi_at_call 15; with_reducible refine (callsIn_wide.2 (LB.out _)).mono ?_; rintro e W1 ⟨rfl, hbx, hB2⟩
       replace hbx := hid hbx
       replace hB2 := hid hB2))
  obtain ⟨A, hA⟩ : ∃ A, A = w1.heap.size := ⟨_, rfl⟩
  have hwA : w.heap.size ≤ A := by rw [hA]; exact hB1.size
  have r0 : RowAt W1 A 9 #[.string (p.extract 0 (64 * 0))] := by
    rw [hA, show p.extract 0 (64 * 0) = ⟨#[]⟩ by simp; rfl]
    exact ((RowAt.new w1 _ _).alloc _).below hB2.out (by simp; omega)
  have r1 : RowAt W1 (A + 1) 3 #[.int .i64 ((0 : Nat) : Int)] := by
    have := RowAt.new (w1.alloc (.cells #[.string ⟨#[]⟩] 9)) #[.int .i64 0] 3
    rw [World.size_alloc] at this
    rw [hA]
    exact this.below hB2.out (by simp)
  have hB : Below w.heap.size w W1 := below_cat hB2.out (below_al (below_al hB1 _) _)
  have hbA : A + 1 < W1.heap.size := r1.lt
  replace hbx := hbx.out
  rw [World.size_alloc, World.size_alloc, ← hA] at hbx
  have hbb : A + 2 < W1.heap.size := hbx.lt
  rw [← hA]
  clear hA hB1 hB2
  clear w1
  have hit := LI.out (A + 1 + 1) W1 hbx
  rw [hxs.out] at hit
  refine wp_iter_put (gf := 31) (lb := #[.pointer (some ⟨A + 1 + 1, 0, none⟩)]) rfl (enters_of Try.func31 (by kernel_rfl) rfl) hit
    (fun _ h => h.elim) (fun k hk => by subst hk; exact hbx.lt) (fun _ => rfl) (fun x => [(5, .string x)])
    (fun pre X => RowAt X A 9 #[.string (p.extract 0 (64 * pre.length))] ∧ RowAt X (A + 1) 3 #[.int .i64 (pre.length : Nat)] ∧ Below w.heap.size w X)
    (fun _ _ _ => False) ?hI ?hIx ⟨r0, r1, hB⟩ ?assign ?body ?done ?stop
  case hI =>
    rintro pre X Y ⟨h1, h2, h3⟩ hk
    have hT : ∀ k, (False ∨ twoOf W1.heap.size k) → A + 2 ≤ k := by rintro k (h | h | h); exact h.elim; all_goals omega
    exact ⟨hk.row h1 (fun x => by have := hT _ x; omega), hk.row h2 (fun x => by have := hT _ x; omega), below_kept h3 hk (Nat.le_refl _) (fun k x => by have := hT _ x; omega)⟩
  case hIx => exact fun _ _ _ _ h => h.elim
  case assign =>
    intro l x W K hK
    gi_wp2
    simpa [encB, putAll] using hK
  case body =>
    rintro pre x post X hx hXs _ ⟨h1, h2, h3⟩
    obtain ⟨hlt, hxe⟩ := hlenN.out pre x post hx
    obtain ⟨k, hk⟩ : ∃ k, k = pre.length := ⟨_, rfl⟩
    rw [← hk] at h1 h2 hlt hxe
    have hcat : p.extract 0 (64 * k) ++ x = p.extract 0 (64 * (k + 1)) := by rw [hxe]; exact blk_extract p k
    have hsz1 : (p.extract 0 (64 * k)).size ≤ 2000 := by rw [ByteArray.size_extract]; omega
    have hsz2 : x.size ≤ 2000 := by rw [hxe]; unfold blk; rw [ByteArray.size_extract]; omega
    obtain ⟨u, hu⟩ : ∃ u, u = p.extract 0 (64 * k) := ⟨_, rfl⟩
    rw [← hu] at h1 hcat hsz1
    have c1 : X.cell? ⟨A, 0, none⟩ = some (.string u) := h1.cell rfl
    have f1 := h1.free 0
    have c2 : X.cell? ⟨A + 1, 0, none⟩ = some (.int .i64 (k : Nat)) := h2.cell rfl
    have f2 := h2.free 0
    have hki : (k : Int) ≤ 2000 := by omega
    have hlen : (pre ++ [x]).length = k + 1 := by simp [hk]
    replace hk := hid hk
    replace hcat := hid hcat
    replace hu := hid hu
    replace hxe := hid hxe
    replace hlen := hid hlen
    clear hx
    simp only [putAll, encB, fold1, List.foldl_cons, List.foldl_nil, List.setIfInBounds_toArray, List.set_cons_zero, List.set_cons_succ]
    gi_wp2
    refine ⟨((Kept.refl _ _).setCell _ (.inl (by simp [twoOf] <;> omega)) _).setCell _ (.inl (by simp [twoOf] <;> omega)) _, ?_, ?_, (h3.setCell (by simp <;> omega) _).setCell (by simp <;> omega) _⟩
    · rw [hlen.out, ← hcat.out]
      exact (h1.set 0 _).other _ _ (by simp)
    · rw [hlen.out]
      exact (h2.other _ _ (by simp)).set 0 _
  case stop => exact fun _ _ _ _ _ _ _ h => h.elim
  case done =>
    rintro X hX ⟨h1, h2, h3⟩ hd
    rw [hlN.out] at h1 h2
    rw [hall.out] at h1
    have c1 : X.cell? ⟨A, 0, none⟩ = some (.string p) := h1.cell rfl
    have c2 : X.cell? ⟨A + 1, 0, none⟩ = some (.int .i64 (N : Nat)) := h2.cell rfl
    have hi := hidx.out
    have hsi : (s.size : Int) ≤ 1000 := by omega
    replace hd := hid hd
    replace h3 := hid h3
    rcases hm12 with rfl | rfl
    · have d1 : decide ((55 : Int) < (s.size : Int) % 64) = false := hm55.out
      have d2 : ((N : Int) == (s.size : Int) / 64 + 1) = true := by rw [beq_iff_eq]; have := hNm.out; omega
      gi_wp2_with (refine ⟨trivial, rfl, ?_⟩; gi_at_call 19; with_reducible refine (callsIn_wide.2 (LH.out _)).mono ?_; rintro e Y ⟨rfl, rfl⟩)
      exact leave_one hd.out ⟨_, results_tmp rfl _ _ _, rfl, below_kept h3.out ((Kept.refl (fun k => k = W1.heap.size) _).putObj _ _ (.inl rfl)) (Nat.le_refl _) (fun k hk => by omega)⟩
    · have d1 : decide ((55 : Int) < (s.size : Int) % 64) = true := hm55.out
      have d2 : ((N : Int) == (s.size : Int) / 64 + 2) = true := by rw [beq_iff_eq]; have := hNm.out; omega
      gi_wp2_with (refine ⟨trivial, rfl, ?_⟩; gi_at_call 19; with_reducible refine (callsIn_wide.2 (LH.out _)).mono ?_; rintro e Y ⟨rfl, rfl⟩)
      exact leave_one hd.out ⟨_, results_tmp rfl _ _ _, rfl, below_kept h3.out ((Kept.refl (fun k => k = W1.heap.size) _).putObj _ _ (.inl rfl)) (Nat.le_refl _) (fun k hk => by omega)⟩
theorem shaLonger_walk (s : ByteArray) (_hs : s.size ≤ 140737488351232) (w : World) :
    Calls Try.prog 5 #[.string s] w fun e w' => e = .returned (.bool true) ∧ Below w.heap.size w w' := by
  refine (callsIn_wide (n := 0)).1 ?_
  by_cases h : s.size ≤ 1000
  · exact longer_small s h w
  · exact longer_big s (by rw [decide_eq_true_iff]; omega) w
end Go.Proofs.Ytbbjoahloghpkaa
