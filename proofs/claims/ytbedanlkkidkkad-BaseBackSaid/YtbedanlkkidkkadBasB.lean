/- The law BaseDecodes. -/
import Derived.Test.YtbedanlkkidkkadBas9
import Derived.Test.YtbedanlkkidkkadBasA
namespace Go.Proofs.Ytbedanlkkidkkad
open Go Go.RowKit
set_option linter.unusedSimpArgs false

theorem refV_some {L : ByteArray} {k : Nat} {fill : Bool} {t o : List UInt8} (h : decR L k fill t = some o) : refV L k fill t = .tuple #[.string ⟨o.toArray⟩, .bool true] := by
  unfold decR at h
  unfold refV
  split at h
  · cases h
  · rename_i vs hs
    rw [hs]
    split at h
    · rename_i he
      cases h
      simp only [he, decide_true]
    · cases h
theorem refV_none {L : ByteArray} {k : Nat} {fill : Bool} {t : List UInt8} (h : decR L k fill t = none) : ∃ X, refV L k fill t = .tuple #[.string X, .bool false] := by
  unfold decR at h
  unfold refV
  split at h
  · rename_i hs; exact ⟨_, by rw [hs]⟩
  · rename_i vs hs
    split at h
    · cases h
    · rename_i he
      exact ⟨_, by rw [hs]; simp only [he, decide_false]; rfl⟩
/-- The alphabet that is none reads the empty text alone. -/
theorem decode_none (t : ByteArray) (ht : t.size ≤ 10000) (w : World) : Calls Try.prog 14 #[.agg #[.string ⟨#[]⟩, .int .i64 0, .bool false], .string t] w fun e w' =>
    e = .returned (.tuple #[.string ⟨#[]⟩, .int .i64 (if t.size = 0 then 0 else 4)]) ∧ Below w.heap.size w w' := by
  have LE := hid fun (s : ByteArray) w => encode_none s w
  by_cases h0 : t.size = 0
  · rw [if_pos h0]
    have hte : t.toList.isEmpty = true := by
      rw [ByteArray.toList_eq, List.isEmpty_iff]; exact List.eq_nil_of_length_eq_zero (by simpa using h0)
    have h0i : ((t.size : Nat) : Int) = 0 := by omega
    have hcv : ∀ w, (convert 38 9 (.slice none 0 0)).run Try.prog w = .ok (.string ⟨#[]⟩) w := fun w => run_convert_bytes_nil w 38 5 Try.underlying38 Try.underlying5 _ _ 9 Try.underlying9
    have htl : t.toList = [] := by rw [ByteArray.toList_eq]; exact List.eq_nil_of_length_eq_zero (by simpa using h0)
    clear h0
    go_enter Try.func14, Try.ntmps14
    go_wp2
    go_step3
    go_wp2
    go_step3
    go_wp2
    refine wp_loop_rounds 1 ?_
    rw [rounds_succ]
    go_wp2_with (go_at_call 9; refine (LE.out _ _).mono ?_; rintro e w1 ⟨rfl, hB1⟩)
    try rw [Exit.noGoto_ret]
    go_ret2
    exact ⟨rfl, below_cat hB1 (below_al (Below.refl _ _) _)⟩
  · rw [if_neg h0]
    have hlt : decide ((0 : Int) < (t.size : Int)) = true := by rw [decide_eq_true_iff]; omega
    have hlti : (0 : Int) < (t.size : Int) := by omega
    have hltn : 0 < t.size := by omega
    have LI := hid fun (c : UInt8) w => indexByte_all ⟨#[]⟩ c w
    clear h0
    go_enter Try.func14, Try.ntmps14
    go_wp2
    go_step3
    go_wp2
    go_step3
    go_wp2
    generalize hW : World.alloc w _ = W
    have hr : RowAt W w.heap.size 24 #[.string ⟨#[]⟩, .int .i64 0, .bool false] := by rw [← hW]; exact RowAt.new _ _ _
    have hB : Below w.heap.size w W := by rw [← hW]; exact below_al (Below.refl _ _) _
    clear hW
    have e0 : ∀ x : Sub W, x.x.cell? ⟨w.heap.size, 0, none⟩ = some (.string ⟨#[]⟩) := fun x => x.cell hr rfl
    refine wp_loop_rounds 1 ?_
    rw [rounds_succ]
    go_wp2
    refine wp_region_sub (by kernel_rfl) (by kernel_rfl) ?_
    repeat (go_big_quiet_step (first
      | (go_at_call 26; with_reducible refine Sub.same _ (LI.out _ _))))
    refine wpQuiet_nil ?_
    intro x
    have e2 : x.x.cell? ⟨w.heap.size, 2, none⟩ = some (.bool false) := x.cell hr rfl
    go_wp2
    try rw [Exit.noGoto_ret]
    go_ret2
    exact ⟨rfl, below_cat x.h hB⟩

set_option maxRecDepth 100000 in
set_option maxHeartbeats 4000000 in
theorem decodes_main (t : ByteArray) (ht : t.size ≤ 1000) (c n : Nat) (hc : c ≤ 255) (hn : n = c % 3) (w : World) :
    Calls Try.prog 5 #[.string t, .int .u8 (c : Int)] w fun e w' => e = .returned (.bool true) ∧ Below w.heap.size w w' := by
  have hgt : decide ((1000 : Int) < (t.size : Int)) = false := by rw [decide_eq_false_iff_not]; omega
  have hcn : (c : Int) % 3 = (n : Int) := by omega
  have hn2 : n ≤ 2 := by omega
  have hG := kind_good n
  have hsame := dec_same hG t.data.toList
  have LA := fun w => alphabet_any n w
  have LD := fun w => decode_any (KL n) (Kk n) (Kf n) hG t (by omega) w
  have LR := fun w => refDecode_any n t (by omega) w
  have LN := fun w => decode_none t (by omega) w
  have hemp : t.toList.isEmpty = decide (t.size = 0) := by
    rw [Bool.eq_iff_iff, ByteArray.toList_eq, List.isEmpty_iff, decide_eq_true_iff, ← List.length_eq_zero_iff, show t.data.toList.length = t.size by simp]
  unfold alpha at LA LD
  obtain ⟨L, hL⟩ : ∃ L, L = KL n := ⟨_, rfl⟩
  obtain ⟨k, hk⟩ : ∃ k, k = Kk n := ⟨_, rfl⟩
  obtain ⟨f, hf⟩ : ∃ f, f = Kf n := ⟨_, rfl⟩
  rw [← hL, ← hk, ← hf] at LA LD LR hsame
  obtain ⟨V, hV⟩ : ∃ V, V = decV L k f t.data.toList := ⟨_, rfl⟩
  obtain ⟨U, hU⟩ : ∃ U, U = refV L k f t.data.toList := ⟨_, rfl⟩
  rw [← hV] at LD
  rw [← hU] at LR
  obtain ⟨z, hz⟩ : ∃ z : Int, z = if t.size = 0 then 0 else 4 := ⟨_, rfl⟩
  rw [← hz] at LN
  have hzb : (z == 0) = decide (t.size = 0) := by rw [hz]; split <;> rename_i h <;> simp [h]
  clear hz
  obtain ⟨bz, hbz⟩ : ∃ b, b = decide (t.size = 0) := ⟨_, rfl⟩
  rw [← hbz] at hzb hemp
  replace LA := hid LA
  replace LN := hid LN
  cases hd : decP L k f t.data.toList with
  | none =>
    have hV2 : V = .tuple #[.string ⟨#[]⟩, .int .i64 4] := by rw [hV, decV, hd]
    obtain ⟨X, hX⟩ := refV_none (hsame.symm.trans hd)
    rw [← hU] at hX
    rw [hV2] at LD
    rw [hX] at LR
    replace LD := hid LD
    replace LR := hid LR
    clear hL hk hf hV hU hV2 hX hd hsame hG hn hbz
    go_enter Try.func5, Try.ntmps5
    go_wp2_with (first
      | (go_at_call 7; refine (awake_any _).mono ?_; rintro e w1 ⟨rfl, hB1⟩)
      | (go_at_call 8; refine (LA.out _).mono ?_; rintro e w2 ⟨rfl, hB2⟩)
      | (go_at_call 14; with_reducible refine (LD.out _).mono ?_; rintro e w3 ⟨rfl, hB3⟩)
      | (go_at_call 15; refine (LR.out _).mono ?_; rintro e w4 ⟨rfl, hB4⟩)
      | (go_at_call 14; with_reducible refine (LN.out _).mono ?_; rintro e w5 ⟨rfl, hB5⟩))
    go_ret
    exact ⟨rfl, by repeat (first | assumption | with_reducible apply below_al | apply below_cat)⟩
  | some o =>
    have hV2 : V = .tuple #[.string ⟨o.toArray⟩, .int .i64 0] := by rw [hV, decV, hd]
    have hX := refV_some (hsame.symm.trans hd)
    rw [← hU] at hX
    rw [hV2] at LD
    rw [hX] at LR
    replace LD := hid LD
    replace LR := hid LR
    clear hL hk hf hV hU hV2 hX hd hsame hG hn hbz
    go_enter Try.func5, Try.ntmps5
    go_wp2_with (first
      | (go_at_call 7; refine (awake_any _).mono ?_; rintro e w1 ⟨rfl, hB1⟩)
      | (go_at_call 8; refine (LA.out _).mono ?_; rintro e w2 ⟨rfl, hB2⟩)
      | (go_at_call 14; with_reducible refine (LD.out _).mono ?_; rintro e w3 ⟨rfl, hB3⟩)
      | (go_at_call 15; refine (LR.out _).mono ?_; rintro e w4 ⟨rfl, hB4⟩)
      | (go_at_call 14; with_reducible refine (LN.out _).mono ?_; rintro e w5 ⟨rfl, hB5⟩))
    go_ret
    exact ⟨rfl, by repeat (first | assumption | with_reducible apply below_al | apply below_cat)⟩

set_option maxRecDepth 100000 in
theorem decodes_big (s : ByteArray) (hs : decide ((1000 : Int) < (s.size : Int)) = true) (c : Int) (w : World) :
    Calls Try.prog 5 #[.string s, .int .u8 c] w fun e w' => e = .returned (.bool true) ∧ Below w.heap.size w w' := by
  go_enter Try.func5, Try.ntmps5
  go_wp2_with (go_at_call 7; refine (awake_any _).mono ?_; rintro e w1 ⟨rfl, hB1⟩)
  go_ret
  exact ⟨rfl, hB1⟩
theorem baseDecodes_walk (s : ByteArray) (c : Int) (_hs : s.size ≤ 140737488351232) (wc : (Lit.int .u8 c).wf = true) (w : World) :
    Calls Try.prog 5 #[.string s, .int .u8 c] w fun e w' => e = .returned (.bool true) ∧ Below w.heap.size w w' := by
  have hb := bounds_u8 wc
  by_cases h : s.size ≤ 1000
  · obtain ⟨m, rfl⟩ := Int.eq_ofNat_of_zero_le hb.1
    exact decodes_main s h m (m % 3) (by omega) rfl w
  · exact decodes_big s (by rw [decide_eq_true_iff]; omega) c w
end Go.Proofs.Ytbedanlkkidkkad
