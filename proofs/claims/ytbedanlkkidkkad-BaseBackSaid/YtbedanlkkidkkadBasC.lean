/- The law BaseBack. -/
import Derived.Test.YtbedanlkkidkkadBasB
import Derived.Test.YtbedanlkkidkkadOct6
namespace Go.Proofs.Ytbedanlkkidkkad
open Go Go.RowKit
set_option linter.unusedSimpArgs false

theorem decV_none {L : ByteArray} {k : Nat} {f : Bool} {t : List UInt8} (h : decP L k f t = none) : decV L k f t = .tuple #[.string ⟨#[]⟩, .int .i64 4] := by rw [decV, h]
theorem decV_some {L : ByteArray} {k : Nat} {f : Bool} {t o : List UInt8} (h : decP L k f t = some o) : decV L k f t = .tuple #[.string ⟨o.toArray⟩, .int .i64 0] := by rw [decV, h]
theorem size_zero {k : Nat} {f : Bool} {n : Nat} (hk : 0 < k) (h : sizeN k f n = 0) : n = 0 := by
  unfold sizeN at h
  have h1 : (8 * n + (k - 1)) / k = 0 := (Nat.add_eq_zero_iff.1 h).1
  rcases Nat.eq_zero_or_pos n with h2 | h2
  · exact h2
  · have := Nat.div_pos (show k ≤ 8 * n + (k - 1) by omega) hk
    omega

set_option maxRecDepth 100000 in
set_option maxHeartbeats 4000000 in
theorem back_main (s : ByteArray) (hs : s.size ≤ 1000) (c n at' by' : Nat) (hc : c ≤ 255) (hn : n = c % 3) (hat : at' ≤ 255) (hby : by' ≤ 255) (w : World) :
    Calls Try.prog 6 #[.string s, .int .u8 (c : Int), .int .u8 (at' : Int), .int .u8 (by' : Int)] w fun e w' => e = .returned (.bool true) ∧ Below w.heap.size w w' := by
  have hgt : decide ((1000 : Int) < (s.size : Int)) = false := by rw [decide_eq_false_iff_not]; omega
  have hcn : (c : Int) % 3 = (n : Int) := by omega
  have hn2 : n ≤ 2 := by omega
  have hG := kind_good n
  have LA := fun w => alphabet_any n w
  have LE := fun w => encode_any (KL n) (Kk n) (Kf n) hG s (by omega) w
  have LDA := fun (t : ByteArray) (ht : t.size ≤ 10000) w => decode_any (KL n) (Kk n) (Kf n) hG t ht w
  unfold alpha at LA LE LDA
  obtain ⟨L, hL⟩ : ∃ L, L = KL n := ⟨_, rfl⟩
  obtain ⟨k, hk⟩ : ∃ k, k = Kk n := ⟨_, rfl⟩
  obtain ⟨f, hf⟩ : ∃ f, f = Kf n := ⟨_, rfl⟩
  rw [← hL, ← hk, ← hf] at LA LE LDA hG
  have hk46 := hG.k46
  obtain ⟨T, hT⟩ : ∃ T : ByteArray, T = ⟨(enc L k f s.data.toList).toArray⟩ := ⟨_, rfl⟩
  have hTl : T.data.toList = enc L k f s.data.toList := by rw [hT]
  have hTs : T.size = sizeN k f s.size := by
    have h1 := enc_size (L := L) (fill := f) (show 0 < k by omega) s.data.toList
    rw [show s.data.toList.length = s.size by simp] at h1
    rw [← h1, ← hTl]; simp
  have hTb : T.size ≤ 9000 := by
    rw [hTs]
    have h4 : (8 * s.size + (k - 1)) / k ≤ 8 * s.size + (k - 1) := Nat.div_le_self _ _
    unfold sizeN padN; split <;> omega
  rw [← hT] at LE
  have LD1 := fun w => LDA T (by omega) w
  rw [decV_some ((decP_iff hG T.data.toList s.data.toList).2 hTl.symm), show (⟨s.data.toList.toArray⟩ : ByteArray) = s from rfl] at LD1
  replace LA := hid LA
  replace LE := hid LE
  replace LD1 := hid LD1
  have hcb := fun w => Lib.run_convert_string_bytes (P := Try.prog) w 9 38 5 T Try.underlying9 Try.underlying38 Try.underlying5
  by_cases h0 : T.size = 0
  · have hs0 : s.size = 0 := size_zero (k := k) (f := f) (by omega) (by omega)
    have hse : s.toList.isEmpty = true := by rw [ByteArray.toList_eq, List.isEmpty_iff]; exact List.eq_nil_of_length_eq_zero (by simpa using hs0)
    have e0 : ((T.size : Int) == 0) = true := by rw [beq_iff_eq]; omega
    have e0i : ((T.size : Nat) : Int) = 0 := by omega
    clear hL hk hf hT hTl hTs LDA hG hn hs0 h0
    go_enter Try.func6, Try.ntmps6
    go_wp2_with (first
      | (go_at_call 7; refine (awake_any _).mono ?_; rintro e w1 ⟨rfl, hB1⟩)
      | (go_at_call 8; refine (LA.out _).mono ?_; rintro e w2 ⟨rfl, hB2⟩)
      | (go_at_call 9; with_reducible refine (LE.out _).mono ?_; rintro e w3 ⟨rfl, hB3⟩
         have r63 := (RowAt.new w2 #[.string L, .int .i64 k, .bool f] 24).below hB3 (by simp)
         have a03 : w3.cell? ⟨w2.heap.size, 0, none⟩ = some (.string L) := r63.cell rfl; have a13 : w3.cell? ⟨w2.heap.size, 1, none⟩ = some (.int .i64 k) := r63.cell rfl; have a23 : w3.cell? ⟨w2.heap.size, 2, none⟩ = some (.bool f) := r63.cell rfl)
      | (go_at_call 14; with_reducible refine (LD1.out _).mono ?_; rintro e w4 ⟨rfl, hB4⟩))
    go_ret
    exact ⟨rfl, below_cat (bytes_below _ _ _) (by repeat (first | assumption | with_reducible apply below_al | apply below_cat))⟩
  · have e0 : ((T.size : Int) == 0) = false := by rw [beq_eq_false_iff_ne]; omega
    obtain ⟨j, hj0⟩ : ∃ j, j = at' % T.size := ⟨_, rfl⟩
    have hj : j < T.size := by rw [hj0]; exact Nat.mod_lt _ (by omega)
    have hjm : (at' : Int) % (T.size : Int) = (j : Int) := by rw [hj0]; simp
    have hjT : (j : Int) < (T.size : Int) := by omega
    have hTp : (0 : Int) < (T.size : Int) := by omega
    clear hj0
    have hcl := bytes_cell (5) T j hj
    have hfr := bytes_free 5 T j hj
    have hvx := u8_xor_nat T[j].toNat by' (byte_lt _) (by omega)
    have hvl : T[j].toNat ^^^ by' < 256 := Nat.xor_lt_two_pow (n := 8) (byte_lt _) (by omega)
    obtain ⟨v, hv0⟩ : ∃ v, v = T[j].toNat ^^^ by' := ⟨_, rfl⟩
    rw [← hv0] at hvx hvl
    have hbk := fun c w b hb => bytes_back 38 9 5 Try.underlying38 Try.underlying5 Try.underlying9 T j hj c v hvl w b hb
    obtain ⟨T', hT'⟩ : ∃ T', T' = setS T j (UInt8.ofNat v) := ⟨_, rfl⟩
    rw [← hT'] at hbk
    have hT's : T'.size = T.size := by rw [hT', setS_size]
    have hT'l : T'.data.toList = T.data.toList.set j (UInt8.ofNat v) := by rw [hT']; unfold setS; simp
    have LD2 := fun w => LDA T' (by omega) w
    -- what comes back is the text just if nothing was turned
    have key : decP L k f T'.data.toList = none ∨ ∃ o, decP L k f T'.data.toList = some o ∧ ((⟨o.toArray⟩ : ByteArray).toList == s.toList) = ((by' : Int) == 0) := by
      cases hd : decP L k f T'.data.toList with
      | none => exact .inl rfl
      | some o =>
        refine .inr ⟨o, rfl, ?_⟩
        have ho := (decP_iff hG _ _).1 hd
        rw [toList_beq]
        by_cases hb0 : by' = 0
        · have e1 : T'.data.toList = T.data.toList := by
            rw [hT'l, hv0, hb0, Nat.xor_zero, UInt8.ofNat_toNat]
            have : T[j] = T.data.toList[j]'(by simpa using hj) := rfl
            rw [this, List.set_getElem_self]
          have e2 : o = s.data.toList := enc_inj hG (by rw [ho, e1, hTl])
          have e3 : (⟨o.toArray⟩ : ByteArray) = s := by rw [e2]
          rw [decide_eq_true e3, hb0]; rfl
        · have hne : (⟨o.toArray⟩ : ByteArray) ≠ s := by
            intro e
            have e2 : o = s.data.toList := by rw [← e]
            have e3 : T'.data.toList = T.data.toList := by rw [← ho, e2, hTl]
            have e4 : (T.data.toList.set j (UInt8.ofNat v))[j]? = T.data.toList[j]? := by rw [← hT'l, e3]
            rw [List.getElem?_set_self (by simpa using hj), List.getElem?_eq_getElem (by simpa using hj)] at e4
            have e5 : UInt8.ofNat v = T[j] := Option.some.inj e4
            have e6 := congrArg UInt8.toNat e5
            rw [UInt8.toNat_ofNat_of_lt' hvl, hv0] at e6
            have e7 : T[j].toNat ^^^ by' = T[j].toNat ^^^ 0 := by rw [e6, Nat.xor_zero]
            have e8 := congrArg (fun x => T[j].toNat ^^^ x) e7
            simp only [← Nat.xor_assoc, Nat.xor_self, Nat.zero_xor] at e8
            exact hb0 e8
          rw [decide_eq_false hne]
          exact (beq_eq_false_iff_ne.2 (by omega)).symm
    have hbw : ∀ (w4 : World) (b : Nat) (i : Nat), b < w4.heap.size → (Lib.bytesWorld w4 5 T).cell? ⟨b, i, none⟩ = w4.cell? ⟨b, i, none⟩ := fun w4 b i hb => Lib.bytesWorld_old w4 5 T ⟨b, i, none⟩ hb
    replace hbw := hid hbw
    replace hT'l := hid hT'l
    replace hTl := hid hTl
    replace hv0 := hid hv0
    replace hTs := hid hTs
    replace hn := hid hn
    clear hL hk hf hT LDA hT'
    rcases key with hd | ⟨o, hd, hkey⟩
    · rw [decV_none hd] at LD2
      replace LD2 := hid LD2
      clear hd hG hT's
      go_enter Try.func6, Try.ntmps6
      go_wp2_with (first
        | (go_at_call 7; refine (awake_any _).mono ?_; rintro e w1 ⟨rfl, hB1⟩)
        | (go_at_call 8; refine (LA.out _).mono ?_; rintro e w2 ⟨rfl, hB2⟩)
        | (go_at_call 9; with_reducible refine (LE.out _).mono ?_; rintro e w3 ⟨rfl, hB3⟩
           have r63 := (RowAt.new w2 #[.string L, .int .i64 k, .bool f] 24).below hB3 (by simp)
           have a03 : w3.cell? ⟨w2.heap.size, 0, none⟩ = some (.string L) := r63.cell rfl; have a13 : w3.cell? ⟨w2.heap.size, 1, none⟩ = some (.int .i64 k) := r63.cell rfl; have a23 : w3.cell? ⟨w2.heap.size, 2, none⟩ = some (.bool f) := r63.cell rfl)
        | (go_at_call 14; with_reducible refine (LD1.out _).mono ?_; rintro e w4 ⟨rfl, hB4⟩
           have r64 := r63.below hB4 r63.lt
           have l24 : w2.heap.size < w4.heap.size := r64.lt
           have a04 : (Lib.bytesWorld w4 5 T).cell? ⟨w2.heap.size, 0, none⟩ = some (.string L) := (hbw.out _ _ _ l24).trans (r64.cell rfl)
           have a14 : (Lib.bytesWorld w4 5 T).cell? ⟨w2.heap.size, 1, none⟩ = some (.int .i64 k) := (hbw.out _ _ _ l24).trans (r64.cell rfl)
           have a24 : (Lib.bytesWorld w4 5 T).cell? ⟨w2.heap.size, 2, none⟩ = some (.bool f) := (hbw.out _ _ _ l24).trans (r64.cell rfl)
           have hcl4 := hcl w4 _ rfl; have hfr4 := hfr w4 _ rfl; have hbk4 := fun c => hbk c w4 _ rfl)
        | (go_at_call 14; with_reducible refine (LD2.out _).mono ?_; rintro e w5 ⟨rfl, hB5⟩))
      go_ret
      exact ⟨rfl, below_cat hB5 (below_bytes_set _ _ _ _ (by repeat (first | assumption | with_reducible apply below_al | apply below_cat)) _ rfl)⟩
    · rw [decV_some hd] at LD2
      obtain ⟨O, hO⟩ : ∃ O : ByteArray, O = ⟨o.toArray⟩ := ⟨_, rfl⟩
      rw [← hO] at LD2 hkey
      clear hO
      replace LD2 := hid LD2
      clear hd hG hT's
      go_enter Try.func6, Try.ntmps6
      go_wp2_with (first
        | (go_at_call 7; refine (awake_any _).mono ?_; rintro e w1 ⟨rfl, hB1⟩)
        | (go_at_call 8; refine (LA.out _).mono ?_; rintro e w2 ⟨rfl, hB2⟩)
        | (go_at_call 9; with_reducible refine (LE.out _).mono ?_; rintro e w3 ⟨rfl, hB3⟩
           have r63 := (RowAt.new w2 #[.string L, .int .i64 k, .bool f] 24).below hB3 (by simp)
           have a03 : w3.cell? ⟨w2.heap.size, 0, none⟩ = some (.string L) := r63.cell rfl; have a13 : w3.cell? ⟨w2.heap.size, 1, none⟩ = some (.int .i64 k) := r63.cell rfl; have a23 : w3.cell? ⟨w2.heap.size, 2, none⟩ = some (.bool f) := r63.cell rfl)
        | (go_at_call 14; with_reducible refine (LD1.out _).mono ?_; rintro e w4 ⟨rfl, hB4⟩
           have r64 := r63.below hB4 r63.lt
           have l24 : w2.heap.size < w4.heap.size := r64.lt
           have a04 : (Lib.bytesWorld w4 5 T).cell? ⟨w2.heap.size, 0, none⟩ = some (.string L) := (hbw.out _ _ _ l24).trans (r64.cell rfl)
           have a14 : (Lib.bytesWorld w4 5 T).cell? ⟨w2.heap.size, 1, none⟩ = some (.int .i64 k) := (hbw.out _ _ _ l24).trans (r64.cell rfl)
           have a24 : (Lib.bytesWorld w4 5 T).cell? ⟨w2.heap.size, 2, none⟩ = some (.bool f) := (hbw.out _ _ _ l24).trans (r64.cell rfl)
           have hcl4 := hcl w4 _ rfl; have hfr4 := hfr w4 _ rfl; have hbk4 := fun c => hbk c w4 _ rfl)
        | (go_at_call 14; with_reducible refine (LD2.out _).mono ?_; rintro e w5 ⟨rfl, hB5⟩))
      go_ret
      exact ⟨rfl, below_cat hB5 (below_bytes_set _ _ _ _ (by repeat (first | assumption | with_reducible apply below_al | apply below_cat)) _ rfl)⟩

set_option maxRecDepth 100000 in
theorem back_big (s : ByteArray) (hs : decide ((1000 : Int) < (s.size : Int)) = true) (c a b : Int) (w : World) :
    Calls Try.prog 6 #[.string s, .int .u8 c, .int .u8 a, .int .u8 b] w fun e w' => e = .returned (.bool true) ∧ Below w.heap.size w w' := by
  go_enter Try.func6, Try.ntmps6
  go_wp2_with (go_at_call 7; refine (awake_any _).mono ?_; rintro e w1 ⟨rfl, hB1⟩)
  go_ret
  exact ⟨rfl, hB1⟩
theorem baseBack_walk (s : ByteArray) (c a b : Int) (_hs : s.size ≤ 140737488351232) (wc : (Lit.int .u8 c).wf = true) (wa : (Lit.int .u8 a).wf = true) (wb : (Lit.int .u8 b).wf = true) (w : World) :
    Calls Try.prog 6 #[.string s, .int .u8 c, .int .u8 a, .int .u8 b] w fun e w' => e = .returned (.bool true) ∧ Below w.heap.size w w' := by
  have hc := bounds_u8 wc
  have ha := bounds_u8 wa
  have hb := bounds_u8 wb
  by_cases h : s.size ≤ 1000
  · obtain ⟨m, rfl⟩ := Int.eq_ofNat_of_zero_le hc.1
    obtain ⟨a, rfl⟩ := Int.eq_ofNat_of_zero_le ha.1
    obtain ⟨b, rfl⟩ := Int.eq_ofNat_of_zero_le hb.1
    exact back_main s h m (m % 3) a b (by omega) rfl (by omega) (by omega) w
  · exact back_big s (by rw [decide_eq_true_iff]; omega) c a b w
end Go.Proofs.Ytbedanlkkidkkad
