/- The law OctetSums. -/
import Derived.Test.YtbedanlkkidkkaaOct3
import Derived.Test.YtbedanlkkidkkaaCrc3
import Derived.Test.YtbedanlkkidkkaaOct6
import Derived.Deep.RegionWith
namespace Go.Proofs.Ytbedanlkkidkkaa
open Go Go.RowKit
set_option linter.unusedSimpArgs false

def three (s t : ByteArray) (i : Nat) : ByteArray := if i = 0 then s else if i = 1 then ⟨#[]⟩ else t
def one (s : ByteArray) (_ : Nat) : ByteArray := s
theorem crcF_one (s : ByteArray) : crcF (one s) 1 = rcrcS 4294967295 s.data.toList := by simp only [crcF, one, crcS_eq]
theorem crcF_three (s t : ByteArray) : crcF (three s t) 3 = rcrcS 4294967295 (s ++ t).data.toList := by
  simp only [crcF, three, crcS_eq, ByteArray.data_append, Array.toList_append, rcrcS_append]
  simp [rcrcS]
theorem one_cells (w : World) (s : ByteArray) : ∀ i, i < 1 → (w.alloc (.cells #[.string s] 9)).cell? ⟨w.heap.size, 0 + i, none⟩ = some (.string (one s i)) :=
  lit_cells w _ _ 1 (one s) (fun i hi => by match i, hi with | 0, _ => rfl)
theorem three_cells (w : World) (s t : ByteArray) : ∀ i, i < 3 → (w.alloc (.cells #[.string s, .string ⟨#[]⟩, .string t] 9)).cell? ⟨w.heap.size, 0 + i, none⟩ = some (.string (three s t i)) :=
  lit_cells w _ _ 3 (three s t) (fun i hi => by match i, hi with | 0, _ => rfl | 1, _ => rfl | 2, _ => rfl)
theorem crc_one (s : ByteArray) (w : World) (hs : s.size ≤ 1000000000) :
    Calls Try.prog 9 #[.slice (some ⟨w.heap.size, 0, none⟩) 1 1] (w.alloc (.cells #[.string s] 9)) fun e w' => e = .returned (.int .u32 (4294967295 - rcrcS 4294967295 s.data.toList : Nat)) ∧ Below w.heap.size w w' := by
  have h := crc_any (one s) w.heap.size 0 1 1 (w.alloc (.cells #[.string s] 9)) (by simp) (by omega) (fun _ _ => hs) (one_cells w s)
  rw [crcF_one] at h
  exact h.mono fun e w' ⟨he, hB⟩ => ⟨he, ((Below.refl _ w).alloc (Nat.le_refl _) _).trans (hB.mono (by simp))⟩
theorem crc_three (s t : ByteArray) (w : World) (hs : s.size ≤ 1000000000) (ht : t.size ≤ 1000000000) :
    Calls Try.prog 9 #[.slice (some ⟨w.heap.size, 0, none⟩) 3 3] (w.alloc (.cells #[.string s, .string ⟨#[]⟩, .string t] 9)) fun e w' => e = .returned (.int .u32 (4294967295 - rcrcS 4294967295 (s ++ t).data.toList : Nat)) ∧ Below w.heap.size w w' := by
  have h := crc_any (three s t) w.heap.size 0 3 3 (w.alloc (.cells #[.string s, .string ⟨#[]⟩, .string t] 9)) (by simp) (by omega) (fun i _ => by unfold three; split <;> (try split) <;> first | exact hs | exact ht | decide) (three_cells w s t)
  rw [crcF_three] at h
  exact h.mono fun e w' ⟨he, hB⟩ => ⟨he, ((Below.refl _ w).alloc (Nat.le_refl _) _).trans (hB.mono (by simp))⟩

theorem conv_after (y : Int) {w w5 : World} (hB : Below (w.alloc (.cells #[.int .u8 y] 5)).heap.size (w.alloc (.cells #[.int .u8 y] 5)) w5) :
    (convert 29 9 (.slice (some ⟨w.heap.size, 0, none⟩) 1 1)).run Try.prog w5 = .ok (.string ⟨#[UInt8.ofNat y.toNat]⟩) w5 := by
  have := run_convert_bytes_arg (P := Try.prog) w5 29 5 Try.underlying29 Try.underlying5 w.heap.size 0 1 1 [y] rfl (fun i hi => by
    obtain rfl : i = 0 := by omega
    exact ((RowAt.new w #[.int .u8 y] 5).below hB (by simp)).cell rfl) 9 Try.underlying9
  rw [this]; rfl
theorem xor_max (r : Nat) (h : r < 4294967296) : bits .xor .u32 (r : Int) 4294967295 = ((r ^^^ 4294967295 : Nat) : Int) := u32_xor_nat r 4294967295 h (by decide)
theorem xor_low (r : Nat) (h : r < 4294967296) : bits .xor .u32 (r : Int) 16777215 = ((r ^^^ 16777215 : Nat) : Int) := u32_xor_nat r 16777215 h (by decide)
theorem size32 : (Try.prog.info? 24).map (·.size) = some 1 := by kernel_rfl

set_option maxHeartbeats 8000000 in
set_option maxRecDepth 100000 in
theorem octetSums_core (s t S : ByteArray) (at' bit : Nat) (ha : at' < 65536) (hb : bit < 256) (h1 : s.size + t.size ≤ 2000) (hS : s ++ t = S) (h0 : 1 ≤ S.size) (w : World) :
    Calls Try.prog 3 #[.string s, .string t, .int .u16 at', .int .u8 bit] w fun e w' => e = .returned (.bool true) ∧ Below w.heap.size w w' := by
  have hsz : S.size ≤ 2000 := by rw [← hS, ByteArray.size_append]; exact h1
  have hd : decide ((2000 : Int) < (s.size : Int) + (t.size : Int)) = false := by simp; omega
  have hwl := rcrcS_lt (n := 4294967295) (by omega) S.data.toList
  have K1 := fun w => crc_one S w (by omega)
  have K3 := fun w => crc_three s t w (by omega) (by omega)
  rw [hS] at K3
  have R1 := fun w => rcrc_any S w (by omega)
  obtain ⟨want, hw0⟩ : ∃ x, x = 4294967295 - rcrcS 4294967295 S.data.toList := ⟨_, rfl⟩
  rw [← hw0] at K1 K3 R1
  have K3d : ∀ w : World, Calls Try.prog 9 #[.slice (some ⟨w.heap.size, 0, none⟩) 3 3] (w.alloc (.cells #[.string s, .string ⟨#[]⟩, .string t] 9)).drew fun e w' => e = .returned (.int .u32 (want : Nat)) ∧ Below w.heap.size w w' :=
    fun w => (K3 w.drew).mono fun e w' ⟨he, hB⟩ => ⟨he, below_drew_l hB⟩
  replace K1 := hid K1; have K3 := hid K3d; clear K3d; replace R1 := hid R1; have HW := hid hw0; clear hw0
  obtain ⟨x, hx0⟩ : ∃ x, x = at' % 256 := ⟨_, rfl⟩
  have hx : x < 256 := by omega
  have hx8 : IntKind.u8.wrap (at' : Int) = (x : Int) := by rw [IntKind.wrap_u8]; omega
  have hxx : bits .xor .u8 (x : Int) 255 = ((x ^^^ 255 : Nat) : Int) := u8_xor_nat x 255 hx (by decide)
  clear hx0
  obtain ⟨y, hy0⟩ : ∃ y, y = x ^^^ 255 := ⟨_, rfl⟩
  rw [← hy0] at hxx
  have HY := hid hy0; clear hy0
  have hix := fun w => run_index_row (P := Try.prog) 27 24 256 .u32 Try.underlying27 Try.underlying24 size32 .u8 (tabA 256) x (.int .u32 (tabN x : Nat)) hx (by rw [tabA, rowA_get _ _ _ hx]; simp [tabF, hx]) w
  have hcv := fun w => conv_one (P := Try.prog) 29 9 5 Try.underlying29 Try.underlying5 Try.underlying9 (y : Int) w
  rw [Int.toNat_natCast] at hcv
  obtain ⟨Y, hY0⟩ : ∃ Y : ByteArray, Y = ⟨#[UInt8.ofNat y]⟩ := ⟨_, rfl⟩
  have RY := fun w => rcrc_any Y w (by rw [hY0]; exact Nat.le_trans (Nat.le_refl 1) (by omega))
  have hYl := rcrcS_lt (n := 4294967295) (by omega) Y.data.toList
  obtain ⟨r, hr0⟩ : ∃ r, r = 4294967295 - rcrcS 4294967295 Y.data.toList := ⟨_, rfl⟩
  rw [← hr0] at RY
  have hrl : r < 4294967296 := by omega
  have hx1 := xor_max r hrl
  have hx2 := xor_low (r ^^^ 4294967295) (Nat.xor_lt_two_pow (n := 32) hrl (by decide))
  have htab : (r ^^^ 4294967295) ^^^ 16777215 = tabN x := by
    have := tab_law ⟨x, hx⟩
    simp only at this
    rw [this, hr0, hY0, HY.out]
  rw [htab] at hx2
  rw [← hY0] at hcv
  have HY0 := hid hY0
  replace RY := hid RY
  clear hr0 htab hYl hY0
  have hcb := fun w => Lib.run_convert_string_bytes (P := Try.prog) w 9 29 5 S Try.underlying9 Try.underlying29 Try.underlying5
  have e0 : ((S.size : Int) == 0) = false := by rw [beq_eq_false_iff_ne]; omega
  obtain ⟨j, hj0⟩ : ∃ j, j = at' % S.size := ⟨_, rfl⟩
  have hj : j < S.size := by rw [hj0]; exact Nat.mod_lt _ (by omega)
  have hjm : (at' : Int) % (S.size : Int) = (j : Int) := by rw [hj0]; simp
  clear hj0
  have hcl := bytes_cell (5) S j hj
  have hfr := bytes_free 5 S j hj
  obtain ⟨d, hd0⟩ : ∃ d, d = 2 ^ (bit % 8) := ⟨_, rfl⟩
  have hdl : d < 256 := by rw [hd0]; exact Nat.lt_of_lt_of_le (Nat.pow_lt_pow_right (by omega) (show bit % 8 < 8 by omega)) (by decide)
  have hdp : 1 ≤ d := by rw [hd0]; exact Nat.pow_pos (by omega)
  have hdi : (2 : Int) ^ (bit % 8) % 256 = (d : Int) := by
    have : ((2 ^ (bit % 8) : Nat) : Int) = (2 : Int) ^ (bit % 8) := by simp
    rw [← this, ← hd0]; omega
  clear hd0
  have hvx := u8_xor_nat S[j].toNat d (byte_lt _) hdl
  have hvl : S[j].toNat ^^^ d < 256 := Nat.xor_lt_two_pow (n := 8) (byte_lt _) hdl
  have hvn : S[j].toNat ^^^ d ≠ S[j].toNat := fun h => by
    have h2 : S[j].toNat ^^^ d = S[j].toNat ^^^ 0 := by rw [h, Nat.xor_zero]
    have := xor_lc h2
    omega
  obtain ⟨v, hv0⟩ : ∃ v, v = S[j].toNat ^^^ d := ⟨_, rfl⟩
  rw [← hv0] at hvx hvl hvn
  clear hv0
  have hbk := fun c w b hb => bytes_back 29 9 5 Try.underlying29 Try.underlying5 Try.underlying9 S j hj c v hvl w b hb
  obtain ⟨S', hS'⟩ : ∃ S', S' = setS S j (UInt8.ofNat v) := ⟨_, rfl⟩
  rw [← hS'] at hbk
  have hwn : rcrcS 4294967295 S'.data.toList ≠ rcrcS 4294967295 S.data.toList := by
    rw [hS']
    refine rcrcS_set (by omega) _ j (by simpa using hj) _ ?_
    intro h
    apply hvn
    have h2 := congrArg UInt8.toNat h
    rw [UInt8.toNat_ofNat_of_lt' hvl] at h2
    exact h2
  have hsz' : S'.size = S.size := by rw [hS', setS_size]
  have K1' : ∀ (w : World) (b : Nat), w.heap.size = b → Calls Try.prog 9 #[.slice (some ⟨b, 0, none⟩) 1 1] (w.alloc (.cells #[.string S'] 9)) fun e w' => e = .returned (.int .u32 (4294967295 - rcrcS 4294967295 S'.data.toList : Nat)) ∧ Below w.heap.size w w' :=
    fun w b hb => by subst hb; exact crc_one S' w (by omega)
  have hwl' := rcrcS_lt (n := 4294967295) (by omega) S'.data.toList
  obtain ⟨want', hw1⟩ : ∃ x, x = 4294967295 - rcrcS 4294967295 S'.data.toList := ⟨_, rfl⟩
  rw [← hw1] at K1'
  have K1' := hid K1'
  have hne : ((want' : Int) != (want : Int)) = true := by
    rw [bne_iff_ne]; rw [hw1]
    have := HW.out
    omega
  clear hw1 hS' hwn hsz' hwl' hvn
  go_enter Try.func3, Try.ntmps3
  go_wp2_with (first | (go_at_call 7; refine (awake_any _).mono ?_; rintro e w1 ⟨rfl, hB1⟩) | (go_at_call 8; refine (R1.out _).mono ?_; rintro e w2 ⟨rfl, rfl⟩))
  go_region_with (first | (go_at_call 9; (with_reducible refine (K3.out _).mono ?_); rintro e w3 ⟨rfl, hB3⟩) | (go_at_call 9; (with_reducible refine (K1.out _).mono ?_); rintro e w4 ⟨rfl, hB4⟩) | (go_at_call 10; refine (table_any _).mono ?_; rintro e w5 ⟨rfl, hB5⟩; try (have hcv5 := conv_after (y : Int) hB5; rw [Int.toNat_natCast, ← HY0.out] at hcv5)) | (go_at_call 8; refine (RY.out _).mono ?_; rintro e w6 ⟨rfl, rfl⟩))
  all_goals
    go_wp2_with (go_at_call 9; refine (K1'.out _ _ (by simp)).mono ?_; rintro e w7 ⟨rfl, hB7⟩)
    go_ret
    refine ⟨rfl, below_cat hB7 (below_bytes_set _ _ _ _ ?_ _ (by simp))⟩
    repeat (first | assumption | with_reducible apply below_al | apply below_cat)

set_option maxHeartbeats 8000000 in
set_option maxRecDepth 100000 in
theorem octetSums_none (s t S : ByteArray) (at' bit : Nat) (ha : at' < 65536) (hb : bit < 256) (h1 : s.size + t.size ≤ 2000) (hS : s ++ t = S) (h0 : S.size ≤ 0) (w : World) :
    Calls Try.prog 3 #[.string s, .string t, .int .u16 at', .int .u8 bit] w fun e w' => e = .returned (.bool true) ∧ Below w.heap.size w w' := by
  have hsz : S.size ≤ 2000 := by rw [← hS, ByteArray.size_append]; exact h1
  have hd : decide ((2000 : Int) < (s.size : Int) + (t.size : Int)) = false := by simp; omega
  have hwl := rcrcS_lt (n := 4294967295) (by omega) S.data.toList
  have K1 := fun w => crc_one S w (by omega)
  have K3 := fun w => crc_three s t w (by omega) (by omega)
  rw [hS] at K3
  have R1 := fun w => rcrc_any S w (by omega)
  obtain ⟨want, hw0⟩ : ∃ x, x = 4294967295 - rcrcS 4294967295 S.data.toList := ⟨_, rfl⟩
  rw [← hw0] at K1 K3 R1
  have K3d : ∀ w : World, Calls Try.prog 9 #[.slice (some ⟨w.heap.size, 0, none⟩) 3 3] (w.alloc (.cells #[.string s, .string ⟨#[]⟩, .string t] 9)).drew fun e w' => e = .returned (.int .u32 (want : Nat)) ∧ Below w.heap.size w w' :=
    fun w => (K3 w.drew).mono fun e w' ⟨he, hB⟩ => ⟨he, below_drew_l hB⟩
  replace K1 := hid K1; have K3 := hid K3d; clear K3d; replace R1 := hid R1; have HW := hid hw0; clear hw0
  obtain ⟨x, hx0⟩ : ∃ x, x = at' % 256 := ⟨_, rfl⟩
  have hx : x < 256 := by omega
  have hx8 : IntKind.u8.wrap (at' : Int) = (x : Int) := by rw [IntKind.wrap_u8]; omega
  have hxx : bits .xor .u8 (x : Int) 255 = ((x ^^^ 255 : Nat) : Int) := u8_xor_nat x 255 hx (by decide)
  clear hx0
  obtain ⟨y, hy0⟩ : ∃ y, y = x ^^^ 255 := ⟨_, rfl⟩
  rw [← hy0] at hxx
  have HY := hid hy0; clear hy0
  have hix := fun w => run_index_row (P := Try.prog) 27 24 256 .u32 Try.underlying27 Try.underlying24 size32 .u8 (tabA 256) x (.int .u32 (tabN x : Nat)) hx (by rw [tabA, rowA_get _ _ _ hx]; simp [tabF, hx]) w
  have hcv := fun w => conv_one (P := Try.prog) 29 9 5 Try.underlying29 Try.underlying5 Try.underlying9 (y : Int) w
  rw [Int.toNat_natCast] at hcv
  obtain ⟨Y, hY0⟩ : ∃ Y : ByteArray, Y = ⟨#[UInt8.ofNat y]⟩ := ⟨_, rfl⟩
  have RY := fun w => rcrc_any Y w (by rw [hY0]; exact Nat.le_trans (Nat.le_refl 1) (by omega))
  have hYl := rcrcS_lt (n := 4294967295) (by omega) Y.data.toList
  obtain ⟨r, hr0⟩ : ∃ r, r = 4294967295 - rcrcS 4294967295 Y.data.toList := ⟨_, rfl⟩
  rw [← hr0] at RY
  have hrl : r < 4294967296 := by omega
  have hx1 := xor_max r hrl
  have hx2 := xor_low (r ^^^ 4294967295) (Nat.xor_lt_two_pow (n := 32) hrl (by decide))
  have htab : (r ^^^ 4294967295) ^^^ 16777215 = tabN x := by
    have := tab_law ⟨x, hx⟩
    simp only at this
    rw [this, hr0, hY0, HY.out]
  rw [htab] at hx2
  rw [← hY0] at hcv
  have HY0 := hid hY0
  replace RY := hid RY
  clear hr0 htab hYl hY0
  have hcb := fun w => Lib.run_convert_string_bytes (P := Try.prog) w 9 29 5 S Try.underlying9 Try.underlying29 Try.underlying5
  have e0 : ((S.size : Int) == 0) = true := by rw [beq_iff_eq]; omega
  have ew : ((want : Int) == 0) = true := by
    have : S = ByteArray.empty := ByteArray.ext (Array.eq_empty_of_size_eq_zero (Nat.le_zero.1 h0))
    rw [HW.out, this]; rfl
  go_enter Try.func3, Try.ntmps3
  go_wp2_with (first | (go_at_call 7; refine (awake_any _).mono ?_; rintro e w1 ⟨rfl, hB1⟩) | (go_at_call 8; refine (R1.out _).mono ?_; rintro e w2 ⟨rfl, rfl⟩))
  go_region_with (first | (go_at_call 9; (with_reducible refine (K3.out _).mono ?_); rintro e w3 ⟨rfl, hB3⟩) | (go_at_call 9; (with_reducible refine (K1.out _).mono ?_); rintro e w4 ⟨rfl, hB4⟩) | (go_at_call 10; refine (table_any _).mono ?_; rintro e w5 ⟨rfl, hB5⟩; try (have hcv5 := conv_after (y : Int) hB5; rw [Int.toNat_natCast, ← HY0.out] at hcv5)) | (go_at_call 8; refine (RY.out _).mono ?_; rintro e w6 ⟨rfl, rfl⟩))
  all_goals
    go_wp2_with (fail)
    go_ret
    refine ⟨rfl, below_cat (bytes_below _ _ _) ?_⟩
    repeat (first | assumption | with_reducible apply below_al | apply below_cat)

theorem octetSums_empty (s t : ByteArray) (at' bit : Nat) (ha : at' < 65536) (hb : bit < 256) (hS : (s ++ t).size = 0) (w : World) :
    Calls Try.prog 3 #[.string s, .string t, .int .u16 at', .int .u8 bit] w fun e w' => e = .returned (.bool true) ∧ Below w.heap.size w w' := by
  exact octetSums_none s t (s ++ t) at' bit ha hb (by have := ByteArray.size_append (a := s) (b := t); omega) rfl (by omega) w

theorem octetSums_big (s t : ByteArray) (a b : Int) (_hs : s.size ≤ 140737488351232) (_ht : t.size ≤ 140737488351232) (hm : 2000 < s.size + t.size) (w : World) :
    Calls Try.prog 3 #[.string s, .string t, .int .u16 a, .int .u8 b] w fun e w' => e = .returned (.bool true) ∧ Below w.heap.size w w' := by
  have hd : decide ((2000 : Int) < (s.size : Int) + (t.size : Int)) = true := by simp; omega
  go_enter Try.func3, Try.ntmps3
  go_wp2_with (go_at_call 7; refine (awake_any _).mono ?_; rintro e w1 ⟨rfl, hB1⟩)
  go_ret
  exact ⟨rfl, hB1⟩

theorem octetSums_walk (s t : ByteArray) (a b : Int) (hs : s.size ≤ 140737488351232) (ht : t.size ≤ 140737488351232) (wa : (Lit.int .u16 a).wf = true) (wb : (Lit.int .u8 b).wf = true) (w : World) :
    Calls Try.prog 3 #[.string s, .string t, .int .u16 a, .int .u8 b] w fun e w' => e = .returned (.bool true) ∧ Below w.heap.size w w' := by
  obtain ⟨a1, a2⟩ := bounds_u16 wa
  obtain ⟨b1, b2⟩ := bounds_u8 wb
  obtain ⟨a, rfl⟩ := Int.eq_ofNat_of_zero_le a1
  obtain ⟨b, rfl⟩ := Int.eq_ofNat_of_zero_le b1
  by_cases hm : 2000 < s.size + t.size
  · exact octetSums_big s t a b hs ht hm w
  · by_cases h0 : (s ++ t).size = 0
    · exact octetSums_empty s t a b (by omega) (by omega) h0 w
    · exact octetSums_core s t (s ++ t) a b (by omega) (by omega) (by omega) rfl (by omega) w

end Go.Proofs.Ytbedanlkkidkkaa
