/- strconv.FormatUint at base 10, any number; digits.Text at any number. The table uint64pow10 as its initialiser lays it. -/
import Derived.Test.YtbbjoahloghpkaaGreatDoorDgB
import Derived.Test.YtbbjoahloghpkaaGreatDoorStcS
import Derived.Lib.AppendIntMem
namespace Go.Proofs.YtbbjoahloghpkaaGreatDoor
open Go Go.RowKit
set_option linter.unusedSimpArgs false

/-- The table reads so, whatever comes behind. -/
def PowTab (w : World) : Prop := Lib.TabBelow Tryz.prog w.heap.size w "internal/strconv.uint64pow10" .u64 Lib.pow10Tab
theorem PowTab.below {w w' : World} (h : PowTab w) (hb : Below w.heap.size w w') : PowTab w' := fun v hv => h v (hb.trans (hv.mono hb.size))

set_option maxRecDepth 100000 in
set_option maxHeartbeats 4000000 in
theorem formatIn_any (u : Nat) (hu64 : u < 18446744073709551616) (w : World) (ht : PowTab w) : Calls Tryz.prog 72 #[.int .u64 (u : Nat), .int .i64 10] w fun e w' => e = .returned (.string ⟨(Lib.decDigits u).toArray⟩) ∧ Below w.heap.size w w' := by
  by_cases hs : u < 100
  · have c := fun w => stcs_internal_strconv_small u hs w
    have h1 : (u : Int) < 100 := by omega
    have h1' : decide ((u : Int) < 100) = true := decide_eq_true h1
    replace c := hid c
    go_enter Tryz.func72, Tryz.ntmps72
    go_wp2_with (go_at_call 84; refine (c.out _).mono ?_; rintro e w1 ⟨rfl, rfl⟩)
    go_ret
    exact ⟨rfl, Below.refl _ _⟩
  · have h1 : ¬ (u : Int) < 100 := by omega
    have h1' : decide ((u : Int) < 100) = false := decide_eq_false h1
    have hu1 : 1 ≤ u := by omega
    have hnd20 : Lib.nDigits u ≤ 20 := by have := Lib.numDigits_eq u hu1 hu64; split at this <;> omega
    obtain ⟨nd, hnd⟩ : ∃ n, n = Lib.nDigits u := ⟨_, rfl⟩
    have hal : Tryz.prog.arrayLen 115 = 24 := by simp [Program.arrayLen, Tryz.underlying115]
    have hsl : ∀ W, (Instr.sliceAt 115 (.pointer (some ⟨w.heap.size, 0, none⟩)) none (some (.int .i64 (nd : Int))) none).run Tryz.prog W = .ok (.slice (some ⟨w.heap.size, 0, none⟩) nd 24) W := fun W => by
      rw [run_sliceAt_array_h W 115 ⟨w.heap.size, 0, none⟩ (by simp [Program.arrayLen, Program.elem, Tryz.underlying115]) .i64 (nd : Int) (by omega) (by rw [hal]; omega)]
      go_simp
    have hH0 := Lib.holds_zero0 w 115 nd (by omega)
    have cN := fun h => stcs_internal_strconv_numDigits u hu1 hu64 (w.alloc (.cells Lib.zeros24 115)) h
    rw [← hnd] at cN
    have hfmt := stcs_internal_strconv_formatBase10 w.heap.size 0 24 u (Array.replicate nd 0) (w.alloc (.cells Lib.zeros24 115)) hH0 (by rw [Array.size_replicate, hnd]; exact Lib.lt_pow_nDigits u) hu64 (by rw [Array.size_replicate]; omega)
    rw [Array.size_replicate] at hfmt
    have htab := ht _ (below_al (Below.refl w.heap.size w) (.cells Lib.zeros24 115))
    replace hH0 := hid hH0
    replace hfmt := hid hfmt
    replace cN := hid (cN htab)
    replace ht := hid ht
    replace htab := hid htab
    replace hnd := hid hnd
    clear hal
    go_enter Tryz.func72, Tryz.ntmps72
    go_wp2_with (first
      | (go_at_call 85; refine cN.out.mono ?_; rintro e w1 ⟨rfl, rfl⟩))
    refine hfmt.out.mono ?_
    rintro e w' ⟨rfl, k, v', dk, rfl, hF⟩
    have hcv : (convert 45 9 (.slice (some ⟨w.heap.size, 0, none⟩) nd 24)).run Tryz.prog ((Go.Sort.putRow (fun (b : UInt8) => Value.int .u8 (b.toNat : Int)) (w.alloc (.cells Lib.zeros24 115)) w.heap.size 0 dk).drewN k) = .ok (.string ⟨(Lib.decDigits u).toArray⟩) ((Go.Sort.putRow (fun (b : UInt8) => Value.int .u8 (b.toNat : Int)) (w.alloc (.cells Lib.zeros24 115)) w.heap.size 0 dk).drewN k) := by
      rw [hnd.out] at hF
      have h := run_convert_bytes_back (P := Tryz.prog) ((Go.Sort.putRow (fun (b : UInt8) => Value.int .u8 (b.toNat : Int)) (w.alloc (.cells Lib.zeros24 115)) w.heap.size 0 dk).drewN k) 45 9 5 ⟨w.heap.size, 0, none⟩ 24 (Lib.decDigits u) Tryz.underlying45 Tryz.underlying5 Tryz.underlying9 (fun j hj => by
        rw [Lib.row_is_numeral hF j hj, Lib.add_plain, World.cell?_drewN]
        exact Go.Sort.cell?_putRow (fun (b : UInt8) => Value.int .u8 (b.toNat : Int)) _ w.heap.size 0 _ dk hH0.out (by rw [hF.size, Array.size_replicate, hnd.out]) j (by rw [hF.size]; rw [Lib.decDigits_length] at hj; exact hj))
      rw [Lib.decDigits_length, ← hnd.out] at h
      exact h
    obtain ⟨os, eo⟩ := Lib.fin_at w (.cells Lib.zeros24 115) dk k 0
    replace eo := hid eo
    go_wp2
    go_ret
    refine ⟨rfl, ?_⟩
    rw [eo.out]
    exact Lib.below_grow _ w (Nat.le_refl _) k os
theorem format_any (u : Nat) (hu64 : u < 18446744073709551616) (w : World) (ht : PowTab w) : Calls Tryz.prog 58 #[.int .u64 (u : Nat), .int .i64 10] w fun e w' => e = .returned (.string ⟨(Lib.decDigits u).toArray⟩) ∧ Below w.heap.size w w' := by
  have c := hid (formatIn_any u hu64 w ht)
  clear ht
  go_enter Tryz.func58, Tryz.ntmps58
  go_wp2_with (go_at_call 72; refine c.out.mono ?_; rintro e w1 ⟨rfl, hB⟩)
  go_ret
  exact ⟨rfl, hB⟩
end Go.Proofs.YtbbjoahloghpkaaGreatDoor
