/- Ids, rows of 16 bytes by value: plain words; Raw. -/
import Derived.Test.YtbbjoahloghpkaaGreatDoorHmA
namespace Go.Proofs.YtbbjoahloghpkaaGreatDoor
open Go Go.RowKit
set_option linter.unusedSimpArgs false
set_option linter.unusedVariables false

/-- The i-th byte of an id, as a cell. -/
def idV (l : List UInt8) (i : Nat) : Value := .int .u8 ((l.getD i 0).toNat : Int)
def idA (l : List UInt8) : Array Value := rowA 16 (idV l)
def idS (l : List UInt8) : ByteArray := ⟨l.toArray⟩
theorem idS_size (l : List UInt8) : (idS l).size = l.length := by show l.toArray.size = _; simp
theorem idA_size (l : List UInt8) : (idA l).size = 16 := rowA_size _ _
theorem idA_one (l : List UInt8) : (idA l).all (·.oneCell') = true := by
  rw [Array.all_eq_true]
  intro i hi
  simp [idA, rowA, idV, Value.oneCell']
theorem info16 : (Tryz.prog.info? 26).map (·.size) = some 16 := by kernel_rfl
theorem range_getD (l : List UInt8) (n : Nat) (h : l.length = n) : (List.range n).map (fun j => l.getD j 0) = l := by
  apply List.ext_getElem (by simp [h])
  intro i h1 h2
  simp [List.getD_eq_getElem?_getD, h2]
theorem conv_id {w : World} {b c : Nat} {t : TypeId} {l : List UInt8} (hl : l.length = 16) (r : RowAt w b t (idA l)) : (convert 45 9 (.slice (some ⟨b, 0, none⟩) 16 c)).run Tryz.prog w = .ok (.string (idS l)) w := by
  have := conv_row (P := Tryz.prog) 45 9 5 Tryz.underlying45 Tryz.underlying5 Tryz.underlying9 (n := 16) c (g := fun j => l.getD j 0) r
  rw [this, range_getD l 16 hl]; rfl
/-- A row of texts as a slice of them. -/
theorem strsAt_row {W : World} {b : Nat} {t : TypeId} (xs : List ByteArray) (r : RowAt W b t (xs.map Value.string).toArray) : StrsAt W (some ⟨b, 0, none⟩) xs.length xs.length xs :=
  .inr ⟨b, 0, rfl, rfl, Nat.le_refl _, r.lt, fun j x hj => by
    rw [Nat.zero_add]
    refine r.cell ?_
    rw [List.getElem?_toArray, List.getElem?_map, hj]; rfl⟩
theorem RowAt.newS (w : World) (A B : Array Value) (t u : TypeId) : RowAt ((w.alloc (.cells A t)).alloc (.cells B u)) (w.heap.size + 1) u B := by
  have := RowAt.new (w.alloc (.cells A t)) B u
  rwa [World.size_alloc] at this
/-- Bytes copied one by one. -/
def copV (l : List UInt8) (k i : Nat) : Value := .int .u8 ((if i < k then (l.getD i 0).toNat else 0 : Nat) : Int)
theorem copV_zero (l : List UInt8) : rowA 16 (copV l 0) = rowA 16 fun _ => .int .u8 0 := rowA_ext fun _ _ => by simp [copV]
theorem copV_all (l : List UInt8) : rowA 16 (copV l 16) = idA l := rowA_ext fun i h => by simp [copV, idV, h]
theorem copV_set (l : List UInt8) (k : Nat) : (rowA 16 (copV l k)).setIfInBounds k (idV l k) = rowA 16 (copV l (k + 1)) := by
  rw [rowA_set]
  refine rowA_ext fun i hi => ?_
  by_cases h : i = k
  · subst h; simp [copV, idV]
  · have e : (i < k + 1) ↔ i < k := by omega
    simp [copV, h, e]
theorem make16b (w : World) : (Instr.makeSlice 45 (.int .i64 16) (.int .i64 16)).run Tryz.prog w = .ok (.slice (some ⟨w.heap.size, 0, none⟩) 16 16) (w.alloc (.cells (rowA 16 fun _ => .int .u8 0) 5)) := by kernel_rfl

set_option maxRecDepth 100000 in
set_option maxHeartbeats 4000000 in
theorem raw_any (l : List UInt8) (hl : l.length = 16) (w : World) : Calls Tryz.prog 21 #[.agg (idA l)] w fun e w' => e = .returned (.string (idS l)) ∧ Below w.heap.size w w' := by
  have mk := fun w => make16b w
  rw [← copV_zero l] at mk
  go_enter Tryz.func21, Tryz.ntmps21
  go_wp2
  have r0 : RowAt ((w.alloc (.cells (idA l) 26)).alloc (.cells (rowA 16 (copV l 0)) 5)) w.heap.size 26 (idA l) := (RowAt.new w _ _).alloc _
  have r1 : RowAt ((w.alloc (.cells (idA l) 26)).alloc (.cells (rowA 16 (copV l 0)) 5)) (w.heap.size + 1) 5 (rowA 16 (copV l 0)) := by
    have := RowAt.new (w.alloc (.cells (idA l) 26)) (rowA 16 (copV l 0)) 5
    rwa [World.size_alloc] at this
  have hb := below_al (below_al (Below.refl w.heap.size w) (.cells (idA l) 26)) (.cells (rowA 16 (copV l 0)) 5)
  obtain ⟨W, hW⟩ : ∃ W, W = (w.alloc (.cells (idA l) 26)).alloc (.cells (rowA 16 (copV l 0)) 5) := ⟨_, rfl⟩
  rw [← hW] at r0 r1 hb ⊢
  obtain ⟨g, hg⟩ : ∃ g, g = w.heap.size + 1 := ⟨_, rfl⟩
  obtain ⟨h, hh⟩ : ∃ h, h = w.heap.size := ⟨_, rfl⟩
  have hne : h ≠ g := by omega
  have hgw : w.heap.size ≤ g := by omega
  rw [← hg] at r1
  rw [← hh] at r0
  rw [← hg, ← hh]
  replace r0 := hid r0
  replace r1 := hid r1
  replace hb := hid hb
  clear hW hg mk hh
  go_loopw [4] (fun p wr => ∃ k : Nat, p = .int .i64 k ∧ k ≤ 16 ∧ Hid (RowAt wr h 26 (idA l)) ∧ Hid (RowAt wr g 5 (rowA 16 (copV l k))) ∧ Hid (Below w.heap.size w wr)) (fun p _ => 16 - (intOf p).toNat)
  case atStart => exact ⟨0, rfl, by omega, r0, r1, hb⟩
  case round =>
    clear r0 r1 hb
    obtain ⟨k, rfl, hk, r0, r1, hb⟩ := hrel
    by_cases hlt : k < 16
    · have hki : (k : Int) < 16 := by omega
      have hc : wr.cell? ⟨h, k, none⟩ = some (.int .u8 ((l.getD k 0).toNat : Int)) := r0.out.cell (rowA_get 16 (idV l) k hlt)
      have hd := r1.out.cell (rowA_get 16 (copV l k) k hlt)
      have hf := r1.out.free k
      have r1' := hid ((r1.out.set k (idV l k)).eqA (copV_set l k))
      have r0' := hid (r0.out.other ⟨g, k, none⟩ (idV l k) hne)
      have hb' := hid (hb.out.setCell (p := ⟨g, k, none⟩) hgw (idV l k))
      unfold idV at r1' r0' hb'
      obtain ⟨u, hu⟩ : ∃ u, u = (l.getD k 0).toNat := ⟨_, rfl⟩
      rw [← hu] at hc r1' r0' hb'
      clear hu
      go_wp2
      go_roundw
      case rel => exact ⟨k + 1, by go_num, by omega, r0', r1', hb'⟩
      case measure => simp [intOf]; omega
    · obtain rfl : k = 16 := by omega
      have hcv := conv_id (c := 16) hl (r1.out.eqA (copV_all l))
      go_wp2
      go_ret
      exact ⟨rfl, hb.out⟩
end Go.Proofs.YtbbjoahloghpkaaGreatDoor
