/- Ids by value: Raw, Version, Zero, ==, Draw's refusal. -/
import Derived.Test.YtdjlpmelmhhooaaGreatDoorHmA
import Derived.Test.YtdjlpmelmhhooaaGreatDoorIdX
import Derived.DeepKeys
namespace Go.Proofs.YtdjlpmelmhhooaaGreatDoor
section
open Go Go.RowKit
set_option linter.unusedSimpArgs false
set_option linter.unusedVariables false

/-- The i-th byte of an id, as a cell. -/
def idV (l : List UInt8) (i : Nat) : Value := .int .u8 ((l.getD i 0).toNat : Int)
def idA (l : List UInt8) : Array Value := rowA 16 (idV l)
def idS (l : List UInt8) : ByteArray := ⟨l.toArray⟩
theorem idS_size (l : List UInt8) : (idS l).size = l.length := by show l.toArray.size = _; simp
theorem idA_size (l : List UInt8) : (idA l).size = 16 := rowA_size _ _
theorem idA_one (l : List UInt8) : (idA l).all (·.oneCell') = true := by
  rw [Array.all_eq_true]
  intro i hi
  simp [idA, rowA, idV, Value.oneCell']
theorem info16 : (Tryz.prog.info? 23).map (·.size) = some 16 := by kernel_rfl
theorem range_getD (l : List UInt8) (n : Nat) (h : l.length = n) : (List.range n).map (fun j => l.getD j 0) = l := by
  apply List.ext_getElem (by simp [h])
  intro i h1 h2
  simp [List.getD_eq_getElem?_getD, h2]
theorem conv_id {w : World} {b c : Nat} {t : TypeId} {l : List UInt8} (hl : l.length = 16) (r : RowAt w b t (idA l)) : (convert 83 9 (.slice (some ⟨b, 0, none⟩) 16 c)).run Tryz.prog w = .ok (.string (idS l)) w := by
  have := conv_row (P := Tryz.prog) 83 9 5 Tryz.underlying83 Tryz.underlying5 Tryz.underlying9 (n := 16) c (g := fun j => l.getD j 0) r
  rw [this, range_getD l 16 hl]; rfl
/-- A row of texts as a slice of them. -/
theorem strsAt_row {W : World} {b : Nat} {t : TypeId} (xs : List ByteArray) (r : RowAt W b t (xs.map Value.string).toArray) : StrsAt W (some ⟨b, 0, none⟩) xs.length xs.length xs :=
  .inr ⟨b, 0, rfl, rfl, Nat.le_refl _, r.lt, fun j x hj => by
    rw [Nat.zero_add]
    refine r.cell ?_
    rw [List.getElem?_toArray, List.getElem?_map, hj]; rfl⟩
theorem RowAt.newS (w : World) (A B : Array Value) (t u : TypeId) : RowAt ((w.alloc (.cells A t)).alloc (.cells B u)) (w.heap.size + 1) u B := by
  have := RowAt.new (w.alloc (.cells A t)) B u
  rwa [World.size_alloc] at this
/-- Bytes copied one by one. -/
def copV (l : List UInt8) (k i : Nat) : Value := .int .u8 ((if i < k then (l.getD i 0).toNat else 0 : Nat) : Int)
theorem copV_zero (l : List UInt8) : rowA 16 (copV l 0) = rowA 16 fun _ => .int .u8 0 := rowA_ext fun _ _ => by simp [copV]
theorem copV_all (l : List UInt8) : rowA 16 (copV l 16) = idA l := rowA_ext fun i h => by simp [copV, idV, h]
theorem copV_set (l : List UInt8) (k : Nat) : (rowA 16 (copV l k)).setIfInBounds k (idV l k) = rowA 16 (copV l (k + 1)) := by
  rw [rowA_set]
  refine rowA_ext fun i hi => ?_
  by_cases h : i = k
  · subst h; simp [copV, idV]
  · have e : (i < k + 1) ↔ i < k := by omega
    simp [copV, h, e]
theorem make16b (w : World) : (Instr.makeSlice 83 (.int .i64 16) (.int .i64 16)).run Tryz.prog w = .ok (.slice (some ⟨w.heap.size, 0, none⟩) 16 16) (w.alloc (.cells (rowA 16 fun _ => .int .u8 0) 5)) := by kernel_rfl

set_option maxRecDepth 100000 in
set_option maxHeartbeats 4000000 in
theorem raw_any (l : List UInt8) (hl : l.length = 16) (w : World) : Calls Tryz.prog 53 #[.agg (idA l)] w fun e w' => e = .returned (.string (idS l)) ∧ Below w.heap.size w w' := by
  have mk := fun w => make16b w
  rw [← copV_zero l] at mk
  go_enter Tryz.func53, Tryz.ntmps53
  go_wp2
  have r0 : RowAt ((w.alloc (.cells (idA l) 23)).alloc (.cells (rowA 16 (copV l 0)) 5)) w.heap.size 23 (idA l) := (RowAt.new w _ _).alloc _
  have r1 : RowAt ((w.alloc (.cells (idA l) 23)).alloc (.cells (rowA 16 (copV l 0)) 5)) (w.heap.size + 1) 5 (rowA 16 (copV l 0)) := by
    have := RowAt.new (w.alloc (.cells (idA l) 23)) (rowA 16 (copV l 0)) 5
    rwa [World.size_alloc] at this
  have hb := below_al (below_al (Below.refl w.heap.size w) (.cells (idA l) 23)) (.cells (rowA 16 (copV l 0)) 5)
  obtain ⟨W, hW⟩ : ∃ W, W = (w.alloc (.cells (idA l) 23)).alloc (.cells (rowA 16 (copV l 0)) 5) := ⟨_, rfl⟩
  rw [← hW] at r0 r1 hb ⊢
  obtain ⟨g, hg⟩ : ∃ g, g = w.heap.size + 1 := ⟨_, rfl⟩
  obtain ⟨h, hh⟩ : ∃ h, h = w.heap.size := ⟨_, rfl⟩
  have hne : h ≠ g := by omega
  have hgw : w.heap.size ≤ g := by omega
  rw [← hg] at r1
  rw [← hh] at r0
  rw [← hg, ← hh]
  replace r0 := hid r0
  replace r1 := hid r1
  replace hb := hid hb
  clear hW hg mk hh
  go_loopw [4] (fun p wr => ∃ k : Nat, p = .int .i64 k ∧ k ≤ 16 ∧ Hid (RowAt wr h 23 (idA l)) ∧ Hid (RowAt wr g 5 (rowA 16 (copV l k))) ∧ Hid (Below w.heap.size w wr)) (fun p _ => 16 - (intOf p).toNat)
  case atStart => exact ⟨0, rfl, by omega, r0, r1, hb⟩
  case round =>
    clear r0 r1 hb
    obtain ⟨k, rfl, hk, r0, r1, hb⟩ := hrel
    by_cases hlt : k < 16
    · have hki : (k : Int) < 16 := by omega
      have hc : wr.cell? ⟨h, k, none⟩ = some (.int .u8 ((l.getD k 0).toNat : Int)) := r0.out.cell (rowA_get 16 (idV l) k hlt)
      have hd := r1.out.cell (rowA_get 16 (copV l k) k hlt)
      have hf := r1.out.free k
      have r1' := hid ((r1.out.set k (idV l k)).eqA (copV_set l k))
      have r0' := hid (r0.out.other ⟨g, k, none⟩ (idV l k) hne)
      have hb' := hid (hb.out.setCell (p := ⟨g, k, none⟩) hgw (idV l k))
      unfold idV at r1' r0' hb'
      obtain ⟨u, hu⟩ : ∃ u, u = (l.getD k 0).toNat := ⟨_, rfl⟩
      rw [← hu] at hc r1' r0' hb'
      clear hu
      go_wp2
      go_roundw
      case rel => exact ⟨k + 1, by go_num, by omega, r0', r1', hb'⟩
      case measure => simp [intOf]; omega
    · obtain rfl : k = 16 := by omega
      have hcv := conv_id (c := 16) hl (r1.out.eqA (copV_all l))
      go_wp2
      go_ret
      exact ⟨rfl, hb.out⟩
end
section
open Go Go.RowKit
set_option linter.unusedSimpArgs false
set_option linter.unusedVariables false

set_option maxRecDepth 100000 in
set_option maxHeartbeats 4000000 in
theorem version_any (l : List UInt8) (hl : l.length = 16) (w : World) : Calls Tryz.prog 17 #[.agg (idA l)] w fun e w' => e = .returned (.int .i64 (((l.getD 6 0).toNat / 16 : Nat) : Int)) ∧ Below w.heap.size w w' := by
  obtain ⟨u, hu⟩ : ∃ u, u = (l.getD 6 0).toNat := ⟨_, rfl⟩
  have hu8 : u < 256 := by rw [hu]; exact (l.getD 6 0).toNat_lt
  have r0 : RowAt (w.alloc (.cells (idA l) 23)) w.heap.size 23 (idA l) := RowAt.new w _ _
  have hc : (w.alloc (.cells (idA l) 23)).cell? ⟨w.heap.size, 6, none⟩ = some (.int .u8 (u : Int)) := by rw [hu]; exact r0.cell (rowA_get 16 (idV l) 6 (by decide))
  have hw6 : wrap64 ((u : Int) / 16) = (u : Int) / 16 := by
    have h1 : (0 : Int) ≤ (u : Int) / 16 := by omega
    have h2 : (u : Int) / 16 < 16 := by omega
    unfold wrap64
    omega
  rw [← hu]
  obtain ⟨A, hA⟩ : ∃ A, A = idA l := ⟨_, rfl⟩
  rw [← hA] at hc ⊢
  clear r0 hA hu
  go_enter Tryz.func17, Tryz.ntmps17
  go_wp2
  go_ret
  refine ⟨?_, ?_⟩
  · simp [hw6]
  · exact below_al (Below.refl _ _) _
end
section
open Go Go.RowKit
set_option linter.unusedSimpArgs false
theorem key_id : Tryz.prog.keyTypeAt 3 23 = true := by kernel_rfl
theorem cells_id : Tryz.prog.cellsOf 23 = 16 := by kernel_rfl
theorem cells_u8 : Tryz.prog.cellsOf 5 = 1 := by kernel_rfl
theorem wf_u8 (b : UInt8) : (Lit.int .u8 (b.toNat : Int)).wf = true := by
  have := b.toNat_lt
  have h1 : IntKind.min .u8 = 0 := by kernel_rfl
  have h2 : IntKind.max .u8 = 255 := by kernel_rfl
  simp only [Lit.wf, h1, h2, decide_eq_true_eq, Bool.and_eq_true]
  omega
theorem lit_u8 (d : Nat) (b : UInt8) : Tryz.prog.keyLits (d + 1) 5 [.int .u8 (b.toNat : Int)] = some [.int .u8 (b.toNat : Int)] := by
  unfold Program.keyLits
  simp only [Tryz.underlying5, wf_u8, and_self, if_true]
theorem lits_id16 (a b c d e f g i j k m n o p q r : UInt8) : Tryz.prog.keyLits 3 23 (idA [a, b, c, d, e, f, g, i, j, k, m, n, o, p, q, r]).toList = some ([a, b, c, d, e, f, g, i, j, k, m, n, o, p, q, r].map fun b => .int .u8 (b.toNat : Int)) := by
  unfold Program.keyLits
  rw [Tryz.underlying23]
  simp [cells_id, cells_u8, idA, rowA, idV, List.range_succ, lit_u8]
theorem formed_id16 (a b c d e f g i j k m n o p q r : UInt8) : (Value.agg (idA [a, b, c, d, e, f, g, i, j, k, m, n, o, p, q, r])).formed Tryz.prog 23 = true := by kernel_rfl
theorem lits_id (l : List UInt8) (hl : l.length = 16) : Tryz.prog.keyLits 3 23 (Value.agg (idA l)).cells.toList = some (l.map fun b => .int .u8 (b.toNat : Int)) := by
  match l, hl with
  | [a, b, c, d, e, f, g, i, j, k, m, n, o, p, q, r], _ => exact lits_id16 a b c d e f g i j k m n o p q r
theorem formed_id (l : List UInt8) (hl : l.length = 16) : (Value.agg (idA l)).formed Tryz.prog 23 = true := by
  match l, hl with
  | [a, b, c, d, e, f, g, i, j, k, m, n, o, p, q, r], _ => exact formed_id16 a b c d e f g i j k m n o p q r
theorem eq_id (l m : List UInt8) (hl : l.length = 16) (hm : m.length = 16) (w : World) : (Op.equalIn 10000 23 (.agg (idA l)) (.agg (idA m))).run Tryz.prog w = .ok (l == m) w := by
  obtain ⟨r, h1, h2⟩ := run_equalIn_deep 9997 3 23 key_id w 3 3 _ _ _ _ (formed_id l hl) (formed_id m hm) (lits_id l hl) (lits_id m hm)
  rw [List.map_inj_right (fun a b h => by simp only [Lit.int.injEq, true_and] at h; exact UInt8.toNat_inj.1 (by omega))] at h2
  have hr : r = (l == m) := by
    cases r
    · symm; rw [beq_eq_false_iff_ne]; exact fun e => absurd (h2.2 e) (by simp)
    · symm; rw [beq_iff_eq]; exact h2.1 rfl
  rw [← hr]
  exact h1
end
section
open Go Go.RowKit
set_option linter.unusedSimpArgs false
set_option linter.unusedVariables false

set_option maxRecDepth 100000 in
set_option maxHeartbeats 1000000 in
theorem zero_id (l : List UInt8) (hl : l.length = 16) (w : World) : Calls Tryz.prog 16 #[.agg (idA l)] w fun e w' => e = .returned (.bool (l == List.replicate 16 0)) ∧ Below w.heap.size w w' := by
  obtain ⟨A, hA⟩ : ∃ A, A = idA l := ⟨_, rfl⟩
  have hAs : A.size = 16 := by rw [hA, idA_size]
  have hAi := info16
  rw [← hAs] at hAi
  have r0 : RowAt (w.alloc (.cells A 23)) w.heap.size 23 A := RowAt.new w _ _
  have he : ∀ W : World, (Op.equalIn 10000 23 (.agg A) (.agg #[.int .u8 0, .int .u8 0, .int .u8 0, .int .u8 0, .int .u8 0, .int .u8 0, .int .u8 0, .int .u8 0, .int .u8 0, .int .u8 0, .int .u8 0, .int .u8 0, .int .u8 0, .int .u8 0, .int .u8 0, .int .u8 0])).run Tryz.prog W = .ok (l == List.replicate 16 0) W := fun W => by rw [hA]; exact eq_id l (List.replicate 16 0) hl rfl W
  rw [← hA]
  replace r0 := hid r0
  replace hAs := hid hAs
  replace hAi := hid hAi
  replace hA := hid hA
  go_enter Tryz.func16, Tryz.ntmps16
  go_wp2_with (first | (refine wpList_load_row rfl 23 _ rfl w.heap.size rfl 23 A (0, 0) _ r0.out Tryz.underlying23 rfl hAi.out ?_))
  go_ret
  exact ⟨rfl, below_al (Below.refl _ _) _⟩
end
section
open Go Go.RowKit
set_option linter.unusedSimpArgs false
set_option linter.unusedVariables false

theorem results_row_tmpI {P : Program} {fn : Func} {p u : Tmp} {ty : TypeId} (h : fn.results = #[.cell p ty, .tmp u]) (tmps : Array Value) (w : World) (g : Nat) (t : TypeId) (cs : Array Value) (fr : Nat × Nat) (d : TypeDesc)
    (hp : tmps.getD p undef = .pointer (some ⟨g, 0, none⟩)) (hg : w.heap[g]? = some (.cells cs t fr))
    (hu : P.underlying ty = some d) (hd : (match d with | .struct _ | .array _ _ => true | _ => false) = true) (hi : (P.info? ty).map (·.size) = some cs.size) :
    (results fn tmps).run P w = .ok (.tuple #[.agg cs, tmps.getD u undef]) w := by
  rw [results_cell_tmp h, hp]
  simp [asAddr, Result.andThen, run_loadVar_row w g t ty cs fr d hg hu hd hi]

end
end Go.Proofs.YtdjlpmelmhhooaaGreatDoor
