/- The chapter's example: awake; the blocks as one text. -/
import Derived.Test.YtbbjoahloghpkaaDoorShaA
import Derived.Test.YtbbjoahloghpkaaDoorShP
import Derived.Test.YtbbjoahloghpkaaDoorOctW
namespace Go.Proofs.YtbbjoahloghpkaaDoor
open Go Go.RowKit
set_option linter.unusedSimpArgs false

def abc : List ByteArray := [⟨#[97]⟩, ⟨#[98, 99]⟩]
set_option maxRecDepth 1000000 in
theorem abc_sum : Lib.hasPrefix (sumS (joinS abc)).data.toList [186, 120, 22, 191] = true := by kernel_rfl
theorem strsAt_lit (w : World) (xs : List ByteArray) : StrsAt (w.alloc (.cells (xs.map Value.string).toArray 9)) (some ⟨w.heap.size, 0, none⟩) xs.length xs.length xs :=
  .inr ⟨w.heap.size, 0, rfl, rfl, Nat.le_refl _, by simp, fun j x hj => by
    rw [Nat.zero_add]
    refine (RowAt.new w _ 9).cell ?_
    rw [List.getElem?_toArray, List.getElem?_map, hj]; rfl⟩
theorem octAwake_any (w : World) : Calls Tryd.prog 86 #[] w fun e w' => e = .returned (.bool true) ∧ Below w.heap.size w w' := by
  go_enter Tryd.func86, Tryd.ntmps86
  go_wp2_with (go_at_call 101; with_reducible refine (awake_any _).mono ?_; rintro e w1 ⟨rfl, hB⟩)
  go_ret
  exact ⟨rfl, hB⟩
set_option maxRecDepth 100000 in
set_option maxHeartbeats 1000000 in
theorem shaAwake_any (w : World) : Calls Tryd.prog 71 #[] w fun e w' => e = .returned (.bool true) ∧ Below w.heap.size w w' := by
  obtain ⟨T, hT⟩ : ∃ T, T = sumS (joinS abc) := ⟨_, rfl⟩
  have LT := fun w => text_any (some ⟨w.heap.size, 0, none⟩) 2 2 abc (w.alloc (.cells #[.string ⟨#[97]⟩, .string ⟨#[98, 99]⟩] 9)) (strsAt_lit w abc) (by decide) (by rw [← joinS_size]; decide)
  have LN := fun w => text_any none 0 0 [] w (.inl ⟨rfl, rfl⟩) (by decide) (by rw [← joinS_size]; decide)
  have LP := fun w => shp_strings_HasPrefix T ⟨#[186, 120, 22, 191]⟩ w
  have hp := abc_sum
  rw [← hT] at hp LT
  rw [show (⟨#[186, 120, 22, 191]⟩ : ByteArray).data.toList = [186, 120, 22, 191] from rfl, hp] at LP
  obtain ⟨E, hE⟩ : ∃ E, E = sumS (joinS []) := ⟨_, rfl⟩
  have hEs : (E.size : Int) = 32 := by rw [hE, sumS_size]; rfl
  rw [← hE] at LN
  replace LT := hid LT
  replace LN := hid LN
  replace LP := hid LP
  clear hT hE hp
  go_enter Tryd.func71, Tryd.ntmps71
  go_wp2_with (first
    | (go_at_call 86; with_reducible refine (octAwake_any _).mono ?_; rintro e w1 ⟨rfl, hB1⟩)
    | (go_at_call 56; with_reducible refine (LT.out _).mono ?_; rintro e w2 ⟨rfl, hB2⟩)
    | (go_at_call 50; with_reducible refine (LP.out _).mono ?_; rintro e w3 ⟨rfl, rfl⟩)
    | (go_at_call 56; with_reducible refine (LN.out _).mono ?_; rintro e w4 ⟨rfl, hB4⟩))
  go_ret
  exact ⟨rfl, below_cat hB4 (below_cat hB2 (below_al hB1 _))⟩

/-- A text's first n blocks, one behind the other. -/
theorem blk_extract (p : ByteArray) (n : Nat) : p.extract 0 (64 * n) ++ blk p n = p.extract 0 (64 * (n + 1)) := by
  unfold blk
  have := ByteArray.extract_append_extract (a := p) (i := 0) (j := 64 * n) (k := 64 * n + 64)
  rw [this]
  congr 1
  omega
theorem blocks_split {p : ByteArray} {n : Nat} {pre post : List ByteArray} {x : ByteArray} (h : blocksTo p n = pre ++ x :: post) : pre.length < n ∧ x = blk p pre.length := by
  have hl := congrArg List.length h
  simp [blocksTo] at hl
  refine ⟨by omega, ?_⟩
  have h2 : (blocksTo p n)[pre.length]? = some x := by rw [h]; simp
  unfold blocksTo at h2
  rw [List.getElem?_map, List.getElem?_range (by omega)] at h2
  simpa using h2.symm
theorem blocksN_len (p : ByteArray) : (blocksN p).length = p.size / 64 := by simp [blocksN, blocksTo]
theorem extract_all {p : ByteArray} (h : p.size % 64 = 0) : p.extract 0 (64 * (p.size / 64)) = p := by
  have : 64 * (p.size / 64) = p.size := by omega
  rw [this]; exact ByteArray.extract_zero_size
theorem padS_prefix (s : ByteArray) : Lib.hasPrefix (padS s).data.toList s.data.toList = true := by
  unfold padS
  simp [Lib.hasPrefix]
theorem padS_mark (s : ByteArray) : ∃ h : s.size < (padS s).size, (padS s)[s.size].toNat = 128 := by
  have h1 : s.size < (padS s).size := by rw [padS_size]; omega
  refine ⟨h1, ?_⟩
  have : (padS s).data.toList[s.size]? = some 128 := by
    unfold padS
    simp
  have h2 : (padS s)[s.size] = 128 := by
    have h3 : (padS s).data.toList[s.size]? = some (padS s)[s.size] := by
      rw [List.getElem?_eq_getElem (by simpa using h1)]; rfl
    rw [this] at h3
    exact (Option.some.inj h3).symm
  rw [h2]; rfl
end Go.Proofs.YtbbjoahloghpkaaDoor
