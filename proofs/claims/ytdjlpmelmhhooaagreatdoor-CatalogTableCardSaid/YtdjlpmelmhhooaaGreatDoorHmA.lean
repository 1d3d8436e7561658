/- Keyed sums: plain words; hmac.mask, Sum, Short, Same; the document's pad and Sum; the chapter's example. -/
import Derived.Test.YtdjlpmelmhhooaaGreatDoorShX4
import Derived.Test.YtdjlpmelmhhooaaGreatDoorShY2
import Derived.Test.YtdjlpmelmhhooaaGreatDoorDgB
import Derived.Test.YtdjlpmelmhhooaaGreatDoorLibA
namespace Go.Proofs.YtdjlpmelmhhooaaGreatDoor
section
section
open Go

theorem joinS_nil : joinS [] = ⟨#[]⟩ := rfl
theorem joinS_one (a : ByteArray) : joinS [a] = a := by
  apply ByteArray.ext; apply Array.ext'
  simp [joinS, Lib.join]
theorem joinS_two (a b : ByteArray) : joinS [a, b] = a ++ b := by
  apply ByteArray.ext; apply Array.ext'
  simp [joinS, Lib.join]
/-- The key as it goes into the block. -/
def keyK (k : ByteArray) : ByteArray := if 64 < k.size then sumS k else k
theorem keyK_size (k : ByteArray) : (keyK k).size ≤ 64 := by
  unfold keyK
  split
  · rw [sumS_size]; omega
  · omega
/-- The key's block. -/
def blockL (k : ByteArray) : List UInt8 := (keyK k).data.toList ++ List.replicate (64 - (keyK k).size) 0
theorem blockL_len (k : ByteArray) : (blockL k).length = 64 := by
  have h := keyK_size k
  have h2 : (keyK k).data.toList.length = (keyK k).size := by simp
  rw [blockL, List.length_append, List.length_replicate, h2]
  omega
def turnB (b : Nat) (c : UInt8) : UInt8 := c ^^^ UInt8.ofNat b
def mixL (b : Nat) (L : List UInt8) (k : Nat) : List UInt8 := (L.take k).map (turnB b) ++ L.drop k
theorem mixL_zero (b : Nat) (L : List UInt8) : mixL b L 0 = L := by simp [mixL]
theorem mixL_all (b : Nat) (L : List UInt8) (n : Nat) (h : L.length ≤ n) : mixL b L n = L.map (turnB b) := by simp [mixL, List.take_of_length_le h, List.drop_eq_nil_of_le h]
theorem mixL_len (b : Nat) (L : List UInt8) (k : Nat) : (mixL b L k).length = L.length := by
  simp [mixL]; omega
theorem mixL_get (b : Nat) (L : List UInt8) (k : Nat) (h : k < L.length) (h2 : k < (mixL b L k).length) : (mixL b L k)[k] = L[k] := by
  have h3 : ((L.take k).map (turnB b)).length = k := by simp; omega
  have h4 : (mixL b L k)[k]? = some L[k] := by
    unfold mixL
    rw [List.getElem?_append_right (by omega), h3, Nat.sub_self, List.getElem?_drop]
    simp [h]
  rw [List.getElem?_eq_getElem h2] at h4
  exact Option.some.inj h4
theorem mixL_set (b : Nat) (L : List UInt8) (k : Nat) (h : k < L.length) : (mixL b L k).set k (turnB b L[k]) = mixL b L (k + 1) := by
  unfold mixL
  have h3 : ((L.take k).map (turnB b)).length = k := by simp; omega
  rw [List.set_append_right _ _ (by omega), h3, Nat.sub_self, List.drop_eq_getElem_cons h, List.set_cons_zero, List.take_succ_eq_append_getElem h, List.map_append, List.append_assoc]
  rfl
def maskS (k : ByteArray) (b : Nat) : ByteArray := ⟨((blockL k).map (turnB b)).toArray⟩
theorem maskS_size (k : ByteArray) (b : Nat) : (maskS k b).size = 64 := by
  show ((blockL k).map (turnB b)).toArray.size = 64
  simp [blockL_len]
def hmacS (k s : ByteArray) : ByteArray := sumS (maskS k 92 ++ sumS (maskS k 54 ++ s))
theorem hmacS_size (k s : ByteArray) : (hmacS k s).size = 32 := sumS_size _
theorem hmacS_of_block {k k' : ByteArray} (h : blockL k = blockL k') (s : ByteArray) : hmacS k s = hmacS k' s := by
  unfold hmacS maskS; rw [h]
theorem turnB_byte (b : Nat) (hb : b < 256) (c : UInt8) : bits .xor .u8 ((c.toNat : Nat) : Int) (b : Int) = (((turnB b c).toNat : Nat) : Int) := by
  rw [u8_xor_nat _ _ c.toNat_lt hb, turnB, UInt8.toNat_xor]
  congr 2
  simp
  omega
/-- Noughts behind a key. -/
theorem block_zeros (k z : ByteArray) (n : Nat) (hz : z.data.toList = List.replicate n 0) (h : n = 0 ∨ k.size + n ≤ 64) : blockL (k ++ z) = blockL k := by
  have hzs : z.size = n := by
    have : z.data.toList.length = z.size := by simp
    rw [hz] at this; simpa using this.symm
  rcases h with rfl | h
  · have e : k ++ z = k := by apply ByteArray.ext; apply Array.ext'; simp [hz]
    rw [e]
  · have e1 : keyK (k ++ z) = k ++ z := by unfold keyK; rw [if_neg (by rw [ByteArray.size_append]; omega)]
    have e2 : keyK k = k := by unfold keyK; rw [if_neg (by omega)]
    rw [blockL, blockL, e1, e2, ByteArray.size_append, hzs]
    simp only [ByteArray.data_append, Array.toList_append, hz, List.append_assoc, List.replicate_append_replicate]
    congr 2
    omega
/-- A longer key is its sum. -/
theorem block_long (k : ByteArray) (h : 64 < k.size) : blockL k = blockL (sumS k) := by
  have e1 : keyK k = sumS k := by unfold keyK; rw [if_pos h]
  have e2 : keyK (sumS k) = sumS k := by unfold keyK; rw [if_neg (by rw [sumS_size]; omega)]
  rw [blockL, blockL, e1, e2]

def jefe : ByteArray := ⟨#[74, 101, 102, 101]⟩
def jefeL : List ByteArray := [⟨#[119, 104, 97, 116, 32, 100, 111, 32, 121, 97, 32, 119, 97, 110, 116, 32]⟩, ⟨#[102, 111, 114, 32, 110, 111, 116, 104, 105, 110, 103, 63]⟩]
set_option maxRecDepth 1000000 in
theorem jefe_sum : Lib.hasPrefix (hmacS jefe (joinS jefeL)).data.toList [91, 220, 193, 70] = true := by kernel_rfl
end
section
open Go Go.RowKit
set_option linter.unusedSimpArgs false

set_option maxRecDepth 100000 in
set_option maxHeartbeats 8000000 in
theorem mask_any (key : ByteArray) (hk : key.size ≤ 1000000) (b : Nat) (hb : b < 256) (w : World) : Calls Tryz.prog 138 #[.string key, .int .u8 (b : Nat)] w fun e w' => e = .returned (.string (maskS key b)) ∧ Below w.heap.size w w' := by
  have hL := blockL_len key
  have hKs := keyK_size key
  have hKb : blockL key = (keyK key).data.toList ++ List.replicate (64 - (keyK key).size) 0 := rfl
  have LT := fun w => text_any (some ⟨w.heap.size, 0, none⟩) 1 1 [key] (w.alloc (.cells #[.string key] 9)) (strsAt_lit w [key]) (by simp) (by rw [joinS_one]; omega)
  rw [joinS_one] at LT
  obtain ⟨K, hK⟩ : ∃ K, K = keyK key := ⟨_, rfl⟩
  rw [← hK] at hKs hKb
  obtain ⟨m, hm⟩ : ∃ m, m = 64 - K.size := ⟨_, rfl⟩
  have hmi : (64 : Int) - (K.size : Int) = (m : Int) := by omega
  have cR := fun w => repeat_any ⟨#[0]⟩ m w (by omega) (by show 1 * m ≤ _; omega)
  rw [show (⟨#[0]⟩ : ByteArray).data.toList = [0] from rfl, repeatL_rep] at cR
  obtain ⟨z, hzz⟩ : ∃ z : ByteArray, z = ⟨(List.replicate m (0 : UInt8)).toArray⟩ := ⟨_, rfl⟩
  have hzs : z.size = m := by rw [hzz]; show (List.replicate m (0 : UInt8)).toArray.size = m; simp
  have hzl : z.data.toList = List.replicate m 0 := by rw [hzz]
  rw [← hzz] at cR
  obtain ⟨T, hT⟩ : ∃ T, T = K ++ z := ⟨_, rfl⟩
  have hTl : T.data.toList = blockL key := by rw [hT, hKb, ← hm, ← hzl]; simp
  have hTs : T.size = 64 := by
    have : T.data.toList.length = T.size := by simp
    rw [← this, hTl, hL]
  have hcat : ¬ 9223372036854775807 < K.size + m := by omega
  have hcat2 : ¬ 9223372036854775807 < K.size + z.size := by omega
  obtain ⟨gF, cF, F, hF⟩ := bytesF (P := Tryz.prog) 9 83 5 T Tryz.underlying9 Tryz.underlying83 Tryz.underlying5 (by unfold maxLen; omega)
  rw [hTl] at hF
  simp only [hTs] at hF
  have hF1 := fun W => (hF W).1
  have hT' := hT.symm
  obtain ⟨L, hLL⟩ : ∃ L, L = blockL key := ⟨_, rfl⟩
  have hfin : (⟨(L.map (turnB b)).toArray⟩ : ByteArray) = maskS key b := by rw [hLL]; rfl
  rw [← hLL] at hF hL
  replace hfin := hid hfin
  replace LT := hid LT
  replace cR := hid cR
  replace hF := hid hF
  replace hL := hid hL
  clear hKb hm hzz hzl hTl hLL hT hTs
  go_enter Tryz.func138, Tryz.ntmps138
  by_cases h64 : 64 < key.size
  case' pos =>
    have h1 : (64 : Int) < (key.size : Int) := by omega
    have h1' : decide ((64 : Int) < (key.size : Int)) = true := decide_eq_true h1
    have hKe : sumS key = K := by rw [hK, keyK, if_pos h64]
    have LT2 := LT.out
    rw [hKe] at LT2
    replace LT2 := hid LT2
    clear hKe hK LT
    go_wp2_with (first
      | (go_at_call 137; with_reducible refine (LT2.out _).mono ?_; rintro e w1 ⟨rfl, hB1⟩)
      | (go_at_call 86; with_reducible refine (cR.out _).mono ?_; rintro e w2 ⟨rfl, hB2⟩))
    have hB := hid (below_cat hB2 (below_cat hB1 (below_al (Below.refl w.heap.size w) _)))
  case' neg =>
    have h1 : ¬ (64 : Int) < (key.size : Int) := by omega
    have h1' : decide ((64 : Int) < (key.size : Int)) = false := decide_eq_false h1
    obtain rfl : K = key := by rw [hK, keyK, if_neg h64]
    clear hK LT
    go_wp2_with (go_at_call 86; with_reducible refine (cR.out _).mono ?_; rintro e w2 ⟨rfl, hB2⟩)
    have hB := hid hB2
  all_goals
    obtain ⟨hown, hBF, hgF⟩ := (hF.out w2).2
    have hB3 := below_cat hBF hB.out
    have hsz2 := hB.out.size
    obtain ⟨X, hX⟩ : ∃ X, X = F w2 := ⟨_, rfl⟩
    obtain ⟨g, hg⟩ : ∃ g, g = gF w2 := ⟨_, rfl⟩
    obtain ⟨cc, hcc⟩ : ∃ c, c = cF w2 := ⟨_, rfl⟩
    rw [← hX] at hown hB3
    rw [← hg] at hown hgF
    rw [← hcc] at hown
    rw [← hX, ← hg, ← hcc]
    obtain ⟨B0, hB0⟩ : ∃ B, B = w2.heap.size := ⟨_, rfl⟩
    rw [← hB0] at hown hgF hsz2
    replace hown := hid hown
    replace hB3 := hid hB3
    clear hX hg hcc hBF hF1 hB0 hF hB
    go_loopw [22] (fun p wr => ∃ k : Nat, p = .int .i64 k ∧ k ≤ 64 ∧ Hid (BytesE wr 5 B0 (.slice (some ⟨g, 0, none⟩) 64 cc) (mixL b L k)) ∧ Hid (Below w.heap.size w wr)) (fun p _ => 64 - (intOf p).toNat)
    case atStart => exact ⟨0, rfl, by omega, hid (by rw [mixL_zero]; exact hown.out), hB3⟩
    case round =>
      clear hown hB3
      obtain ⟨k, rfl, hk64, hown, hBw⟩ := hrel
      by_cases hlt : k < 64
      · have hkl : k < L.length := by rw [hL.out]; exact hlt
        have hkm : k < (mixL b L k).length := by rw [mixL_len]; exact hkl
        obtain ⟨hc, hfr⟩ := hown.out.cell k hkm
        have hget := mixL_get b L k hkl hkm
        have hset := hown.out.set k hkm (turnB b L[k])
        rw [mixL_set b L k hkl] at hset
        have hx := turnB_byte b hb L[k]
        rw [hget] at hc
        obtain ⟨u, hu⟩ : ∃ u, u = (L[k]).toNat := ⟨_, rfl⟩
        obtain ⟨v, hv⟩ : ∃ v, v = (turnB b L[k]).toNat := ⟨_, rfl⟩
        rw [← hu] at hc hx
        rw [← hv] at hx hset
        have hki : (k : Int) < 64 := by omega
        have hbelow := hBw.out.setCell (p := ⟨g, k, none⟩) (Nat.le_trans hsz2 hgF) (.int .u8 (v : Nat))
        replace hset := hid hset
        replace hbelow := hid hbelow
        clear hu hv hget
        go_wp2
        go_roundw
        case rel => exact ⟨k + 1, by go_num, by omega, hset, hbelow⟩
        case measure => simp [intOf]; omega
      · obtain rfl : k = 64 := by omega
        have hstr := hown.out.string (P := Tryz.prog) 83 9 Tryz.underlying83 Tryz.underlying5 Tryz.underlying9
        rw [mixL_all b L 64 (by rw [hL.out]; omega), hfin.out] at hstr
        go_wp2
        go_ret
        exact ⟨rfl, hBw.out⟩

def padV (L : List UInt8) (b k j : Nat) : Value := .int .u8 ((if j < k then (turnB b (L.getD j 0)).toNat else 0 : Nat) : Int)
theorem make64b (w : World) : (Instr.makeSlice 83 (.int .i64 64) (.int .i64 64)).run Tryz.prog w = .ok (.slice (some ⟨w.heap.size, 0, none⟩) 64 64) (w.alloc (.cells (rowA 64 fun _ => .int .u8 0) 5)) := by kernel_rfl
theorem padV_zero (L : List UInt8) (b : Nat) : rowA 64 (padV L b 0) = rowA 64 fun _ => .int .u8 0 := rowA_ext fun _ _ => by simp [padV]
theorem padV_set (L : List UInt8) (b k : Nat) (v w : Value) (hv : v = .int .u8 (((turnB b (L.getD k 0)).toNat : Nat) : Int)) : ((rowA 64 (padV L b k)).setIfInBounds k w).setIfInBounds k v = rowA 64 (padV L b (k + 1)) := by
  rw [rowA_set, rowA_set]
  refine rowA_ext fun i hi => ?_
  by_cases h : i = k
  · subst h; simp [padV, hv]
  · have e : (i < k + 1) ↔ i < k := by omega
    simp [padV, h, e]
theorem padV_set1 (L : List UInt8) (b k : Nat) (v : Value) (hv : v = .int .u8 (((turnB b (L.getD k 0)).toNat : Nat) : Int)) : (rowA 64 (padV L b k)).setIfInBounds k v = rowA 64 (padV L b (k + 1)) := by
  rw [rowA_set]
  refine rowA_ext fun i hi => ?_
  by_cases h : i = k
  · subst h; simp [padV, hv]
  · have e : (i < k + 1) ↔ i < k := by omega
    simp [padV, h, e]
end
section
open Go Go.RowKit
set_option linter.unusedSimpArgs false

set_option maxRecDepth 100000 in
set_option maxHeartbeats 4000000 in
theorem hsum_any (key : ByteArray) (hk : key.size ≤ 1000000) (a : Option Addr) (n c : Nat) (xs : List ByteArray) (w : World) (h : StrsAt w a n c xs) (hN : xs.length ≤ 1000000) (hs : (joinS xs).size ≤ 1000000) :
    Calls Tryz.prog 116 #[.string key, .slice a n c] w fun e w' => e = .returned (.string (hmacS key (joinS xs))) ∧ Below w.heap.size w w' := by
  have c1 : ∀ w, Calls Tryz.prog 138 #[.string key, .int .u8 92] w fun e w' => e = .returned (.string (maskS key 92)) ∧ Below w.heap.size w w' := fun w => mask_any key hk 92 (by decide) w
  have c2 : ∀ w, Calls Tryz.prog 138 #[.string key, .int .u8 54] w fun e w' => e = .returned (.string (maskS key 54)) ∧ Below w.heap.size w w' := fun w => mask_any key hk 54 (by decide) w
  have LJ := fun w h => join_any a n c xs w h hN (by omega)
  obtain ⟨J, hJ⟩ : ∃ J, J = joinS xs := ⟨_, rfl⟩
  rw [← hJ] at LJ hs ⊢
  have hm1 := maskS_size key 92
  have hm2 := maskS_size key 54
  have hH : hmacS key J = sumS (maskS key 92 ++ sumS (maskS key 54 ++ J)) := rfl
  obtain ⟨A, hA⟩ : ∃ A, A = maskS key 92 := ⟨_, rfl⟩
  obtain ⟨B, hB⟩ : ∃ B, B = maskS key 54 := ⟨_, rfl⟩
  rw [← hA] at hm1 hH
  rw [← hB] at hm2 hH
  simp only [← hA] at c1
  simp only [← hB] at c2
  have hz2 := sumS_size (B ++ J)
  have L2 := fun w => text_any (some ⟨w.heap.size, 0, none⟩) 2 2 [B, J] (w.alloc (.cells #[.string B, .string J] 9)) (strsAt_lit w [B, J]) (by simp) (by rw [joinS_two, ByteArray.size_append]; omega)
  rw [joinS_two] at L2
  obtain ⟨I, hI⟩ : ∃ I, I = sumS (B ++ J) := ⟨_, rfl⟩
  rw [← hI] at hz2 hH
  simp only [← hI] at L2
  have L1 := fun w => text_any (some ⟨w.heap.size, 0, none⟩) 2 2 [A, I] (w.alloc (.cells #[.string A, .string I] 9)) (strsAt_lit w [A, I]) (by simp) (by rw [joinS_two, ByteArray.size_append]; omega)
  rw [joinS_two, ← hH] at L1
  replace c1 := hid c1
  replace c2 := hid c2
  replace LJ := hid LJ
  replace L1 := hid L1
  replace L2 := hid L2
  replace h := hid h
  clear hJ hA hB hI hH hm1 hm2 hz2 hs
  go_enter Tryz.func116, Tryz.ntmps116
  go_wp2_with (first
    | (go_at_call 138; with_reducible refine (c1.out _).mono ?_; rintro e w1 ⟨rfl, hB1⟩)
    | (go_at_call 138; with_reducible refine (c2.out _).mono ?_; rintro e w2 ⟨rfl, hB2⟩)
    | (go_at_call 47; with_reducible refine (LJ.out _ (StrsAt.below h.out (below_cat hB2 hB1))).mono ?_; rintro e w3 ⟨rfl, hB3⟩)
    | (go_at_call 137; with_reducible refine (L2.out _).mono ?_; rintro e w4 ⟨rfl, hB4⟩)
    | (go_at_call 137; with_reducible refine (L1.out _).mono ?_; rintro e w5 ⟨rfl, hB5⟩))
  go_ret
  exact ⟨rfl, below_cat hB5 (below_al (below_cat hB4 (below_al (below_cat hB3 (below_cat hB2 hB1)) _)) _)⟩

/-- At a literal of texts. -/
theorem hsum_lit (key : ByteArray) (hk : key.size ≤ 1000000) (xs : List ByteArray) (hN : xs.length ≤ 1000000) (hs : (joinS xs).size ≤ 1000000) (w : World) :
    Calls Tryz.prog 116 #[.string key, .slice (some ⟨w.heap.size, 0, none⟩) xs.length xs.length] (w.alloc (.cells (xs.map Value.string).toArray 9)) fun e w' => e = .returned (.string (hmacS key (joinS xs))) ∧ Below w.heap.size w w' := by
  refine (hsum_any key hk _ _ _ xs _ (strsAt_lit w xs) hN hs).mono ?_
  rintro e w' ⟨rfl, hB⟩
  exact ⟨rfl, below_cat hB (below_al (Below.refl _ _) _)⟩
theorem hsum_one (key s : ByteArray) (hk : key.size ≤ 1000000) (hs : s.size ≤ 1000000) (w : World) :
    Calls Tryz.prog 116 #[.string key, .slice (some ⟨w.heap.size, 0, none⟩) 1 1] (w.alloc (.cells #[.string s] 9)) fun e w' => e = .returned (.string (hmacS key s)) ∧ Below w.heap.size w w' := by
  have := hsum_lit key hk [s] (by simp) (by rw [joinS_one]; exact hs) w
  rw [joinS_one] at this
  exact this

theorem dAwake_any (w : World) : Calls Tryz.prog 55 #[] w fun e w' => e = .returned (.bool true) ∧ Below w.heap.size w w' := by
  go_enter Tryz.func55, Tryz.ntmps55
  go_wp2_with (go_at_call 97; with_reducible refine (digAwake_any _).mono ?_; rintro e w1 ⟨rfl, hB⟩)
  go_ret
  exact ⟨rfl, hB⟩
theorem sAwake_any (w : World) : Calls Tryz.prog 114 #[] w fun e w' => e = .returned (.bool true) ∧ Below w.heap.size w w' := by
  go_enter Tryz.func114, Tryz.ntmps114
  go_wp2_with (go_at_call 135; with_reducible refine (shaAwake_any _).mono ?_; rintro e w1 ⟨rfl, hB⟩)
  go_ret
  exact ⟨rfl, hB⟩

set_option maxRecDepth 100000 in
set_option maxHeartbeats 4000000 in
theorem hmacAwake_any (w : World) : Calls Tryz.prog 82 #[] w fun e w' => e = .returned (.bool true) ∧ Below w.heap.size w w' := by
  have LH : ∀ w : World, Calls Tryz.prog 116 #[.string ⟨#[74, 101, 102, 101]⟩, .slice (some ⟨w.heap.size, 0, none⟩) 2 2] (w.alloc (.cells #[.string ⟨#[119, 104, 97, 116, 32, 100, 111, 32, 121, 97, 32, 119, 97, 110, 116, 32]⟩, .string ⟨#[102, 111, 114, 32, 110, 111, 116, 104, 105, 110, 103, 63]⟩] 9)) fun e w' => e = .returned (.string (hmacS jefe (joinS jefeL))) ∧ Below w.heap.size w w' :=
    fun w => hsum_lit jefe (by decide) jefeL (by decide) (by rw [← joinS_size]; decide) w
  obtain ⟨T, hT⟩ : ∃ T, T = hmacS jefe (joinS jefeL) := ⟨_, rfl⟩
  have hp := jefe_sum
  rw [← hT] at hp LH
  have LP := fun w => shp_strings_HasPrefix T ⟨#[91, 220, 193, 70]⟩ w
  rw [show (⟨#[91, 220, 193, 70]⟩ : ByteArray).data.toList = [91, 220, 193, 70] from rfl, hp] at LP
  replace LH := hid LH
  replace LP := hid LP
  clear hT hp
  go_enter Tryz.func82, Tryz.ntmps82
  go_wp2_with (first
    | (go_at_call 55; with_reducible refine (dAwake_any _).mono ?_; rintro e w1 ⟨rfl, hB1⟩)
    | (go_at_call 114; with_reducible refine (sAwake_any _).mono ?_; rintro e w2 ⟨rfl, hB2⟩)
    | (go_at_call 116; with_reducible refine (LH.out _).mono ?_; rintro e w3 ⟨rfl, hB3⟩)
    | (go_at_call 115; with_reducible refine (LP.out _).mono ?_; rintro e w4 ⟨rfl, rfl⟩))
  go_ret
  exact ⟨rfl, below_cat hB3 (below_cat hB2 hB1)⟩
end
end
section
section
open Go Go.RowKit
set_option linter.unusedSimpArgs false

theorem block_get (key : ByteArray) (k : Nat) : (blockL key).getD k 0 = (keyK key).data.toList.getD k 0 := by
  unfold blockL
  rw [List.getD_eq_getElem?_getD, List.getD_eq_getElem?_getD, List.getElem?_append]
  split
  · rfl
  · rename_i h
    have h0 : (keyK key).data.toList[k]? = none := by rw [List.getElem?_eq_none_iff]; omega
    rw [h0, List.getElem?_replicate]
    split <;> rfl
theorem padV_mask (key : ByteArray) (b : Nat) : (⟨((List.range 64).map fun j => turnB b ((blockL key).getD j 0)).toArray⟩ : ByteArray) = maskS key b := by
  unfold maskS
  congr 2
  refine List.ext_getElem? fun j => ?_
  rw [List.getElem?_map, List.getElem?_map]
  have hl := blockL_len key
  by_cases h : j < 64
  · rw [List.getElem?_range h, List.getElem?_eq_getElem (by omega)]
    simp only [Option.map_some, Option.some.injEq]
    rw [List.getD_eq_getElem?_getD, List.getElem?_eq_getElem (by omega)]; rfl
  · rw [List.getElem?_eq_none (by simp; omega), List.getElem?_eq_none (by omega)]; rfl

end
section
open Go Go.RowKit
set_option linter.unusedSimpArgs false

theorem take_same (a b : List UInt8) (k : Nat) (ha : k < a.length) (hb : k < b.length) : a.take (k + 1) = b.take (k + 1) ↔ a.take k = b.take k ∧ a[k] = b[k] := by
  rw [List.take_succ_eq_append_getElem ha, List.take_succ_eq_append_getElem hb]
  constructor
  · intro h
    have h2 := List.append_inj' h rfl
    exact ⟨h2.1, by simpa using h2.2⟩
  · rintro ⟨h1, h2⟩; rw [h1, h2]
theorem or_zero (a b : Nat) : (a ||| b) = 0 ↔ a = 0 ∧ b = 0 := by
  constructor
  · intro h
    have h1 := Nat.left_le_or (n := a) (m := b)
    have h2 := Nat.right_le_or (n := a) (m := b)
    omega
  · rintro ⟨rfl, rfl⟩; rfl
theorem xor_zero' (a b : Nat) : a ^^^ b = 0 ↔ a = b := by
  constructor
  · intro h
    have h2 : (a ^^^ b) ^^^ b = 0 ^^^ b := by rw [h]
    rwa [Nat.xor_assoc, Nat.xor_self, Nat.xor_zero, Nat.zero_xor] at h2
  · rintro rfl; exact Nat.xor_self _
theorem same_eq (s t : ByteArray) : s = t ↔ s.data.toList = t.data.toList := ⟨fun h => by rw [h], fun h => ByteArray.ext (Array.ext' h)⟩

end
end
end Go.Proofs.YtdjlpmelmhhooaaGreatDoor
