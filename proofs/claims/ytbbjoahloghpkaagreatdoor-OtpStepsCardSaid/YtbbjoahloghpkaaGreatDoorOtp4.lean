/- A challenge's code; the document's Code, Later, Enter. -/
import Derived.Test.YtbbjoahloghpkaaGreatDoorOtp2
import Derived.Test.YtbbjoahloghpkaaGreatDoorIdA
import Derived.Test.YtbbjoahloghpkaaGreatDoorHm8
namespace Go.Proofs.YtbbjoahloghpkaaGreatDoor
open Go Go.RowKit
set_option linter.unusedSimpArgs false
set_option linter.unusedVariables false

def otpS : ByteArray := ⟨#[111, 116, 112]⟩
def codeN (l : List UInt8) : Nat := getN ((sumS (otpS ++ idS l)).extract 0 8).data.toList
def ocodeS (key : ByteArray) (l : List UInt8) : ByteArray := codeS key (codeN l)
theorem ocodeS_size (key : ByteArray) (l : List UInt8) : (ocodeS key l).size = 6 := truncS_size _ 6 (by decide) (by decide)
theorem codeN_lt (l : List UInt8) : codeN l < 18446744073709551616 := by
  have h : ((sumS (otpS ++ idS l)).extract 0 8).size = 8 := by rw [ByteArray.size_extract, sumS_size]; rfl
  exact getN_lt8 _ (by omega)

set_option maxRecDepth 100000 in
set_option maxHeartbeats 4000000 in
theorem ocode_any (key : ByteArray) (hk : key.size ≤ 1000000) (l : List UInt8) (hl : l.length = 16) (w : World) (ht : PowTab w) :
    Calls Tryz.prog 6 #[.string key, .agg (idA l)] w fun e w' => e = .returned (.string (ocodeS key l)) ∧ Below w.heap.size w w' := by
  have hsz := idS_size l
  have ho3 : otpS.size = 3 := rfl
  have LT0 : ∀ (W : World) (b : Nat) (t : TypeId), RowAt W b t #[.string otpS, .string (idS l)] → Calls Tryz.prog 16 #[.slice (some ⟨b, 0, none⟩) 2 2] W fun e w' => e = .returned (.string (sumS (otpS ++ idS l))) ∧ Below W.heap.size W w' := fun W b t r => by
    have := text_any (some ⟨b, 0, none⟩) 2 2 [otpS, idS l] W (strsAt_row [otpS, idS l] r) (by simp) (by rw [joinS_two, ByteArray.size_append]; omega)
    rwa [joinS_two] at this
  have hx8 : ((sumS (otpS ++ idS l)).extract 0 8).size = 8 := by rw [ByteArray.size_extract, sumS_size]; rfl
  have cG := fun w => get_any ((sumS (otpS ++ idS l)).extract 0 8) w (by omega) (by omega)
  have hN : codeN l = getN ((sumS (otpS ++ idS l)).extract 0 8).data.toList := rfl
  simp only [← hN] at cG
  have hS := sumS_size (otpS ++ idS l)
  obtain ⟨S, hSS⟩ : ∃ S, S = sumS (otpS ++ idS l) := ⟨_, rfl⟩
  rw [← hSS] at hS
  simp only [← hSS] at LT0 cG
  obtain ⟨X, hX⟩ : ∃ X, X = S.extract 0 8 := ⟨_, rfl⟩
  have hX' : S.extract 0 8 = X := hX.symm
  rw [hX'] at cG
  have cC := fun w ht => code_any key hk (codeN l) w ht
  have ho : ocodeS key l = codeS key (codeN l) := rfl
  rw [← ho] at cC
  obtain ⟨n, hn⟩ : ∃ n, n = codeN l := ⟨_, rfl⟩
  simp only [← hn] at cG cC
  obtain ⟨I, hI⟩ : ∃ I, I = idS l := ⟨_, rfl⟩
  have hcv : ∀ {W : World} {b c : Nat} {t : TypeId}, RowAt W b t (idA l) → (convert 45 9 (.slice (some ⟨b, 0, none⟩) 16 c)).run Tryz.prog W = .ok (.string I) W := fun r => by rw [hI]; exact conv_id hl r
  have hcv1 := hcv (c := 16) (RowAt.new w (idA l) 26)
  simp only [← hI] at LT0
  clear hN hSS hX ho hn hI hsz hx8 hcv
  have hS' : (S.size : Int) = 32 := by omega
  have LT := hid LT0
  clear LT0
  replace cG := hid cG
  replace cC := hid cC
  replace ht := hid ht
  go_enter Tryz.func6, Tryz.ntmps6
  go_wp2_with (first
    | (go_at_call 16; refine (LT.out _ _ 9 (RowAt.newS w _ _ _ _)).mono ?_; rintro e w1 ⟨rfl, hB1⟩)
    | (go_at_call 15; refine (cG.out _).mono ?_; rintro e w2 ⟨rfl, rfl⟩)
    | (go_at_call 17; refine (cC.out _ (ht.out.below (below_cat hB1 (below_al (below_al (Below.refl _ _) _) _)))).mono ?_; rintro e w3 ⟨rfl, hB3⟩))
  go_ret
  exact ⟨rfl, below_cat hB3 (below_cat hB1 (below_al (below_al (Below.refl _ _) _) _))⟩

set_option maxRecDepth 100000 in
set_option maxHeartbeats 4000000 in
theorem refOcode_any (key : ByteArray) (hk : key.size ≤ 1000000) (l : List UInt8) (hl : l.length = 16) (w : World) :
    Calls Tryz.prog 7 #[.string key, .agg (idA l)] w fun e w' => e = .returned (.string (ocodeS key l)) ∧ Below w.heap.size w w' := by
  have hsz := idS_size l
  have cR := fun w => raw_any l hl w
  have hos : (otpS ++ idS l).size = 19 := by rw [ByteArray.size_append, hsz, hl]; rfl
  have LT0 := fun w => refText_any (otpS ++ idS l) (by omega) w
  have hx8 : ((sumS (otpS ++ idS l)).extract 0 8).size = 8 := by rw [ByteArray.size_extract, sumS_size]; rfl
  have cG := fun w => rget_any ((sumS (otpS ++ idS l)).extract 0 8) w (by omega)
  have hN : codeN l = getN ((sumS (otpS ++ idS l)).extract 0 8).data.toList := rfl
  simp only [← hN] at cG
  have hS := sumS_size (otpS ++ idS l)
  obtain ⟨S, hSS⟩ : ∃ S, S = sumS (otpS ++ idS l) := ⟨_, rfl⟩
  rw [← hSS] at hS
  simp only [← hSS] at LT0 cG
  obtain ⟨X, hX⟩ : ∃ X, X = S.extract 0 8 := ⟨_, rfl⟩
  have hX' : S.extract 0 8 = X := hX.symm
  rw [hX'] at cG
  have cC := fun w => refCode_any key hk (codeN l) (codeN_lt l) w
  have ho : ocodeS key l = codeS key (codeN l) := rfl
  rw [← ho] at cC
  obtain ⟨n, hn⟩ : ∃ n, n = codeN l := ⟨_, rfl⟩
  simp only [← hn] at cG cC
  obtain ⟨I, hI⟩ : ∃ I, I = idS l := ⟨_, rfl⟩
  simp only [← hI] at LT0 cR
  rw [← hI] at hsz
  rw [hl] at hsz
  obtain ⟨T, hT⟩ : ∃ T, T = otpS ++ I := ⟨_, rfl⟩
  have hT' : (⟨#[111, 116, 112]⟩ : ByteArray) ++ I = T := hT.symm
  simp only [← hT] at LT0
  clear hN hSS hX ho hn hI hx8 hT hos
  have hS' : (S.size : Int) = 32 := by omega
  have hcat : ¬ 9223372036854775807 < 3 + I.size := by omega
  have hcat2 : ¬ 9223372036854775807 < (⟨#[111, 116, 112]⟩ : ByteArray).size + I.size := by show ¬ 9223372036854775807 < 3 + I.size; omega
  have LT := hid LT0
  clear LT0
  replace cG := hid cG
  replace cC := hid cC
  replace cR := hid cR
  have r0 := hid (RowAt.new w (idA l) 26)
  go_enter Tryz.func7, Tryz.ntmps7
  go_wp2_with (first
    | (refine wpList_load_row rfl 26 _ rfl w.heap.size rfl 26 (idA l) (0, 0) _ r0.out Tryz.underlying26 rfl (by rw [info16, idA_size]) ?_)
    | (go_at_call 21; refine (cR.out _).mono ?_; rintro e w0 ⟨rfl, hB0⟩)
    | (go_at_call 20; refine (LT.out _).mono ?_; rintro e w1 ⟨rfl, hB1⟩)
    | (go_at_call 19; refine (cG.out _).mono ?_; rintro e w2 ⟨rfl, rfl⟩)
    | (go_at_call 18; refine (cC.out _).mono ?_; rintro e w3 ⟨rfl, hB3⟩))
  go_ret
  exact ⟨rfl, below_cat hB3 (below_cat hB1 (below_cat hB0 (below_al (Below.refl _ _) _)))⟩

set_option maxRecDepth 100000 in
set_option maxHeartbeats 4000000 in
theorem later_any (a b : Nat) (ha : a < 18446744073709551616) (hb : b < 18446744073709551616) (w : World) :
    Calls Tryz.prog 13 #[.int .u64 (a : Nat), .int .u64 (b : Nat)] w fun e w' => e = .returned (.int .u64 (satN a b : Nat)) ∧ w = w' := by
  go_enter Tryz.func13, Tryz.ntmps13
  by_cases h : 18446744073709551616 ≤ a + b
  · have hs : satN a b = 18446744073709551615 := if_pos h
    have hw : IntKind.u64.wrap ((a : Int) + (b : Int)) = ((a + b - 18446744073709551616 : Nat) : Int) := by rw [IntKind.wrap_u64]; omega
    obtain ⟨z, hz⟩ : ∃ z : Nat, z = a + b - 18446744073709551616 := ⟨_, rfl⟩
    rw [← hz] at hw
    have hd : (z : Int) < (a : Int) := by omega
    have hd' : decide ((z : Int) < (a : Int)) = true := decide_eq_true hd
    rw [hs]
    clear hz
    go_wp2
    go_ret
    exact ⟨rfl, rfl⟩
  · have hs : satN a b = a + b := if_neg h
    have hw : IntKind.u64.wrap ((a : Int) + (b : Int)) = ((a + b : Nat) : Int) := by rw [IntKind.wrap_u64]; omega
    obtain ⟨z, hz⟩ : ∃ z : Nat, z = a + b := ⟨_, rfl⟩
    rw [← hz] at hw hs
    have hd : ¬ (z : Int) < (a : Int) := by omega
    have hd' : decide ((z : Int) < (a : Int)) = false := decide_eq_false hd
    rw [hs]
    clear hz h hs
    go_wp2
    go_ret
    exact ⟨rfl, rfl⟩
end Go.Proofs.YtbbjoahloghpkaaGreatDoor
