/- Plain words on layer 5: a block's turn. No program in sight. -/
import Derived.Test.YtbbjoahloghpkaaDoorSha4
import Derived.Test.YtbbjoahloghpkaaDoorSha5
import Derived.Test.YtbbjoahloghpkaaDoorOct0
set_option linter.unusedVariables false
namespace Go.Proofs.YtbbjoahloghpkaaDoor
open Go

structure St where
  a : Nat
  b : Nat
  c : Nat
  d : Nat
  e : Nat
  f : Nat
  g : Nat
  h : Nat
def St.cells (s : St) : Array Value := #[.int .u32 (s.a : Nat), .int .u32 (s.b : Nat), .int .u32 (s.c : Nat), .int .u32 (s.d : Nat), .int .u32 (s.e : Nat), .int .u32 (s.f : Nat), .int .u32 (s.g : Nat), .int .u32 (s.h : Nat)]
structure St.Ok (s : St) : Prop where
  a : s.a < 4294967296
  b : s.b < 4294967296
  c : s.c < 4294967296
  d : s.d < 4294967296
  e : s.e < 4294967296
  f : s.f < 4294967296
  g : s.g < 4294967296
  h : s.h < 4294967296
def ad (x y : Nat) : Nat := (x + y) % 4294967296
theorem ad_lt (x y : Nat) : ad x y < 4294967296 := Nat.mod_lt _ (by decide)
def sm0 (x : Nat) : Nat := (rot x 7 ^^^ rot x 18) ^^^ x / 8
def sm1 (x : Nat) : Nat := (rot x 17 ^^^ rot x 19) ^^^ x / 1024
def sg1 (e : Nat) : Nat := (rot e 6 ^^^ rot e 11) ^^^ rot e 25
def sg0 (a : Nat) : Nat := (rot a 2 ^^^ rot a 13) ^^^ rot a 22
def chF (e f g : Nat) : Nat := (e &&& f) ^^^ ((4294967295 - e) &&& g)
def majF (a b c : Nat) : Nat := ((a &&& b) ^^^ (a &&& c)) ^^^ (b &&& c)
def xF (k w : Nat) (s : St) : Nat := (s.h + sg1 s.e + chF s.e s.f s.g + k + w) % 4294967296
def yF (s : St) : Nat := ad (sg0 s.a) (majF s.a s.b s.c)
def rnd (k w : Nat) (s : St) : St := ⟨ad (xF k w s) (yF s), s.a, s.b, s.c, ad s.d (xF k w s), s.e, s.f, s.g⟩
def rnds (K W : List Nat) (s : St) : Nat → St
  | 0 => s
  | i + 1 => rnd (K.getD i 0) (W.getD i 0) (rnds K W s i)
theorem rnds_ok (K W : List Nat) (s : St) (h : s.Ok) : ∀ i, (rnds K W s i).Ok
  | 0 => h
  | i + 1 => by
    have ih := rnds_ok K W s h i
    exact ⟨ad_lt _ _, ih.a, ih.b, ih.c, ad_lt _ _, ih.e, ih.f, ih.g⟩
def wordAt (b : List UInt8) (i : Nat) : Nat := getN ((b.drop (4 * i)).take 4)
theorem wordAt_lt (b : List UInt8) (i : Nat) : wordAt b i < 4294967296 := by
  have h := getN_lt ((b.drop (4 * i)).take 4)
  have h2 : ((b.drop (4 * i)).take 4).length ≤ 4 := by simp; omega
  have h3 := Nat.pow_le_pow_right (n := 256) (by decide) h2
  have h4 : (256 : Nat) ^ 4 = 4294967296 := by decide
  unfold wordAt
  rw [h4] at h3
  exact Nat.lt_of_lt_of_le h h3
def nextW (L : List Nat) (i : Nat) : Nat := (L.getD (i - 16) 0 + sm0 (L.getD (i - 15) 0) + L.getD (i - 7) 0 + sm1 (L.getD (i - 2) 0)) % 4294967296
theorem nextW_lt (L : List Nat) (i : Nat) : nextW L i < 4294967296 := Nat.mod_lt _ (by decide)
def sched (b : List UInt8) : Nat → List Nat
  | 0 => []
  | i + 1 => sched b i ++ [if i < 16 then wordAt b i else nextW (sched b i) i]
theorem sched_len (b : List UInt8) : ∀ i, (sched b i).length = i
  | 0 => rfl
  | i + 1 => by rw [sched, List.length_append, sched_len b i]; rfl
theorem sched_get (b : List UInt8) (n i : Nat) (h : i < n) : (sched b n).getD i 0 = if i < 16 then wordAt b i else nextW (sched b i) i := by
  induction n with
  | zero => omega
  | succ n ih =>
    rw [sched, List.getD_eq_getElem?_getD]
    by_cases e : i = n
    · subst e
      rw [List.getElem?_append_right (by rw [sched_len]; exact Nat.le_refl _), sched_len, Nat.sub_self, List.getElem?_cons_zero, Option.getD_some]
    · rw [List.getElem?_append_left (by rw [sched_len]; omega), ← List.getD_eq_getElem?_getD]
      exact ih (by omega)
theorem sched_next (b : List UInt8) (n i : Nat) (h : i < n) (h16 : 16 ≤ i) : (sched b n).getD i 0 = nextW (sched b n) i := by
  have key : ∀ j, j < i → (sched b n).getD j 0 = (sched b i).getD j 0 := fun j hj => by
    rw [sched_get b n j (by omega), sched_get b i j hj]
  rw [sched_get b n i h, if_neg (by omega)]
  unfold nextW
  rw [key (i - 16) (by omega), key (i - 15) (by omega), key (i - 7) (by omega), key (i - 2) (by omega)]
theorem sched_lt (b : List UInt8) (n i : Nat) : (sched b n).getD i 0 < 4294967296 := by
  by_cases h : i < n
  · rw [sched_get b n i h]
    split
    · exact wordAt_lt _ _
    · exact nextW_lt _ _
  · rw [List.getD_eq_getElem?_getD, List.getElem?_eq_none (by rw [sched_len]; omega)]; decide
theorem keyL_lt (i : Nat) : keyL.getD i 0 < 4294967296 := by
  by_cases h : i < 64
  · have : ∀ i, i < 64 → keyL.getD i 0 < 4294967296 := by decide +kernel
    exact this i h
  · have e : keyL.length = 64 := by decide +kernel
    rw [List.getD_eq_getElem?_getD, List.getElem?_eq_none (by rw [e]; omega)]; decide
theorem xor32 {x y : Nat} (hx : x < 4294967296) (hy : y < 4294967296) : x ^^^ y < 4294967296 := Nat.xor_lt_two_pow (n := 32) hx hy
theorem and32 {x y : Nat} (hx : x < 4294967296) : x &&& y < 4294967296 := Nat.lt_of_le_of_lt Nat.and_le_left hx
theorem sm0_bits (x : Nat) (hx : x < 4294967296) : bits .xor .u32 (bits .xor .u32 ((rot x 7 : Nat) : Int) ((rot x 18 : Nat) : Int)) ((x : Int) / 8) = ((sm0 x : Nat) : Int) := by
  have h1 := rot_lt x 7 (by decide) hx
  have h2 := rot_lt x 18 (by decide) hx
  have h3 : x / 8 < 4294967296 := Nat.lt_of_le_of_lt (Nat.div_le_self _ _) hx
  rw [show ((x : Int) / 8) = ((x / 8 : Nat) : Int) by simp, u32_xor_nat _ _ h1 h2, u32_xor_nat _ _ (xor32 h1 h2) h3]; rfl
theorem sm1_bits (x : Nat) (hx : x < 4294967296) : bits .xor .u32 (bits .xor .u32 ((rot x 17 : Nat) : Int) ((rot x 19 : Nat) : Int)) ((x : Int) / 1024) = ((sm1 x : Nat) : Int) := by
  have h1 := rot_lt x 17 (by decide) hx
  have h2 := rot_lt x 19 (by decide) hx
  have h3 : x / 1024 < 4294967296 := Nat.lt_of_le_of_lt (Nat.div_le_self _ _) hx
  rw [show ((x : Int) / 1024) = ((x / 1024 : Nat) : Int) by simp, u32_xor_nat _ _ h1 h2, u32_xor_nat _ _ (xor32 h1 h2) h3]; rfl
theorem sg1_bits (x : Nat) (hx : x < 4294967296) : bits .xor .u32 (bits .xor .u32 ((rot x 6 : Nat) : Int) ((rot x 11 : Nat) : Int)) ((rot x 25 : Nat) : Int) = ((sg1 x : Nat) : Int) := by
  have h1 := rot_lt x 6 (by decide) hx
  have h2 := rot_lt x 11 (by decide) hx
  have h3 := rot_lt x 25 (by decide) hx
  rw [u32_xor_nat _ _ h1 h2, u32_xor_nat _ _ (xor32 h1 h2) h3]; rfl
theorem sg0_bits (x : Nat) (hx : x < 4294967296) : bits .xor .u32 (bits .xor .u32 ((rot x 2 : Nat) : Int) ((rot x 13 : Nat) : Int)) ((rot x 22 : Nat) : Int) = ((sg0 x : Nat) : Int) := by
  have h1 := rot_lt x 2 (by decide) hx
  have h2 := rot_lt x 13 (by decide) hx
  have h3 := rot_lt x 22 (by decide) hx
  rw [u32_xor_nat _ _ h1 h2, u32_xor_nat _ _ (xor32 h1 h2) h3]; rfl
theorem chF_bits (e f g : Nat) (he : e < 4294967296) (hf : f < 4294967296) (_hg : g < 4294967296) : bits .xor .u32 (bits .and .u32 (e : Int) (f : Int)) (bits .and .u32 (4294967295 - (e : Int)) (g : Int)) = ((chF e f g : Nat) : Int) := by
  have h1 : 4294967295 - e < 4294967296 := by omega
  rw [show (4294967295 - (e : Int)) = ((4294967295 - e : Nat) : Int) by omega, u32_and_nat _ _ he hf, u32_and_nat _ _ h1 _hg, u32_xor_nat _ _ (and32 he) (and32 h1)]; rfl
theorem majF_bits (a b c : Nat) (ha : a < 4294967296) (hb : b < 4294967296) (hc : c < 4294967296) : bits .xor .u32 (bits .xor .u32 (bits .and .u32 (a : Int) (b : Int)) (bits .and .u32 (a : Int) (c : Int))) (bits .and .u32 (b : Int) (c : Int)) = ((majF a b c : Nat) : Int) := by
  rw [u32_and_nat _ _ ha hb, u32_and_nat _ _ ha hc, u32_and_nat _ _ hb hc, u32_xor_nat _ _ (and32 ha) (and32 ha), u32_xor_nat _ _ (xor32 (and32 ha) (and32 ha)) (and32 hb)]; rfl
theorem nextW_int (L : List Nat) (i a16 a15 a7 a2 s0 s1 : Nat) (h16 : a16 = L.getD (i - 16) 0) (h15 : s0 = sm0 (L.getD (i - 15) 0)) (h7 : a7 = L.getD (i - 7) 0) (h2 : s1 = sm1 (L.getD (i - 2) 0)) :
    ((a16 : Int) + (s0 : Int) + (a7 : Int) + (s1 : Int)) % 4294967296 = ((nextW L i : Nat) : Int) := by
  subst h16 h15 h7 h2; unfold nextW; simp
theorem xF_int (t : St) (k w : Nat) : ∃ p1 p2 p3 x : Nat, ((t.h : Int) + (sg1 t.e : Nat)) % 4294967296 = (p1 : Int) ∧ ((p1 : Int) + (chF t.e t.f t.g : Nat)) % 4294967296 = (p2 : Int) ∧ ((p2 : Int) + (k : Nat)) % 4294967296 = (p3 : Int) ∧ ((p3 : Int) + (w : Nat)) % 4294967296 = (x : Int) ∧ x = xF k w t := by
  refine ⟨(t.h + sg1 t.e) % 4294967296, ((t.h + sg1 t.e) % 4294967296 + chF t.e t.f t.g) % 4294967296, (((t.h + sg1 t.e) % 4294967296 + chF t.e t.f t.g) % 4294967296 + k) % 4294967296, _, by simp, by simp, by simp, ?_, rfl⟩
  unfold xF; simp
theorem not_bits (e : Nat) (he : e < 4294967296) : bits .xor .u32 (if IntKind.u32.signed = true then -1 else IntKind.u32.max) (e : Int) = 4294967295 - (e : Int) := by
  have h : (if IntKind.u32.signed = true then (-1 : Int) else IntKind.u32.max) = ((4294967295 : Nat) : Int) := by decide
  have h2 : (4294967295 : Nat) ^^^ e = 4294967295 - e := by
    have e1 : (4294967295 : Nat) = 2 ^ 32 - 1 := by decide
    have e2 : 4294967295 - e = 2 ^ 32 - (e + 1) := by have : (2 : Nat) ^ 32 = 4294967296 := by decide
                                                      omega
    rw [e2, e1]
    refine Nat.eq_of_testBit_eq fun i => ?_
    rw [Nat.testBit_xor, Nat.testBit_two_pow_sub_one, Nat.testBit_two_pow_sub_succ he]
    by_cases hi : i < 32
    · simp [hi]
    · have : e.testBit i = false := Nat.testBit_lt_two_pow (Nat.lt_of_lt_of_le he (Nat.pow_le_pow_right (n := 2) (by decide) (show 32 ≤ i by omega)))
      simp [hi, this]
  rw [h, u32_xor_nat _ _ (by decide) he, h2]; omega
def plus (s t : St) : St := ⟨ad s.a t.a, ad s.b t.b, ad s.c t.c, ad s.d t.d, ad s.e t.e, ad s.f t.f, ad s.g t.g, ad s.h t.h⟩
def comp (s : St) (b : List UInt8) : St := plus s (rnds keyL (sched b 64) s 64)
theorem comp_ok (s : St) (b : List UInt8) : (comp s b).Ok := ⟨ad_lt _ _, ad_lt _ _, ad_lt _ _, ad_lt _ _, ad_lt _ _, ad_lt _ _, ad_lt _ _, ad_lt _ _⟩
def St.nth (s : St) : Nat → Nat
  | 0 => s.a
  | 1 => s.b
  | 2 => s.c
  | 3 => s.d
  | 4 => s.e
  | 5 => s.f
  | 6 => s.g
  | 7 => s.h
  | _ => 0
/-- The first k words added, the others as they were. -/
def mixV (s t : St) (k j : Nat) : Value := .int .u32 (((if j < k then ad (s.nth j) (t.nth j) else s.nth j) : Nat) : Int)
theorem lt8 {j : Nat} (h : j < 8) : j = 0 ∨ j = 1 ∨ j = 2 ∨ j = 3 ∨ j = 4 ∨ j = 5 ∨ j = 6 ∨ j = 7 := by omega
theorem mix_zero (s t : St) : s.cells = rowA 8 (mixV s t 0) := rowA_of rfl fun j h => by
  rcases lt8 h with rfl | rfl | rfl | rfl | rfl | rfl | rfl | rfl <;> rfl
theorem mix_all (s t : St) : rowA 8 (mixV s t 8) = (plus s t).cells := by
  refine (rowA_of (n := 8) (A := (plus s t).cells) rfl fun j h => ?_).symm
  rcases lt8 h with rfl | rfl | rfl | rfl | rfl | rfl | rfl | rfl <;> rfl
theorem cells_nth (s : St) {j : Nat} (h : j < 8) : s.cells[j]? = some (.int .u32 (s.nth j : Nat)) := by
  rcases lt8 h with rfl | rfl | rfl | rfl | rfl | rfl | rfl | rfl <;> rfl
theorem mix_set (s t : St) (k : Nat) (_h : k < 8) : (rowA 8 (mixV s t k)).setIfInBounds k (.int .u32 ((ad (s.nth k) (t.nth k) : Nat) : Int)) = rowA 8 (mixV s t (k + 1)) := by
  rw [rowA_set]
  refine rowA_ext fun j hj => ?_
  unfold mixV
  by_cases e : j = k
  · subst e; rw [if_pos rfl, if_pos (by omega)]
  · rw [if_neg e]
    by_cases e2 : j < k
    · rw [if_pos e2, if_pos (by omega)]
    · rw [if_neg e2, if_neg (by omega)]
end Go.Proofs.YtbbjoahloghpkaaDoor
