/- The law BaseJoins. -/
import Derived.Test.YtbedanlkkidkkadBas6
namespace Go.Proofs.Ytbedanlkkidkkad
open Go Go.RowKit
set_option linter.unusedSimpArgs false

theorem run_max2 {P : Program} (ts : Array TypeId) (t : TypeId) (k : IntKind) (x y : Int) (w : World) : (Builtin.max_ ts t #[.int k x, .int k y]).run P w = .ok (.int k (max x y)) w := by
  have e : ∀ a b : Int, (if b > a then b else a) = max a b := fun a b => by omega
  simp only [Builtin.max_, List.foldlM_cons, List.foldlM_nil, Builtin.max2, Sem.run_bind, Sem.run_pure, Result.andThen, e]

set_option maxRecDepth 100000 in
set_option maxHeartbeats 4000000 in
theorem joins_hex (s t : ByteArray) (hs : s.size ≤ 500) (ht : t.size ≤ 500) (c n : Nat) (hc : c ≤ 255) (hn : n = c % 3) (h0 : n = 0) (w : World) :
    Calls Try.prog 3 #[.string s, .string t, .int .u8 (c : Int)] w fun e w' => e = .returned (.bool true) ∧ Below w.heap.size w w' := by
  have hmax : ∀ (ts : Array TypeId) (ty : TypeId) (w : World), (Builtin.max_ ts ty #[.int .i64 s.size, .int .i64 t.size]).run Try.prog w = .ok (.int .i64 (max (s.size : Int) (t.size : Int))) w := fun ts ty w => run_max2 ts ty .i64 _ _ w
  have hgt : decide ((500 : Int) < max (s.size : Int) (t.size : Int)) = false := by rw [decide_eq_false_iff_not]; omega
  have hcn : (c : Int) % 3 = (n : Int) := by omega
  have hn2 : n ≤ 2 := by omega
  have hG := kind_good n
  have hu3 : Kk n = 4 ∨ s.size % 3 = 0 := .inl (by rw [h0]; rfl)
  have hu3' : Kk n = 4 ∨ s.data.toList.length % 3 = 0 := .inl (by rw [h0]; rfl)
  obtain ⟨u, hu⟩ : ∃ u, u = s := ⟨_, rfl⟩
  rw [← hu] at hs hmax hgt hu3 hu3' ⊢
  have hn0 : ((n : Int) == 0) = true := by rw [beq_iff_eq]; omega
  clear hu h0 s
  have hkz : 0 < Kk n := by have := hG.k46; omega
  have LA := fun w => alphabet_any n w
  have LE1 := fun w => encode_any (KL n) (Kk n) (Kf n) hG (u ++ t) (by rw [ByteArray.size_append]; omega) w
  have LE2 := fun w => encode_any (KL n) (Kk n) (Kf n) hG u (by omega) w
  have LE3 := fun w => encode_any (KL n) (Kk n) (Kf n) hG t (by omega) w
  have LS1 := fun w => size_any (KL n) (Kk n) (Kf n) (u.size + t.size) hG.k46 hG.fill6 (by omega) w
  have LS2 := fun w => size_any (KL n) (Kk n) (Kf n) u.size hG.k46 hG.fill6 (by omega) w
  have LS3 := fun w => size_any (KL n) (Kk n) (Kf n) t.size hG.k46 hG.fill6 (by omega) w
  have hjoin := enc_append hG u.data.toList t.data.toList hu3'
  have hsum := size_add hG.k46 hG.fill6 u.size t.size hu3
  have hA2 := enc_size (L := KL n) (k := Kk n) (fill := Kf n) hkz u.data.toList
  have hA3 := enc_size (L := KL n) (k := Kk n) (fill := Kf n) hkz t.data.toList
  have hbu : ∀ m, m ≤ 2000 → sizeN (Kk n) (Kf n) m ≤ 100000 := fun m hm => by
    have h4 : (8 * m + (Kk n - 1)) / Kk n ≤ 8 * m + (Kk n - 1) := Nat.div_le_self _ _
    have h6 := hG.k46
    unfold sizeN padN; split <;> omega
  have hb2 := hbu u.size (by omega)
  have hb3 := hbu t.size (by omega)
  unfold alpha at LA LE1 LE2 LE3 LS1 LS2 LS3
  obtain ⟨L, hL⟩ : ∃ L, L = KL n := ⟨_, rfl⟩
  obtain ⟨k, hk⟩ : ∃ k, k = Kk n := ⟨_, rfl⟩
  obtain ⟨f, hf⟩ : ∃ f, f = Kf n := ⟨_, rfl⟩
  rw [← hL, ← hk, ← hf] at LA LE1 LE2 LE3 hjoin hA2 hA3
  rw [← hL, ← hk, ← hf] at LS1 LS2 LS3
  rw [← hk, ← hf] at hsum hb2 hb3
  have lu : u.data.toList.length = u.size := by simp
  have lt' : t.data.toList.length = t.size := by simp
  rw [lu] at hA2
  rw [lt'] at hA3
  obtain ⟨A, hA⟩ : ∃ A : ByteArray, A = ⟨(enc L k f u.data.toList).toArray⟩ := ⟨_, rfl⟩
  obtain ⟨B, hB⟩ : ∃ B : ByteArray, B = ⟨(enc L k f t.data.toList).toArray⟩ := ⟨_, rfl⟩
  have hAB : (⟨(enc L k f (u ++ t).data.toList).toArray⟩ : ByteArray) = A ++ B := by
    rw [hA, hB, ba_app, hjoin]; exact (ba_eq (by rw [ba_app])).symm
  have hAs : A.size ≤ 100000 := by rw [hA]; simp [ByteArray.size]; omega
  have hBs : B.size ≤ 100000 := by rw [hB]; simp [ByteArray.size]; omega
  rw [hAB] at LE1
  rw [← hA] at LE2
  rw [← hB] at LE3
  obtain ⟨N2, hN2⟩ : ∃ N, N = sizeN k f u.size := ⟨_, rfl⟩
  obtain ⟨N3, hN3⟩ : ∃ N, N = sizeN k f t.size := ⟨_, rfl⟩
  rw [hsum, ← hN2, ← hN3] at LS1
  rw [← hN2] at LS2 hb2
  rw [← hN3] at LS3 hb3
  replace LS1 : ∀ w, Calls Try.prog 10 #[.agg #[.string L, .int .i64 k, .bool f], .int .i64 ((u.size : Int) + (t.size : Int))] w fun e w' => e = .returned (.int .i64 ((N2 : Int) + (N3 : Int))) ∧ Below w.heap.size w w' := fun w => by
    have := LS1 w
    rwa [Int.natCast_add, Int.natCast_add] at this
  replace LA := hid LA
  replace LE1 := hid LE1
  replace LE2 := hid LE2
  replace LE3 := hid LE3
  replace LS1 := hid LS1
  replace LS2 := hid LS2
  replace LS3 := hid LS3
  replace hn := hid hn
  clear hL hk hf hG hA hB hAB hN2 hN3 hjoin hsum hA2 hA3 hkz hbu lu lt' hu3 hu3'
  go_enter Try.func3, Try.ntmps3
  go_wp2_with (first
    | (go_at_call 7; refine (awake_any _).mono ?_; rintro e w1 ⟨rfl, hB1⟩)
    | (go_at_call 8; refine (LA.out _).mono ?_; rintro e w2 ⟨rfl, hB2⟩))
  generalize hW : World.alloc w2 _ = W
  have hr : RowAt W w2.heap.size 24 #[.string L, .int .i64 k, .bool f] := by rw [← hW]; exact RowAt.new _ _ _
  have hBW : Below w.heap.size w W := by rw [← hW]; exact below_al (below_cat hB2 hB1) _
  clear hW

  have e0 : ∀ x : Sub W, x.x.cell? ⟨w2.heap.size, 0, none⟩ = some (.string L) := fun x => x.cell hr rfl
  have e1 : ∀ x : Sub W, x.x.cell? ⟨w2.heap.size, 1, none⟩ = some (.int .i64 k) := fun x => x.cell hr rfl
  have e2 : ∀ x : Sub W, x.x.cell? ⟨w2.heap.size, 2, none⟩ = some (.bool f) := fun x => x.cell hr rfl
  refine wp_region_sub (by kernel_rfl) (by kernel_rfl) ?_
  repeat (go_big_quiet_step (first
    | (go_at_call 9; with_reducible refine Sub.call _ (LE1.out _))
    | (go_at_call 9; with_reducible refine Sub.call _ (LE2.out _))
    | (go_at_call 9; with_reducible refine Sub.call _ (LE3.out _))
    | (go_at_call 10; with_reducible refine Sub.call _ (LS1.out _))
    | (go_at_call 10; with_reducible refine Sub.call _ (LS2.out _))
    | (go_at_call 10; with_reducible refine Sub.call _ (LS3.out _))))
  refine wpQuiet_nil ?_
  intro x
  go_wp2
  go_ret
  exact ⟨rfl, below_cat x.h hBW⟩

set_option maxRecDepth 100000 in
set_option maxHeartbeats 4000000 in
theorem joins_64 (s t : ByteArray) (hs : s.size ≤ 500) (ht : t.size ≤ 500) (c n : Nat) (hc : c ≤ 255) (hn : n = c % 3) (h0 : n ≠ 0) (w : World) :
    Calls Try.prog 3 #[.string s, .string t, .int .u8 (c : Int)] w fun e w' => e = .returned (.bool true) ∧ Below w.heap.size w w' := by
  have hmax : ∀ (ts : Array TypeId) (ty : TypeId) (w : World), (Builtin.max_ ts ty #[.int .i64 s.size, .int .i64 t.size]).run Try.prog w = .ok (.int .i64 (max (s.size : Int) (t.size : Int))) w := fun ts ty w => run_max2 ts ty .i64 _ _ w
  have hgt : decide ((500 : Int) < max (s.size : Int) (t.size : Int)) = false := by rw [decide_eq_false_iff_not]; omega
  have hcn : (c : Int) % 3 = (n : Int) := by omega
  have hn2 : n ≤ 2 := by omega
  have hG := kind_good n
  obtain ⟨u, hu⟩ : ∃ u, u = s.extract 0 (s.size / 3 * 3) := ⟨_, rfl⟩
  have husz : u.size = s.size / 3 * 3 := by rw [hu, ByteArray.size_extract]; omega
  have hu3 : Kk n = 4 ∨ u.size % 3 = 0 := .inr (by rw [husz]; omega)
  have hu3' : Kk n = 4 ∨ u.data.toList.length % 3 = 0 := .inr (by rw [show u.data.toList.length = u.size by simp, husz]; omega)
  have hus : u.size ≤ 500 := by omega
  have hn0 : ((n : Int) == 0) = false := by rw [beq_eq_false_iff_ne]; omega
  obtain ⟨m, hm⟩ : ∃ m, m = s.size / 3 * 3 := ⟨_, rfl⟩
  have hmi : (s.size : Int) / 3 * 3 = (m : Int) := by omega
  have hms : (m : Int) ≤ (s.size : Int) := by omega
  have hms2 : m ≤ s.size := by omega
  rw [← hm] at hu
  replace hu := hid hu
  clear h0 husz hm
  have hkz : 0 < Kk n := by have := hG.k46; omega
  have LA := fun w => alphabet_any n w
  have LE1 := fun w => encode_any (KL n) (Kk n) (Kf n) hG (u ++ t) (by rw [ByteArray.size_append]; omega) w
  have LE2 := fun w => encode_any (KL n) (Kk n) (Kf n) hG u (by omega) w
  have LE3 := fun w => encode_any (KL n) (Kk n) (Kf n) hG t (by omega) w
  have LS1 := fun w => size_any (KL n) (Kk n) (Kf n) (u.size + t.size) hG.k46 hG.fill6 (by omega) w
  have LS2 := fun w => size_any (KL n) (Kk n) (Kf n) u.size hG.k46 hG.fill6 (by omega) w
  have LS3 := fun w => size_any (KL n) (Kk n) (Kf n) t.size hG.k46 hG.fill6 (by omega) w
  have hjoin := enc_append hG u.data.toList t.data.toList hu3'
  have hsum := size_add hG.k46 hG.fill6 u.size t.size hu3
  have hA2 := enc_size (L := KL n) (k := Kk n) (fill := Kf n) hkz u.data.toList
  have hA3 := enc_size (L := KL n) (k := Kk n) (fill := Kf n) hkz t.data.toList
  have hbu : ∀ m, m ≤ 2000 → sizeN (Kk n) (Kf n) m ≤ 100000 := fun m hm => by
    have h4 : (8 * m + (Kk n - 1)) / Kk n ≤ 8 * m + (Kk n - 1) := Nat.div_le_self _ _
    have h6 := hG.k46
    unfold sizeN padN; split <;> omega
  have hb2 := hbu u.size (by omega)
  have hb3 := hbu t.size (by omega)
  unfold alpha at LA LE1 LE2 LE3 LS1 LS2 LS3
  obtain ⟨L, hL⟩ : ∃ L, L = KL n := ⟨_, rfl⟩
  obtain ⟨k, hk⟩ : ∃ k, k = Kk n := ⟨_, rfl⟩
  obtain ⟨f, hf⟩ : ∃ f, f = Kf n := ⟨_, rfl⟩
  rw [← hL, ← hk, ← hf] at LA LE1 LE2 LE3 hjoin hA2 hA3
  rw [← hL, ← hk, ← hf] at LS1 LS2 LS3
  rw [← hk, ← hf] at hsum hb2 hb3
  have lu : u.data.toList.length = u.size := by simp
  have lt' : t.data.toList.length = t.size := by simp
  rw [lu] at hA2
  rw [lt'] at hA3
  obtain ⟨A, hA⟩ : ∃ A : ByteArray, A = ⟨(enc L k f u.data.toList).toArray⟩ := ⟨_, rfl⟩
  obtain ⟨B, hB⟩ : ∃ B : ByteArray, B = ⟨(enc L k f t.data.toList).toArray⟩ := ⟨_, rfl⟩
  have hAB : (⟨(enc L k f (u ++ t).data.toList).toArray⟩ : ByteArray) = A ++ B := by
    rw [hA, hB, ba_app, hjoin]; exact (ba_eq (by rw [ba_app])).symm
  have hAs : A.size ≤ 100000 := by rw [hA]; simp [ByteArray.size]; omega
  have hBs : B.size ≤ 100000 := by rw [hB]; simp [ByteArray.size]; omega
  rw [hAB] at LE1
  rw [← hA] at LE2
  rw [← hB] at LE3
  obtain ⟨N2, hN2⟩ : ∃ N, N = sizeN k f u.size := ⟨_, rfl⟩
  obtain ⟨N3, hN3⟩ : ∃ N, N = sizeN k f t.size := ⟨_, rfl⟩
  rw [hsum, ← hN2, ← hN3] at LS1
  rw [← hN2] at LS2 hb2
  rw [← hN3] at LS3 hb3
  replace LS1 : ∀ w, Calls Try.prog 10 #[.agg #[.string L, .int .i64 k, .bool f], .int .i64 ((u.size : Int) + (t.size : Int))] w fun e w' => e = .returned (.int .i64 ((N2 : Int) + (N3 : Int))) ∧ Below w.heap.size w w' := fun w => by
    have := LS1 w
    rwa [Int.natCast_add, Int.natCast_add] at this
  replace LA := hid LA
  replace LE1 := hid LE1
  replace LE2 := hid LE2
  replace LE3 := hid LE3
  replace LS1 := hid LS1
  replace LS2 := hid LS2
  replace LS3 := hid LS3
  replace hn := hid hn
  clear hL hk hf hG hA hB hAB hN2 hN3 hjoin hsum hA2 hA3 hkz hbu lu lt' hu3 hu3'
  go_enter Try.func3, Try.ntmps3
  go_wp2_with (first
    | (go_at_call 7; refine (awake_any _).mono ?_; rintro e w1 ⟨rfl, hB1⟩)
    | (go_at_call 8; refine (LA.out _).mono ?_; rintro e w2 ⟨rfl, hB2⟩))
  generalize hW : World.alloc w2 _ = W
  have hr : RowAt W w2.heap.size 24 #[.string L, .int .i64 k, .bool f] := by rw [← hW]; exact RowAt.new _ _ _
  have hBW : Below w.heap.size w W := by rw [← hW]; exact below_al (below_cat hB2 hB1) _
  clear hW
  rw [← hu.out]
  have e0 : ∀ x : Sub W, x.x.cell? ⟨w2.heap.size, 0, none⟩ = some (.string L) := fun x => x.cell hr rfl
  have e1 : ∀ x : Sub W, x.x.cell? ⟨w2.heap.size, 1, none⟩ = some (.int .i64 k) := fun x => x.cell hr rfl
  have e2 : ∀ x : Sub W, x.x.cell? ⟨w2.heap.size, 2, none⟩ = some (.bool f) := fun x => x.cell hr rfl
  refine wp_region_sub (by kernel_rfl) (by kernel_rfl) ?_
  repeat (go_big_quiet_step (first
    | (go_at_call 9; with_reducible refine Sub.call _ (LE1.out _))
    | (go_at_call 9; with_reducible refine Sub.call _ (LE2.out _))
    | (go_at_call 9; with_reducible refine Sub.call _ (LE3.out _))
    | (go_at_call 10; with_reducible refine Sub.call _ (LS1.out _))
    | (go_at_call 10; with_reducible refine Sub.call _ (LS2.out _))
    | (go_at_call 10; with_reducible refine Sub.call _ (LS3.out _))))
  refine wpQuiet_nil ?_
  intro x
  go_wp2
  go_ret
  exact ⟨rfl, below_cat x.h hBW⟩

set_option maxRecDepth 100000 in
theorem joins_big (s t : ByteArray) (hbig : decide ((500 : Int) < max (s.size : Int) (t.size : Int)) = true) (c : Int) (w : World) :
    Calls Try.prog 3 #[.string s, .string t, .int .u8 c] w fun e w' => e = .returned (.bool true) ∧ Below w.heap.size w w' := by
  have hmax : ∀ (ts : Array TypeId) (ty : TypeId) (w : World), (Builtin.max_ ts ty #[.int .i64 s.size, .int .i64 t.size]).run Try.prog w = .ok (.int .i64 (max (s.size : Int) (t.size : Int))) w := fun ts ty w => run_max2 ts ty .i64 _ _ w
  go_enter Try.func3, Try.ntmps3
  go_wp2_with (go_at_call 7; refine (awake_any _).mono ?_; rintro e w1 ⟨rfl, hB1⟩)
  go_ret
  exact ⟨rfl, hB1⟩
theorem baseJoins_walk (s t : ByteArray) (c : Int) (_hs : s.size ≤ 140737488351232) (_ht : t.size ≤ 140737488351232) (wc : (Lit.int .u8 c).wf = true) (w : World) :
    Calls Try.prog 3 #[.string s, .string t, .int .u8 c] w fun e w' => e = .returned (.bool true) ∧ Below w.heap.size w w' := by
  have hb := bounds_u8 wc
  by_cases h : s.size ≤ 500 ∧ t.size ≤ 500
  · obtain ⟨m, rfl⟩ := Int.eq_ofNat_of_zero_le hb.1
    by_cases h0 : m % 3 = 0
    · exact joins_hex s t h.1 h.2 m (m % 3) (by omega) rfl h0 w
    · exact joins_64 s t h.1 h.2 m (m % 3) (by omega) rfl h0 w
  · exact joins_big s t (by rw [decide_eq_true_iff]; omega) c w
end Go.Proofs.Ytbedanlkkidkkad
