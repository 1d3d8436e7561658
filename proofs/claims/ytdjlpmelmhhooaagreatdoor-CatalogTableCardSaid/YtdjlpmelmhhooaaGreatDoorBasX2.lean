/- Letters: Size, alphabets, Encode. -/
import Derived.Test.YtdjlpmelmhhooaaGreatDoorBasX1
import Derived.Test.YtdjlpmelmhhooaaGreatDoorLibA
import Derived.Test.YtdjlpmelmhhooaaGreatDoorProg
import Derived.Test.YtdjlpmelmhhooaaGreatDoorShfY
import Derived.Test.YtdjlpmelmhhooaaGreatDoorShfX
import Derived.Test.YtdjlpmelmhhooaaGreatDoorKit
namespace Go.Proofs.YtdjlpmelmhhooaaGreatDoor
section
open Go Go.RowKit
set_option linter.unusedSimpArgs false

/-- An alphabet as a value. -/
def alpha (L : ByteArray) (k : Nat) (fill : Bool) : Value := .agg #[.string L, .int .i64 (k : Int), .bool fill]


set_option maxRecDepth 100000 in
theorem size_any (L : ByteArray) (k : Nat) (fill : Bool) (n : Nat) (hk : k = 4 ∨ k = 6) (hf : fill = true → k = 6) (hn : n ≤ 1000000) (w : World) :
    Calls Tryz.prog 73 #[alpha L k fill, .int .i64 (n : Int)] w fun e w' => e = .returned (.int .i64 (sizeN k fill n : Nat)) ∧ Below w.heap.size w w' := by
  rcases Nat.eq_zero_or_pos n with rfl | hn0
  · have e : sizeN k fill 0 = 0 := by
      unfold sizeN padN
      rcases hk with rfl | rfl
      · cases fill <;> simp
      · cases fill <;> simp
    rw [e]
    unfold alpha
    go_enter Tryz.func73, Tryz.ntmps73
    go_wp2
    go_ret
    exact ⟨rfl, below_al (Below.refl _ _) _⟩
  · have hd : decide ((n : Int) < 1) = false := by rw [decide_eq_false_iff_not]; omega
    unfold alpha
    rcases hk with rfl | rfl
    · obtain rfl : fill = false := by cases fill; rfl; exact absurd (hf rfl) (by decide)
      go_enter Tryz.func73, Tryz.ntmps73
      go_wp2
      generalize hW : World.alloc w _ = W
      have hr : RowAt W w.heap.size 80 #[.string L, .int .i64 4, .bool false] := by rw [← hW]; exact RowAt.new _ _ _
      have hB : Below w.heap.size w W := by rw [← hW]; exact below_al (Below.refl _ _) _
      clear hW
      have e1 : ∀ q : Sub W, q.x.cell? ⟨w.heap.size, 1, none⟩ = some (.int .i64 4) := fun q => q.cell hr rfl
      refine wp_region_sub (by kernel_rfl) (by kernel_rfl) ?_
      repeat (go_big_quiet_step (fail))
      refine wpQuiet_nil ?_
      intro q
      have e2 : q.x.cell? ⟨w.heap.size, 2, none⟩ = some (.bool false) := q.cell hr rfl
      go_wp2
      go_ret
      exact ⟨ret_int (by simp only [sizeN, padN]; simp; omega), below_cat q.h hB⟩
    · go_enter Tryz.func73, Tryz.ntmps73
      go_wp2
      generalize hW : World.alloc w _ = W
      have hr : RowAt W w.heap.size 80 #[.string L, .int .i64 6, .bool fill] := by rw [← hW]; exact RowAt.new _ _ _
      have hB : Below w.heap.size w W := by rw [← hW]; exact below_al (Below.refl _ _) _
      clear hW
      have e1 : ∀ q : Sub W, q.x.cell? ⟨w.heap.size, 1, none⟩ = some (.int .i64 6) := fun q => q.cell hr rfl
      refine wp_region_sub (by kernel_rfl) (by kernel_rfl) ?_
      repeat (go_big_quiet_step (fail))
      refine wpQuiet_nil ?_
      intro q
      have e2 : q.x.cell? ⟨w.heap.size, 2, none⟩ = some (.bool fill) := q.cell hr rfl
      cases fill
      · go_wp2
        go_ret
        exact ⟨ret_int (by simp only [sizeN, padN]; simp; omega), below_cat q.h hB⟩
      · go_wp2
        go_ret
        have e : (n : Int) / 6 * 8 + ((n : Int) % 6 * 8 + 6 - 1) / 6 = (((8 * n + (6 - 1)) / 6 : Nat) : Int) := by omega
        refine ⟨ret_int ?_, below_cat q.h hB⟩
        simp only [sizeN, padN, if_true]
        rw [e]
        generalize (8 * n + (6 - 1)) / 6 = m
        omega

/-- The result is a whole struct out of a box. -/
theorem results_agg {P : Program} {fn : Func} {p : Tmp} {ty : TypeId} (h : fn.results = #[.cell p ty]) (tmps : Array Value) (w : World) (b : Nat) (x y z : Value) (hp : tmps.getD p undef = .pointer (some ⟨b, 0, none⟩))
    (ha : ∀ w, (isAgg ty).run P w = .ok true w) (hz : ∀ w, (sizeOf ty).run P w = .ok 3 w) (hr : RowAt w b ty #[x, y, z]) : (results fn tmps).run P w = .ok (.agg #[x, y, z]) w := by
  have hp' : tmps[p]?.getD undef = .pointer (some ⟨b, 0, none⟩) := by simpa using hp
  have c0 : w.cell? ⟨b, 0, none⟩ = some x := hr.cell rfl
  have c1 : w.cell? ⟨b, 1, none⟩ = some y := hr.cell rfl
  have c2 : w.cell? ⟨b, 2, none⟩ = some z := hr.cell rfl
  simp [results, h, hp', asAddr, loadVar, ha, hz, go_sem, c0, c1, c2]
set_option maxRecDepth 100000 in
theorem hex_any (w : World) : Calls Tryz.prog 45 #[] w fun e w' => e = .returned (alpha hexL 4 false) ∧ Below w.heap.size w w' := by
  go_enter Tryz.func45, Tryz.ntmps45
  go_wp2
  refine bodyPost_ret (results_agg rfl _ _ w.heap.size _ _ _ rfl Tryz.isAgg80 Tryz.sizeOf80 (RowAt.new _ _ _)) rfl ?_
  exact ⟨by rfl, below_al (Below.refl _ _) _⟩
set_option maxRecDepth 100000 in
theorem std_any (w : World) : Calls Tryz.prog 65 #[] w fun e w' => e = .returned (alpha stdL 6 true) ∧ Below w.heap.size w w' := by
  go_enter Tryz.func65, Tryz.ntmps65
  go_wp2
  refine bodyPost_ret (results_agg rfl _ _ w.heap.size _ _ _ rfl Tryz.isAgg80 Tryz.sizeOf80 (RowAt.new _ _ _)) rfl ?_
  exact ⟨by rfl, below_al (Below.refl _ _) _⟩
end
section
open Go

theorem ofInt_i64 (a : Nat) (ha : a < 9223372036854775808) : (BitVec.ofInt 64 (a : Int)).toNat = a := by
  rw [BitVec.ofInt_natCast, BitVec.toNat_ofNat]; exact Nat.mod_eq_of_lt (by omega)
theorem i64_and_nat (a b : Nat) (ha : a < 9223372036854775808) (hb : b < 9223372036854775808) : bits .and .i64 (a : Int) (b : Int) = ((a &&& b : Nat) : Int) := by
  have hx : a &&& b < 2 ^ 63 := Nat.and_lt_two_pow _ (by omega)
  show IntKind.i64.wrap ((BitVec.ofInt 64 (a : Int) &&& BitVec.ofInt 64 (b : Int)).toNat : Int) = _
  rw [BitVec.toNat_and, ofInt_i64 a ha, ofInt_i64 b hb, IntKind.wrap_i64]
  omega
theorem i64_or_nat (a b : Nat) (ha : a < 9223372036854775808) (hb : b < 9223372036854775808) : bits .or .i64 (a : Int) (b : Int) = ((a ||| b : Nat) : Int) := by
  have hx : a ||| b < 2 ^ 63 := Nat.or_lt_two_pow (by omega) (by omega)
  show IntKind.i64.wrap ((BitVec.ofInt 64 (a : Int) ||| BitVec.ofInt 64 (b : Int)).toNat : Int) = _
  rw [BitVec.toNat_or, ofInt_i64 a ha, ofInt_i64 b hb, IntKind.wrap_i64]
  omega
theorem i64_or_add (a j b : Nat) (hb : b < 2 ^ j) (h : a * 2 ^ j + b < 9223372036854775808) : bits .or .i64 ((a * 2 ^ j : Nat) : Int) (b : Int) = ((a * 2 ^ j + b : Nat) : Int) := by
  have h1 := i64_or_nat (a * 2 ^ j) b (by omega) (by omega)
  have e : a * 2 ^ j ||| b = a * 2 ^ j + b := by
    have := Nat.two_pow_add_eq_or_of_lt (i := j) (b := b) hb a
    rw [Nat.mul_comm]; exact this.symm
  rw [h1, e]
theorem i64_and_mask (a j : Nat) (ha : a < 9223372036854775808) (hj : j ≤ 62) : bits .and .i64 (a : Int) ((2 ^ j - 1 : Nat) : Int) = ((a % 2 ^ j : Nat) : Int) := by
  have hp : 2 ^ j ≤ 2 ^ 62 := Nat.pow_le_pow_right (by omega) hj
  rw [i64_and_nat a (2 ^ j - 1) ha (by omega), Nat.and_two_pow_sub_one_eq_mod]
end
section
open Go Go.RowKit
set_option linter.unusedSimpArgs false

theorem bld_new (B : Nat) (w : World) (hB : B ≤ w.heap.size) : Bld B w.heap.size [] (w.alloc (.cells #[.pointer none, .slice none 0 0] 112)) :=
  .inl ⟨hB, _, RowAt.new w _ _, World.ownsRow_nil _ _ _ _, by simp [Value.ownBlock]⟩
theorem bldAt_below {T e : TypeId} {B b : Nat} {p : Value} {bs : List Value} {w w' : World} (h : Lib.BuilderAt T e B b p bs w) (hk : Below w.heap.size w w') : Lib.BuilderAt T e B b p bs w' := by
  obtain ⟨h1, v, h2, h3, h4⟩ := h
  exact ⟨h1, v, (hk.block b (Array.getElem?_eq_some_iff.1 h2).1).trans h2, h3.kept (row := none) ⟨hk.os, hk.tape, hk.output, hk.size, fun k hk' _ => hk.block k hk'⟩ (by cases hv : v.ownBlock <;> simp), h4⟩
theorem bld_below {B b : Nat} {l : List UInt8} {w w' : World} (h : Bld B b l w) (hk : Below w.heap.size w w') : Bld B b l w' := h.imp (bldAt_below · hk) (bldAt_below · hk)
theorem writeByte_any (B b : Nat) (l : List UInt8) (c : UInt8) (w : World) (h : Bld B b l w) (hl : l.length ≤ 1000000000) (hB : B ≤ w.heap.size) :
    Calls Tryz.prog 84 #[.pointer (some ⟨b, 0, none⟩), .int .u8 (c.toNat : Int)] w fun e w' => e = .returned .nilIface ∧ Bld B b (l ++ [c]) w' ∧ Below B w w' := by
  refine (Any.Builder_WriteByte bld_167 bld_extra B b (Lib.byteCells l) (c.toNat : Int) w h (by rw [Lib.byteCells_length]; omega) hB).mono ?_
  rintro e w' ⟨he, hb, hk⟩
  refine ⟨he, .inr ?_, hk⟩
  rw [Lib.byteCells_append]; exact hb
theorem writeString_any (B b : Nat) (l : List UInt8) (s : ByteArray) (w : World) (h : Bld B b l w) (hl : l.length + s.size ≤ 1000000000) (hB : B ≤ w.heap.size) :
    Calls Tryz.prog 85 #[.pointer (some ⟨b, 0, none⟩), .string s] w fun e w' => e = .returned (.tuple #[.int .i64 s.size, .nilIface]) ∧ Bld B b (l ++ s.data.toList) w' ∧ Below B w w' := by
  refine (Any.Builder_WriteString bld_166 bld_extra B b (Lib.byteCells l) s w h (by rw [Lib.byteCells_length]; omega) hB).mono ?_
  rintro e w' ⟨he, hb, hk⟩
  refine ⟨he, .inr ?_, hk⟩
  rw [Lib.byteCells_append]; exact hb
theorem bldLen_any (B b : Nat) (l : List UInt8) (w : World) (h : Bld B b l w) :
    Calls Tryz.prog 87 #[.pointer (some ⟨b, 0, none⟩)] w fun e w' => e = .returned (.int .i64 (l.length : Nat)) ∧ w = w' := by
  refine (Any.Builder_Len bld_170 B b (Lib.byteCells l) w h).mono ?_
  rintro e w' ⟨he, hk⟩
  rw [Lib.byteCells_length] at he
  exact ⟨he, hk.symm⟩
theorem bldString_any (B b : Nat) (l : List UInt8) (w : World) (h : Bld B b l w) (hB : B ≤ w.heap.size) :
    Calls Tryz.prog 88 #[.pointer (some ⟨b, 0, none⟩)] w fun e w' => e = .returned (.string ⟨l.toArray⟩) ∧ Below B w w' :=
  Any.Builder_String_any bld_169 bld_extra B b l w h hB


theorem wrap64_in (n : Int) (h : -9223372036854775808 ≤ n ∧ n ≤ 9223372036854775807) : wrap64 n = n := by rw [← IntWalk.i64_left, IntWalk.i64_in n h]
theorem mask_form (m : Nat) (hm : m ≤ 62) : wrap64 (wrap64 (2 ^ m) - 1) = ((2 ^ m - 1 : Nat) : Int) := by
  have h1 : (2 : Nat) ^ m ≤ 2 ^ 62 := Nat.pow_le_pow_right (by omega) hm
  have h2 : 0 < (2 : Nat) ^ m := Nat.two_pow_pos m
  have e : ((2 : Int) ^ m) = ((2 ^ m : Nat) : Int) := by simp
  rw [e, wrap64_in ((2 ^ m : Nat) : Int) (by omega), wrap64_in (((2 ^ m : Nat) : Int) - 1) (by omega)]
  omega
theorem bitMask_any (v m : Nat) (hm : m ≤ 62) (hv : v < 9223372036854775808) : bits .and .i64 (v : Int) (wrap64 (wrap64 (2 ^ m) - 1)) = ((v % 2 ^ m : Nat) : Int) := by
  rw [mask_form m hm, i64_and_mask v m hv hm]
theorem box_below {B : Nat} {w w' : World} {b : Nat} {t : TypeId} {A : Array Value} (h : RowAt w b t A) (hk : Below B w w') (hb : b < B) : RowAt w' b t A := (hk.block b hb).trans h
set_option maxRecDepth 100000 in
set_option maxHeartbeats 4000000 in
theorem encode_any (L : ByteArray) (k : Nat) (fill : Bool) (hG : Good L k fill) (s : ByteArray) (hs : s.size ≤ 100000) (w : World) :
    Calls Tryz.prog 46 #[alpha L k fill, .string s] w fun e w' => e = .returned (.string ⟨(enc L k fill s.data.toList).toArray⟩) ∧ Below w.heap.size w w' := by
  have hk := hG.k46
  have hk0 : ((k : Int) == 0) = false := by rw [beq_eq_false_iff_ne]; omega
  have hkz : 0 < k := by omega
  replace hk := hid hk
  replace hG := hid hG
  unfold alpha
  go_enter Tryz.func46, Tryz.ntmps46
  go_wp2
  generalize hW : World.alloc _ (.cells #[.pointer none, .slice none 0 0] 112) = W
  have hr : RowAt W w.heap.size 80 #[.string L, .int .i64 k, .bool fill] := by rw [← hW]; exact (RowAt.new _ _ _).alloc _
  have hB : Below w.heap.size w W := by rw [← hW]; exact below_al (below_al (Below.refl _ _) _) _
  have hb0 : Bld (w.heap.size + 1) (w.heap.size + 1) [] W := by rw [← hW]; have := bld_new (w.heap.size + 1) (w.alloc (.cells #[.string L, .int .i64 k, .bool fill] 80)) (by simp); rwa [World.size_alloc] at this
  have hsz : w.heap.size + 2 ≤ W.heap.size := by rw [← hW]; simp
  clear hW
  replace hr := hid hr
  replace hB := hid hB
  replace hb0 := hid hb0
  go_loopw [6, 7, 14] (fun h v i wr => ∃ (n : Nat) (p D : List Nat), i = .int .i64 n ∧ n ≤ s.size ∧ h = .int .i64 (valB p : Nat) ∧ v = .int .i64 (p.length : Nat) ∧ p.length < k ∧ Hid (IsBits p) ∧ Hid (digits k (bitsOf s.data.toList) = D ++ digits k (p ++ bitsOf (s.data.toList.drop n))) ∧
      Hid (RowAt wr w.heap.size 80 #[.string L, .int .i64 k, .bool fill]) ∧ Hid (Below w.heap.size w wr) ∧ Hid (Bld (w.heap.size + 1) (w.heap.size + 1) (letters L D) wr) ∧ w.heap.size + 2 ≤ wr.heap.size) (fun _ _ i _ => s.size - (intOf i).toNat)
  case atStart => exact ⟨0, [], [], rfl, Nat.zero_le _, rfl, rfl, hkz, hid (fun _ h => by cases h), hid rfl, hr, hB, hb0, hsz⟩
  case round =>
    obtain ⟨n, p, D, rfl, hn, rfl, rfl, hpk, hp, hd, hr, hB, hb, hsz⟩ := hrel
    by_cases hlt : n < s.size
    · have hlt' : decide ((n : Int) < (s.size : Int)) = true := by rw [decide_eq_true_iff]; omega
      have hdrop : s.data.toList.drop n = s[n] :: s.data.toList.drop (n + 1) := by
        rw [List.drop_eq_getElem_cons (by simpa using hlt)]; rfl
      have hvp := valB_lt hp.out
      have hk6 : k ≤ 6 := by have := hk.out; omega
      have hv64 : valB p < 64 := Nat.lt_of_lt_of_le hvp (Nat.pow_le_pow_right (by omega) (show p.length ≤ 6 by omega))
      have hpl : (p.length : Int) ≤ 5 := by omega
      have hc256 := s[n].toNat_lt
      obtain ⟨P, hP⟩ : ∃ P, P = p ++ bitsK 8 s[n].toNat := ⟨_, rfl⟩
      have hPl : P.length = p.length + 8 := by rw [hP, List.length_append, bitsK_len]
      have hvP : valB P = valB p * 2 ^ 8 + s[n].toNat := by rw [hP, valB_append, bitsK_len, valB_bitsK, Nat.mod_eq_of_lt (show s[n].toNat < 2 ^ 8 from hc256)]
      have hPb : IsBits P := by rw [hP, isBits_append]; exact ⟨hp.out, bitsK_is _ _⟩
      have hor : bits .or .i64 ((valB p : Int) * 256) ((s[n].toNat : Nat) : Int) = (valB P : Int) := by
        have := i64_or_add (valB p) 8 s[n].toNat hc256 (by omega)
        rw [hvP, ← this]; rfl
      have hplus : (p.length : Int) + 8 = (P.length : Int) := by omega
      have hdP : digits k (bitsOf s.data.toList) = D ++ digits k (P ++ bitsOf (s.data.toList.drop (n + 1))) := by
        rw [hd.out, hdrop, bitsOf_cons, hP, List.append_assoc]
      have hv256 : (valB p : Int) < 64 := by omega
      have hPl2 : P.length ≤ 13 := by omega
      replace hdP := hid hdP
      replace hPb := hid hPb
      clear hP hvP hPl hdrop hd hvp hv64 hp
      go_wp2
      obtain ⟨wo, rfl⟩ : ∃ wo : World, wo = wr := ⟨_, rfl⟩
      go_loopw [6, 7] (fun h v wx => ∃ (p D : List Nat), h = .int .i64 (valB p : Nat) ∧ v = .int .i64 (p.length : Nat) ∧ p.length ≤ 13 ∧ Hid (IsBits p) ∧ Hid (digits k (bitsOf s.data.toList) = D ++ digits k (p ++ bitsOf (s.data.toList.drop (n + 1)))) ∧
        Hid (RowAt wx w.heap.size 80 #[.string L, .int .i64 k, .bool fill]) ∧ Hid (Below w.heap.size w wx) ∧ Hid (Bld (w.heap.size + 1) (w.heap.size + 1) (letters L D) wx) ∧ w.heap.size + 2 ≤ wx.heap.size) (fun _ v _ => (intOf v).toNat)
      case atStart => exact ⟨P, D, rfl, rfl, hPl2, hPb, hdP, hr, hB, hb, hsz⟩
      case round =>
        clear hor hplus hdP hPb hPl2 hr hB hb hsz
        obtain ⟨q, D, rfl, rfl, hq13, hq, hd, hr, hB, hb, hsz⟩ := hrel
        have e1 : wr.cell? ⟨w.heap.size, 1, none⟩ = some (.int .i64 k) := hr.out.cell rfl
        by_cases hge : k ≤ q.length
        · have hge' : decide ((k : Int) ≤ (q.length : Int)) = true := by rw [decide_eq_true_iff]; omega
          have hwr : IntKind.i64.wrap ((q.length : Int) - (k : Int)) = ((q.length - k : Nat) : Int) := by rw [IntKind.wrap_i64]; omega
          have hqk : (k : Int) ≤ (q.length : Int) := by omega
          have hk6 : k ≤ 6 := by have := hk.out; omega
          obtain ⟨m, hm⟩ : ∃ m, m = q.length - k := ⟨_, rfl⟩
          have hm13 : m ≤ 12 := by omega
          have hmi : (m : Int) ≤ 12 := by omega
          obtain ⟨d, hd0⟩ : ∃ d, d = valB (q.take k) := ⟨_, rfl⟩
          obtain ⟨r, hr0⟩ : ∃ r, r = q.drop k := ⟨_, rfl⟩
          have hrm : r.length = m := by rw [hr0, hm, List.length_drop]
          have hqs : q = q.take k ++ r := by rw [hr0]; exact (List.take_append_drop k q).symm
          have hvq : valB q = d * 2 ^ m + valB r := by rw [hqs, valB_append, hrm, ← hd0]
          have hrb : IsBits r := by rw [hr0]; exact isBits_drop hq.out k
          have hvr : valB r < 2 ^ m := by rw [← hrm]; exact valB_lt hrb
          have hdk : d < 2 ^ k := by
            have := valB_lt (isBits_take hq.out k)
            rw [List.length_take, Nat.min_eq_left hge, ← hd0] at this; exact this
          have hvqb : valB q < 8192 := Nat.lt_of_lt_of_le (valB_lt hq.out) (Nat.pow_le_pow_right (by omega) hq13)
          rw [← hm] at hwr
          have hdr : digits k (bitsOf s.data.toList) = (D ++ [d]) ++ digits k (r ++ bitsOf (s.data.toList.drop (n + 1))) := by
            have hql : (q.take k).length = k := by rw [List.length_take]; omega
            have h1 := digits_full hkz (q.take k) (r ++ bitsOf (s.data.toList.drop (n + 1))) hql
            rw [← List.append_assoc, ← hqs, ← hd0] at h1
            rw [hd.out, h1]; simp
          have hmr := hid hrm
          replace hdr := hid hdr
          have hshr : (valB q : Int) / 2 ^ m = (d : Int) := by
            have : valB q / 2 ^ m = d := by rw [hvq, Nat.mul_comm, Nat.mul_add_div (Nat.two_pow_pos m), Nat.div_eq_of_lt hvr, Nat.add_zero]
            rw [← this]; simp
          replace hrb := hid hrb
          replace hvq := hid hvq
          have hmq : q.length = m + k := by omega
          replace hmq := hid hmq
          clear hqs hr0 hd0 hm hrm hd hq
          have hLd : d < L.size := by rw [hG.out.size]; exact hdk
          have hLdi : (d : Int) < (L.size : Int) := by omega
          have e0 : ∀ x : Sub wr, x.x.cell? ⟨w.heap.size, 0, none⟩ = some (.string L) := fun x => x.cell hr.out rfl
          go_wp2
          refine wp_region_last (by kernel_rfl) (by kernel_rfl) (by kernel_rfl) 6 _ rfl rfl ?_
          simp only [muted, mute]
          repeat (go_big_quiet_step (fail))
          refine wpQuiet_nil ?_
          intro x
          obtain ⟨X, hX⟩ : ∃ X, X = x.x := ⟨_, rfl⟩
          have hbX := bld_below hb.out x.h
          have hrX := hr.out.below x.h hr.out.lt
          have hBX := below_cat x.h hB.out
          have hzX : w.heap.size + 2 ≤ X.heap.size := by rw [hX]; exact Nat.le_trans hsz x.h.size
          rw [← hX] at hbX hrX hBX ⊢
          clear hX x
          unfold Oper.wp
          simp [go_sem]
          have hDl : (letters L D).length ≤ 1000000 := by
            have h1 := digits_len hkz _ (bitsOf s.data.toList) (Nat.le_refl _)
            have h2 := congrArg List.length hdr.out
            rw [bitsOf_len] at h1
            have h3 : s.data.toList.length = s.size := by simp
            have h4 : (8 * s.data.toList.length + (k - 1)) / k ≤ 8 * s.data.toList.length + (k - 1) := Nat.div_le_self _ _
            rw [letters_len]
            simp only [List.length_append] at h2
            omega
          refine (writeByte_any (w.heap.size + 1) (w.heap.size + 1) (letters L D) L[d] X hbX (by omega) (by omega)).mono ?_
          rintro e w5 ⟨rfl, hb5, hB5⟩
          have hr5 := box_below hrX hB5 (by omega)
          have hB5' : Below w.heap.size w w5 := hBX.trans ⟨hB5.os, hB5.tape, hB5.output, hB5.size, fun k hk => hB5.block k (by omega)⟩
          have hz5 : w.heap.size + 2 ≤ w5.heap.size := Nat.le_trans hzX hB5.size
          have hle : letters L D ++ [L[d]] = letters L (D ++ [d]) := by
            rw [letters_append]; congr 1
            simp [letters, letter, hLd]; rfl
          rw [hle] at hb5
          replace hb5 := hid hb5
          replace hr5 := hid hr5
          replace hB5' := hid hB5'
          clear hbX hrX hBX hB5 hle hzX hDl hr hB hb
          simp only []
          go_wp2
          go_roundw
          case rel =>
            have hmod : valB q % 2 ^ m = valB r := by rw [hvq.out, Nat.mul_comm, Nat.mul_add_mod, Nat.mod_eq_of_lt hvr]
            refine ⟨r, D ++ [d], ?_, by rw [hmr.out], by rw [hmr.out]; omega, hrb, hdr, hr5, hB5', hb5, hz5⟩
            rw [bitMask_any (valB q) m (by omega) (by omega), hmod]
          case measure => simp [intOf]; have := hmq.out; omega
        · have hge' : decide ((k : Int) ≤ (q.length : Int)) = false := by rw [decide_eq_false_iff_not]; omega
          go_wp2
          go_roundw
          case rel => exact ⟨n + 1, q, D, by go_num, by omega, rfl, rfl, by omega, hq, hd, hr, hB, hb, hsz⟩
          case measure => simp [intOf]; omega
    · obtain rfl : n = s.size := by omega
      have hnil : s.data.toList.drop s.size = [] := by simp
      have hd2 : digits k (bitsOf s.data.toList) = D ++ digits k p := by rw [hd.out, hnil]; simp [bitsOf]
      replace hd2 := hid hd2
      by_cases hp0 : p.length = 0
      · have hpn : p = [] := List.eq_nil_of_length_eq_zero hp0
        have hd3 : digits k (bitsOf s.data.toList) = D := by rw [hd2.out, hpn, digits_nil, List.append_nil]
        have hp0i : decide ((0 : Int) < ((p.length : Nat) : Int)) = false := by rw [decide_eq_false_iff_not]; omega
        obtain ⟨Z, hZ⟩ : ∃ Z : World, Z = wr := ⟨_, rfl⟩
        have hrZ := hr.out
        have hBZ := hB.out
        have hbZ := hb.out
        have hzZ := hsz
        rw [← hZ] at hrZ hBZ hbZ hzZ ⊢
        rw [← hd3] at hbZ
        clear hpn hd3 hd2 hZ hr hB hb hsz hnil hd hp
        obtain ⟨A, hA⟩ : ∃ A, A = letters L (digits k (bitsOf s.data.toList)) := ⟨_, rfl⟩
        obtain ⟨pad, hpad⟩ : ∃ pad, pad = padN fill (digits k (bitsOf s.data.toList)).length := ⟨_, rfl⟩
        have hencA : enc L k fill s.data.toList = A ++ List.replicate pad 61 := by rw [hA, hpad]; rfl
        have hAl : sizeN k fill s.size = A.length + pad := by
          have := enc_size (L := L) (fill := fill) hkz s.data.toList
          rw [hencA, List.length_append, List.length_replicate] at this
          have h3 : s.data.toList.length = s.size := by simp
          rw [h3] at this
          exact this.symm
        have hpad0 : fill = false → pad = 0 := fun h => by rw [hpad, h]; rfl
        have hpad4 : pad ≤ 3 := by rw [hpad]; unfold padN; split <;> omega
        have hApl : A.length ≤ 900000 := by
          rw [hA, letters_len, dig_len hkz]
          have h4 : (8 * s.data.toList.length + (k - 1)) / k ≤ 8 * s.data.toList.length + (k - 1) := Nat.div_le_self _ _
          have h3 : s.data.toList.length = s.size := by simp
          have hk6 := hk.out
          omega
        rw [← hA] at hbZ
        have c0 : Z.cell? ⟨w.heap.size, 0, none⟩ = some (.string L) := hrZ.cell rfl
        have c1 : Z.cell? ⟨w.heap.size, 1, none⟩ = some (.int .i64 k) := hrZ.cell rfl
        have c2 : Z.cell? ⟨w.heap.size, 2, none⟩ = some (.bool fill) := hrZ.cell rfl
        have LS := fun w => size_any L k fill s.size hk.out hG.out.fill6 (by omega) w
        unfold alpha at LS
        obtain ⟨N, hN⟩ : ∃ N, N = sizeN k fill s.size := ⟨_, rfl⟩
        rw [← hN] at LS hAl
        have hsub : (N : Int) - ((A.length : Nat) : Int) = (pad : Int) := by omega
        have LN := fun Z' h => bldLen_any (w.heap.size + 1) (w.heap.size + 1) A Z' h
        have LR := fun w => repeat_any ⟨#[61]⟩ pad w (by omega) (by simp [ByteArray.size]; omega)
        replace LS := hid LS
        replace LN := hid LN
        replace LR := hid LR
        replace hencA := hid hencA
        replace hbZ := hid hbZ
        replace hrZ := hid hrZ
        replace hBZ := hid hBZ
        clear hA hpad hN hAl
        cases hfill : fill with
        | false =>
          subst hfill
          have hp00 := hid (hpad0 rfl)
          clear hpad0
          go_wp2_with (go_at_call 88; refine (bldString_any (w.heap.size + 1) (w.heap.size + 1) A Z hbZ.out (by omega)).mono ?_; rintro e w6 ⟨rfl, hB6⟩)
          go_ret
          refine ⟨ret_string ?_, hBZ.out.trans ⟨hB6.os, hB6.tape, hB6.output, hB6.size, fun k hk => hB6.block k (by omega)⟩⟩
          rw [hencA.out, hp00.out]; simp
        | true =>
          subst hfill
          clear hpad0
          go_wp2_with (first
            | (go_at_call 73; refine (LS.out _).mono ?_; rintro e w6 ⟨rfl, hB6⟩; have hb6 := hid (bld_below hbZ.out hB6); have hz6 := hB6.size)
            | (go_at_call 87; refine (LN.out _ hb6.out).mono ?_; rintro e w' ⟨rfl, rfl⟩)
            | (go_at_call 86; refine (LR.out _).mono ?_; rintro e w7 ⟨rfl, hB7⟩; have hb7 := hid (bld_below hb6.out hB7); have hz7 := hB7.size; have hrl := Lib.repeatL_length [61] pad; obtain ⟨RR, hRR⟩ : ∃ RR, RR = Lib.repeatL [61] pad := ⟨_, rfl⟩
               have hRe : (⟨(Lib.repeatL (⟨#[61]⟩ : ByteArray).data.toList pad).toArray⟩ : ByteArray) = ⟨RR.toArray⟩ := by rw [hRR]
               rw [hRe]; rw [← hRR] at hrl; replace hRR := hid hRR; clear hRe)
            | (go_at_call 85; refine (writeString_any (w.heap.size + 1) (w.heap.size + 1) A ⟨RR.toArray⟩ w7 hb7.out (by simp [ByteArray.size] at hrl ⊢; omega) (by omega)).mono ?_; rintro e w8 ⟨rfl, hb8, hB8⟩; have hz8 := hB8.size; replace hb8 := hid hb8)
            | (go_at_call 88; refine (bldString_any (w.heap.size + 1) (w.heap.size + 1) _ w8 hb8.out (by omega)).mono ?_; rintro e w9 ⟨rfl, hB9⟩))
          go_ret
          refine ⟨ret_string ?_, ?_⟩
          · rw [hencA.out, hRR.out]
            have hrep : ∀ n, Lib.repeatL [(61 : UInt8)] n = List.replicate n 61 := by
              intro n; induction n with
              | zero => rfl
              | succ n ih => rw [Lib.repeatL, ih, List.replicate_succ]; rfl
            rw [hrep]
          · have h7 := below_cat hB7 (below_cat hB6 hBZ.out)
            exact (h7.trans ⟨hB8.os, hB8.tape, hB8.output, hB8.size, fun k hk => hB8.block k (by omega)⟩).trans ⟨hB9.os, hB9.tape, hB9.output, hB9.size, fun k hk => hB9.block k (by omega)⟩
      · have hpne : p ≠ [] := fun e => hp0 (by rw [e]; rfl)
        have hdl := digits_last hpne (Nat.le_of_lt hpk)
        have hp0i : decide ((0 : Int) < ((p.length : Nat) : Int)) = true := by rw [decide_eq_true_iff]; omega
        have hvp := valB_lt hp.out
        obtain ⟨j, hj⟩ : ∃ j, j = k - p.length := ⟨_, rfl⟩
        have hji : (k : Int) - ((p.length : Nat) : Int) = (j : Int) := by omega
        have hj6 : j ≤ 6 := by have := hk.out; omega
        have hji6 : (j : Int) ≤ 6 := by omega
        obtain ⟨d, hd0⟩ : ∃ d, d = valB p * 2 ^ j := ⟨_, rfl⟩
        have hdk : d < 2 ^ k := by
          have e : k = p.length + j := by omega
          rw [hd0, e, Nat.pow_add]
          exact Nat.mul_lt_mul_of_pos_right hvp (Nat.two_pow_pos j)
        have hdL : d < L.size := by rw [hG.out.size]; exact hdk
        have hdLi : (d : Int) < (L.size : Int) := by omega
        have hshl : ((valB p : Nat) : Int) * 2 ^ j = (d : Int) := by rw [hd0]; simp
        have hd64 : (d : Int) ≤ 64 := by
          have : 2 ^ k ≤ 64 := by rcases hk.out with h | h <;> rw [h] <;> decide
          omega
        have hd3 : digits k (bitsOf s.data.toList) = D ++ [d] := by rw [hd2.out, hdl, ← hj, ← hd0]
        have e0 : ∀ x : Sub wr, x.x.cell? ⟨w.heap.size, 0, none⟩ = some (.string L) := fun x => x.cell hr.out rfl
        have e1 : ∀ x : Sub wr, x.x.cell? ⟨w.heap.size, 1, none⟩ = some (.int .i64 k) := fun x => x.cell hr.out rfl
        replace hd3 := hid hd3
        clear hpne hdl hj hd0 hvp hd2
        go_wp2
        refine wp_region_last (by kernel_rfl) (by kernel_rfl) (by kernel_rfl) 9 _ rfl rfl ?_
        simp only [muted, mute]
        repeat (go_big_quiet_step (fail))
        refine wpQuiet_nil ?_
        intro x
        obtain ⟨X, hX⟩ : ∃ X, X = x.x := ⟨_, rfl⟩
        have hbX := bld_below hb.out x.h
        have hrX := hr.out.below x.h hr.out.lt
        have hBX := below_cat x.h hB.out
        have hzX : w.heap.size + 2 ≤ X.heap.size := by rw [hX]; exact Nat.le_trans hsz x.h.size
        rw [← hX] at hbX hrX hBX ⊢
        clear hX x e0 e1
        unfold Oper.wp
        simp [go_sem]
        have hDl : (letters L D).length ≤ 1000000 := by
          have h1 := digits_len hkz _ (bitsOf s.data.toList) (Nat.le_refl _)
          have h2 := congrArg List.length hd3.out
          rw [bitsOf_len] at h1
          have h3 : s.data.toList.length = s.size := by simp
          have h4 : (8 * s.data.toList.length + (k - 1)) / k ≤ 8 * s.data.toList.length + (k - 1) := Nat.div_le_self _ _
          have h6 := hk.out
          rw [letters_len]
          simp only [List.length_append] at h2
          omega
        refine (writeByte_any (w.heap.size + 1) (w.heap.size + 1) (letters L D) L[d] X hbX (by omega) (by omega)).mono ?_
        rintro e Z ⟨rfl, hbZ, hB5⟩
        have hrZ := box_below hrX hB5 (by omega)
        have hBZ : Below w.heap.size w Z := hBX.trans ⟨hB5.os, hB5.tape, hB5.output, hB5.size, fun k hk => hB5.block k (by omega)⟩
        have hzZ : w.heap.size + 2 ≤ Z.heap.size := Nat.le_trans hzX hB5.size
        have hle : letters L D ++ [L[d]] = letters L (digits k (bitsOf s.data.toList)) := by
          rw [hd3.out, letters_append]; congr 1
          simp [letters, letter, hdL]; rfl
        rw [hle] at hbZ
        clear hbX hrX hBX hB5 hle hzX hDl hr hB hb hp hd3
        simp only []
        obtain ⟨A, hA⟩ : ∃ A, A = letters L (digits k (bitsOf s.data.toList)) := ⟨_, rfl⟩
        obtain ⟨pad, hpad⟩ : ∃ pad, pad = padN fill (digits k (bitsOf s.data.toList)).length := ⟨_, rfl⟩
        have hencA : enc L k fill s.data.toList = A ++ List.replicate pad 61 := by rw [hA, hpad]; rfl
        have hAl : sizeN k fill s.size = A.length + pad := by
          have := enc_size (L := L) (fill := fill) hkz s.data.toList
          rw [hencA, List.length_append, List.length_replicate] at this
          have h3 : s.data.toList.length = s.size := by simp
          rw [h3] at this
          exact this.symm
        have hpad0 : fill = false → pad = 0 := fun h => by rw [hpad, h]; rfl
        have hpad4 : pad ≤ 3 := by rw [hpad]; unfold padN; split <;> omega
        have hApl : A.length ≤ 900000 := by
          rw [hA, letters_len, dig_len hkz]
          have h4 : (8 * s.data.toList.length + (k - 1)) / k ≤ 8 * s.data.toList.length + (k - 1) := Nat.div_le_self _ _
          have h3 : s.data.toList.length = s.size := by simp
          have hk6 := hk.out
          omega
        rw [← hA] at hbZ
        have c0 : Z.cell? ⟨w.heap.size, 0, none⟩ = some (.string L) := hrZ.cell rfl
        have c1 : Z.cell? ⟨w.heap.size, 1, none⟩ = some (.int .i64 k) := hrZ.cell rfl
        have c2 : Z.cell? ⟨w.heap.size, 2, none⟩ = some (.bool fill) := hrZ.cell rfl
        have LS := fun w => size_any L k fill s.size hk.out hG.out.fill6 (by omega) w
        unfold alpha at LS
        obtain ⟨N, hN⟩ : ∃ N, N = sizeN k fill s.size := ⟨_, rfl⟩
        rw [← hN] at LS hAl
        have hsub : (N : Int) - ((A.length : Nat) : Int) = (pad : Int) := by omega
        have LN := fun Z' h => bldLen_any (w.heap.size + 1) (w.heap.size + 1) A Z' h
        have LR := fun w => repeat_any ⟨#[61]⟩ pad w (by omega) (by simp [ByteArray.size]; omega)
        replace LS := hid LS
        replace LN := hid LN
        replace LR := hid LR
        replace hencA := hid hencA
        replace hbZ := hid hbZ
        replace hrZ := hid hrZ
        replace hBZ := hid hBZ
        clear hA hpad hN hAl
        cases hfill : fill with
        | false =>
          subst hfill
          have hp00 := hid (hpad0 rfl)
          clear hpad0
          go_wp2_with (go_at_call 88; refine (bldString_any (w.heap.size + 1) (w.heap.size + 1) A Z hbZ.out (by omega)).mono ?_; rintro e w6 ⟨rfl, hB6⟩)
          go_ret
          refine ⟨ret_string ?_, hBZ.out.trans ⟨hB6.os, hB6.tape, hB6.output, hB6.size, fun k hk => hB6.block k (by omega)⟩⟩
          rw [hencA.out, hp00.out]; simp
        | true =>
          subst hfill
          clear hpad0
          go_wp2_with (first
            | (go_at_call 73; refine (LS.out _).mono ?_; rintro e w6 ⟨rfl, hB6⟩; have hb6 := hid (bld_below hbZ.out hB6); have hz6 := hB6.size)
            | (go_at_call 87; refine (LN.out _ hb6.out).mono ?_; rintro e w' ⟨rfl, rfl⟩)
            | (go_at_call 86; refine (LR.out _).mono ?_; rintro e w7 ⟨rfl, hB7⟩; have hb7 := hid (bld_below hb6.out hB7); have hz7 := hB7.size; have hrl := Lib.repeatL_length [61] pad; obtain ⟨RR, hRR⟩ : ∃ RR, RR = Lib.repeatL [61] pad := ⟨_, rfl⟩
               have hRe : (⟨(Lib.repeatL (⟨#[61]⟩ : ByteArray).data.toList pad).toArray⟩ : ByteArray) = ⟨RR.toArray⟩ := by rw [hRR]
               rw [hRe]; rw [← hRR] at hrl; replace hRR := hid hRR; clear hRe)
            | (go_at_call 85; refine (writeString_any (w.heap.size + 1) (w.heap.size + 1) A ⟨RR.toArray⟩ w7 hb7.out (by simp [ByteArray.size] at hrl ⊢; omega) (by omega)).mono ?_; rintro e w8 ⟨rfl, hb8, hB8⟩; have hz8 := hB8.size; replace hb8 := hid hb8)
            | (go_at_call 88; refine (bldString_any (w.heap.size + 1) (w.heap.size + 1) _ w8 hb8.out (by omega)).mono ?_; rintro e w9 ⟨rfl, hB9⟩))
          go_ret
          refine ⟨ret_string ?_, ?_⟩
          · rw [hencA.out, hRR.out]
            have hrep : ∀ n, Lib.repeatL [(61 : UInt8)] n = List.replicate n 61 := by
              intro n; induction n with
              | zero => rfl
              | succ n ih => rw [Lib.repeatL, ih, List.replicate_succ]; rfl
            rw [hrep]
          · have h7 := below_cat hB7 (below_cat hB6 hBZ.out)
            exact (h7.trans ⟨hB8.os, hB8.tape, hB8.output, hB8.size, fun k hk => hB8.block k (by omega)⟩).trans ⟨hB9.os, hB9.tape, hB9.output, hB9.size, fun k hk => hB9.block k (by omega)⟩
end
section
open Go Go.RowKit
set_option linter.unusedSimpArgs false

def KL (n : Nat) : ByteArray := if n = 0 then hexL else if n = 1 then stdL else urlL
def Kk (n : Nat) : Nat := if n = 0 then 4 else 6
def Kf (n : Nat) : Bool := decide (n = 1)
theorem kind_good (n : Nat) : Good (KL n) (Kk n) (Kf n) := by
  unfold KL Kk Kf
  by_cases h0 : n = 0
  · subst h0; exact good_hex
  · rw [if_neg h0, if_neg h0]
    by_cases h1 : n = 1
    · subst h1; exact good_std
    · rw [if_neg h1, decide_eq_false h1]; exact good_url

set_option maxRecDepth 100000 in
theorem refLetters_any (n : Nat) (w : World) : Calls Tryz.prog 92 #[.int .i64 (n : Int)] w fun e w' => e = .returned (.string (KL n)) ∧ w = w' := by
  unfold KL
  by_cases h0 : n = 0
  · subst h0
    go_enter Tryz.func92, Tryz.ntmps92
    go_wp2
    go_ret
    exact ⟨rfl, rfl⟩
  · have h0' : ((n : Int) == 0) = false := by rw [beq_eq_false_iff_ne]; omega
    rw [if_neg h0]
    by_cases h1 : n = 1
    · subst h1
      go_enter Tryz.func92, Tryz.ntmps92
      go_wp2
      go_ret
      exact ⟨rfl, rfl⟩
    · have h1' : ((n : Int) == 1) = false := by rw [beq_eq_false_iff_ne]; omega
      rw [if_neg h1]
      go_enter Tryz.func92, Tryz.ntmps92
      go_wp2
      go_ret
      exact ⟨rfl, rfl⟩
theorem refBits_any (n : Nat) (w : World) : Calls Tryz.prog 93 #[.int .i64 (n : Int)] w fun e w' => e = .returned (.int .i64 (Kk n : Nat)) ∧ w = w' := by
  unfold Kk
  by_cases h0 : n = 0
  · subst h0
    go_enter Tryz.func93, Tryz.ntmps93
    go_wp2
    go_ret
    exact ⟨rfl, rfl⟩
  · have h0' : ((n : Int) == 0) = false := by rw [beq_eq_false_iff_ne]; omega
    rw [if_neg h0]
    go_enter Tryz.func93, Tryz.ntmps93
    go_wp2
    go_ret
    exact ⟨rfl, rfl⟩

theorem results_cellT {P : Program} {fn : Func} {p : Tmp} {ty : TypeId} (h : fn.results = #[.cell p ty]) (tmps : Array Value) (w : World) (b : Nat) (L : ByteArray) (k : Nat) (f : Bool) (hp : tmps.getD p undef = .pointer (some ⟨b, 0, none⟩))
    (ha : ∀ w, (isAgg ty).run P w = .ok true w) (hz : ∀ w, (sizeOf ty).run P w = .ok 3 w) (hr : RowAt w b ty #[.string L, .int .i64 (k : Int), .bool f]) : (results fn tmps).run P w = .ok (alpha L k f) w := results_agg h tmps w b _ _ _ hp ha hz hr
/-- A bit of a text. -/
def bitAt (s : List UInt8) (i : Nat) : Nat := (bitsOf s).getD i 0
set_option maxRecDepth 100000 in
theorem bit_any (s : ByteArray) (i : Nat) (hs : s.size ≤ 100000) (hi : i ≤ 10000000) (w : World) :
    Calls Tryz.prog 95 #[.string s, .int .i64 (i : Int)] w fun e w' => e = .returned (.int .i64 (bitAt s.data.toList i : Nat)) ∧ w = w' := by
  by_cases h : i / 8 < s.size
  · have hb : bitAt s.data.toList i = s[i / 8].toNat / 2 ^ (7 - i % 8) % 2 := by
      rw [bitAt, List.getD_eq_getElem?_getD, bitsOf_get _ _ (by simpa using h)]; rfl
    have hd : decide ((s.size : Int) ≤ (i : Int) / 8) = false := by rw [decide_eq_false_iff_not]; omega
    have hlt : (i : Int) / 8 < (s.size : Int) := by omega
    obtain ⟨j, hj⟩ : ∃ j, j = i / 8 := ⟨_, rfl⟩
    have hji : (i : Int) / 8 = (j : Int) := by omega
    obtain ⟨m, hm⟩ : ∃ m, m = 7 - i % 8 := ⟨_, rfl⟩
    have hmi : (7 : Int) - (i : Int) % 8 = (m : Int) := by omega
    have hm7 : m ≤ 7 := by omega
    rw [hji] at hd hlt
    rw [← hm] at hb
    have h2 : j < s.size := by omega
    have hb2 : bitAt s.data.toList i = (s[j]'h2).toNat / 2 ^ m % 2 := by subst hj; exact hb
    clear hb
    have hb := hb2
    clear hb2
    have hc := (s[j]'h2).toNat_lt
    obtain ⟨c, hc0⟩ : ∃ c, c = (s[j]'h2).toNat := ⟨_, rfl⟩
    replace hb := hid hb
    clear hm hj
    replace hc0 := hid hc0
    go_enter Tryz.func95, Tryz.ntmps95
    go_wp2
    replace hc0 := hc0.out
    rw [← hc0]
    rw [← hc0] at hc
    have hb' : bitAt s.data.toList i = c / 2 ^ m % 2 := by rw [hc0]; exact hb.out
    replace hb' := hid hb'
    clear hc0 hb
    go_loop [5, 6] (fun v x => ∃ q : Nat, q ≤ m ∧ x = .int .i64 q ∧ v = .int .i64 (c / 2 ^ q : Nat)) (fun _ x => m - (intOf x).toNat)
    case atStart => exact ⟨0, Nat.zero_le _, rfl, by simp⟩
    case round =>
      obtain ⟨q, hq, rfl, rfl⟩ := hrel
      by_cases hqm : q < m
      · have hd' : decide ((q : Int) < (m : Int)) = true := by rw [decide_eq_true_iff]; omega
        have hdiv : c / 2 ^ (q + 1) = c / 2 ^ q / 2 := by rw [Nat.pow_succ, Nat.div_div_eq_div_mul]
        have hle : c / 2 ^ q ≤ 256 := Nat.le_trans (Nat.div_le_self _ _) (by omega)
        obtain ⟨v, hv⟩ : ∃ v, v = c / 2 ^ q := ⟨_, rfl⟩
        rw [← hv] at hdiv hle ⊢
        replace hdiv := hid hdiv
        clear hv
        go_wp2
        go_round
        case rel => exact ⟨q + 1, by omega, by go_num, by rw [hdiv.out]; go_num⟩
        case measure => simp [intOf]; omega
      · obtain rfl : q = m := by omega
        have hle : c / 2 ^ q ≤ 256 := Nat.le_trans (Nat.div_le_self _ _) (by omega)
        obtain ⟨v, hv⟩ : ∃ v, v = c / 2 ^ q := ⟨_, rfl⟩
        rw [← hv] at hb' hle ⊢
        clear hv
        go_wp2
        go_ret
        exact ⟨ret_int (by rw [hb'.out]; simp), rfl⟩
  · have hb : bitAt s.data.toList i = 0 := by
      rw [bitAt, List.getD_eq_getElem?_getD, List.getElem?_eq_none (by rw [bitsOf_len]; simp; omega)]; rfl
    have hd : decide ((s.size : Int) ≤ (i : Int) / 8) = true := by rw [decide_eq_true_iff]; omega
    rw [hb]
    clear hb
    go_enter Tryz.func95, Tryz.ntmps95
    go_wp2
    go_ret
    exact ⟨rfl, rfl⟩
end
end Go.Proofs.YtdjlpmelmhhooaaGreatDoor
