/- Code points: the document's. -/
import Derived.Test.YtdjlpmelmhhooaaGreatDoorUtfX2
import Derived.Test.YtdjlpmelmhhooaaGreatDoorLibA
namespace Go.Proofs.YtdjlpmelmhhooaaGreatDoor
section
open Go

theorem firstN_of {b : UInt8} {t : List UInt8} {k r0 r : Nat} (hl : leadN b.toNat = (k, r0)) (hk : k ≠ 0) (hlen : k ≤ t.length + 1) (ht : tailN t (k - 1) r0 = some r) (hp : isPoint (r : Nat) = true) (hs : sizeU (r : Nat) = k) :
    firstN (b :: t) = some (r, k) := by
  unfold firstN
  simp only [hl, List.length_cons]
  rw [if_neg (by omega), ht]
  simp only []
  rw [if_pos ⟨hp, hs⟩]
theorem u8_ofNat {m : Nat} (h : m < 256) : (UInt8.ofNat m).toNat = m := by simp; omega
theorem u8_eq {m : Nat} {b : UInt8} (h : m = b.toNat) : UInt8.ofNat m = b := by rw [h]; exact UInt8.ofNat_toNat
theorem tail_cons {c : UInt8} {l : List UInt8} {k r : Nat} (h : c.toNat / 64 = 2) : tailN (c :: l) (k + 1) r = tailN l k (r * 64 + c.toNat % 64) := by
  rw [tailN, if_pos h]
theorem tail_zero (l : List UInt8) (r : Nat) : tailN l 0 r = some r := by cases l <;> rfl
theorem point_nat {r : Nat} (h : isPoint (r : Nat) = true) : r ≤ 1114111 ∧ (r < 55296 ∨ 57343 < r) := by
  simp only [isPoint, Bool.and_eq_true, Bool.or_eq_true, decide_eq_true_eq] at h; omega
theorem put1 {r : Nat} (hp : isPoint (r : Nat) = true) (h : r < 128) : putN (r : Nat) = [UInt8.ofNat r] ∧ sizeU (r : Nat) = 1 := by
  have hz : sizeU (r : Nat) = 1 := by unfold sizeU; rw [if_pos (by omega)]
  refine ⟨?_, hz⟩
  rw [putN, if_pos hp]; simp only [hz, Int.toNat_natCast]
theorem put2 {r : Nat} (hp : isPoint (r : Nat) = true) (h0 : 128 ≤ r) (h : r < 2048) : putN (r : Nat) = [UInt8.ofNat (192 + r / 64), UInt8.ofNat (128 + r % 64)] ∧ sizeU (r : Nat) = 2 := by
  have hz : sizeU (r : Nat) = 2 := by unfold sizeU; rw [if_neg (by omega), if_pos (by omega)]
  refine ⟨?_, hz⟩
  rw [putN, if_pos hp]; simp only [hz, Int.toNat_natCast]
theorem put3 {r : Nat} (hp : isPoint (r : Nat) = true) (h0 : 2048 ≤ r) (h : r < 65536) : putN (r : Nat) = [UInt8.ofNat (224 + r / 4096), UInt8.ofNat (128 + r / 64 % 64), UInt8.ofNat (128 + r % 64)] ∧ sizeU (r : Nat) = 3 := by
  have hz : sizeU (r : Nat) = 3 := by unfold sizeU; rw [if_neg (by omega), if_neg (by omega), if_pos (by omega)]
  refine ⟨?_, hz⟩
  rw [putN, if_pos hp]; simp only [hz, Int.toNat_natCast]
theorem put4 {r : Nat} (hp : isPoint (r : Nat) = true) (h0 : 65536 ≤ r) : putN (r : Nat) = [UInt8.ofNat (240 + r / 262144), UInt8.ofNat (128 + r / 4096 % 64), UInt8.ofNat (128 + r / 64 % 64), UInt8.ofNat (128 + r % 64)] ∧ sizeU (r : Nat) = 4 := by
  have hz : sizeU (r : Nat) = 4 := by unfold sizeU; rw [if_neg (by omega), if_neg (by omega), if_neg (by omega)]
  refine ⟨?_, hz⟩
  rw [putN, if_pos hp]; simp only [hz, Int.toNat_natCast]
theorem put_len {r : Nat} (hp : isPoint (r : Nat) = true) : (putN (r : Nat)).length = sizeU (r : Nat) := by
  by_cases h1 : r < 128
  · rw [(put1 hp h1).1, (put1 hp h1).2]; rfl
  · by_cases h2 : r < 2048
    · rw [(put2 hp (by omega) h2).1, (put2 hp (by omega) h2).2]; rfl
    · by_cases h3 : r < 65536
      · rw [(put3 hp (by omega) h3).1, (put3 hp (by omega) h3).2]; rfl
      · rw [(put4 hp (by omega)).1, (put4 hp (by omega)).2]; rfl

theorem lead1 {b : Nat} (h : b < 128) : leadN b = (1, b) := by rw [leadN, if_pos h]
theorem lead2 {b : Nat} (h : 192 ≤ b ∧ b < 224) : leadN b = (2, b % 32) := by rw [leadN, if_neg (by omega), if_pos h]
theorem lead3 {b : Nat} (h : 224 ≤ b ∧ b < 240) : leadN b = (3, b % 16) := by rw [leadN, if_neg (by omega), if_neg (by omega), if_pos h]
theorem lead4 {b : Nat} (h : 240 ≤ b ∧ b < 248) : leadN b = (4, b % 8) := by rw [leadN, if_neg (by omega), if_neg (by omega), if_neg (by omega), if_pos h]

theorem firstN_put {r : Nat} (hp : isPoint (r : Nat) = true) (t : List UInt8) : firstN (putN (r : Nat) ++ t) = some (r, sizeU (r : Nat)) := by
  have hq := point_nat hp
  by_cases h1 : r < 128
  · obtain ⟨e, hz⟩ := put1 hp h1
    rw [e, hz]
    refine firstN_of (r0 := r) (by rw [u8_ofNat (by omega)]; exact lead1 h1) (by omega) (by simp) (tail_zero _ _) hp hz
  · by_cases h2 : r < 2048
    · obtain ⟨e, hz⟩ := put2 hp (by omega) h2
      rw [e, hz]
      have b1 : (UInt8.ofNat (128 + r % 64)).toNat = 128 + r % 64 := u8_ofNat (by omega)
      refine firstN_of (r0 := r / 64) (by rw [u8_ofNat (by omega), lead2 (by omega), show (192 + r / 64) % 32 = r / 64 by omega]) (by omega) (by simp) ?_ hp hz
      show tailN (UInt8.ofNat (128 + r % 64) :: t) (0 + 1) _ = _
      rw [tail_cons (by rw [b1]; omega), tail_zero, b1, Option.some.injEq]
      omega
    · by_cases h3 : r < 65536
      · obtain ⟨e, hz⟩ := put3 hp (by omega) h3
        rw [e, hz]
        have b1 : (UInt8.ofNat (128 + r % 64)).toNat = 128 + r % 64 := u8_ofNat (by omega)
        have b2 : (UInt8.ofNat (128 + r / 64 % 64)).toNat = 128 + r / 64 % 64 := u8_ofNat (by omega)
        refine firstN_of (r0 := r / 4096) (by rw [u8_ofNat (by omega), lead3 (by omega), show (224 + r / 4096) % 16 = r / 4096 by omega]) (by omega) (by simp) ?_ hp hz
        show tailN (UInt8.ofNat (128 + r / 64 % 64) :: UInt8.ofNat (128 + r % 64) :: t) (1 + 1) _ = _
        rw [tail_cons (by rw [b2]; omega), tail_cons (by rw [b1]; omega), tail_zero, b1, b2, Option.some.injEq]
        omega
      · obtain ⟨e, hz⟩ := put4 hp (by omega)
        rw [e, hz]
        have b1 : (UInt8.ofNat (128 + r % 64)).toNat = 128 + r % 64 := u8_ofNat (by omega)
        have b2 : (UInt8.ofNat (128 + r / 64 % 64)).toNat = 128 + r / 64 % 64 := u8_ofNat (by omega)
        have b3 : (UInt8.ofNat (128 + r / 4096 % 64)).toNat = 128 + r / 4096 % 64 := u8_ofNat (by omega)
        refine firstN_of (r0 := r / 262144) (by rw [u8_ofNat (by omega), lead4 (by omega), show (240 + r / 262144) % 8 = r / 262144 by omega]) (by omega) (by simp) ?_ hp hz
        show tailN (UInt8.ofNat (128 + r / 4096 % 64) :: UInt8.ofNat (128 + r / 64 % 64) :: UInt8.ofNat (128 + r % 64) :: t) (2 + 1) _ = _
        rw [tail_cons (by rw [b3]; omega), tail_cons (by rw [b2]; omega), tail_cons (by rw [b1]; omega), tail_zero, b1, b2, b3, Option.some.injEq]
        omega

theorem tail_some {k : Nat} {l : List UInt8} {r0 r : Nat} (h : tailN l (k + 1) r0 = some r) : ∃ c t, l = c :: t ∧ c.toNat / 64 = 2 ∧ tailN t k (r0 * 64 + c.toNat % 64) = some r := by
  cases l with
  | nil => simp [tailN] at h
  | cons c t =>
    rw [tailN] at h
    split at h
    · exact ⟨c, t, rfl, by assumption, h⟩
    · cases h
/-- What is read stands there as it is written. -/
theorem firstN_is {l : List UInt8} {r n : Nat} (h : firstN l = some (r, n)) : l = putN (r : Nat) ++ l.drop n ∧ n = sizeU (r : Nat) ∧ isPoint (r : Nat) = true := by
  obtain ⟨-, -, -, hp, hz⟩ := firstN_size h
  refine ⟨?_, hz.symm, hp⟩
  cases l with
  | nil => cases h
  | cons b t =>
    unfold firstN at h
    simp only at h
    split at h
    · cases h
    · rename_i h1
      split at h
      · cases h
      · rename_i r' ht
        split at h
        · simp only [Option.some.injEq, Prod.mk.injEq] at h
          obtain ⟨rfl, hn⟩ := h
          have hb := byte_lt b
          by_cases c1 : b.toNat < 128
          · rw [lead1 c1] at ht hn
            simp only [Nat.sub_self, tail_zero, Option.some.injEq] at ht hn
            subst hn
            rw [(put1 hp (by omega)).1, u8_eq ht.symm]; rfl
          · by_cases c2 : 192 ≤ b.toNat ∧ b.toNat < 224
            · rw [lead2 c2] at ht hn
              simp only at ht hn
              subst hn
              obtain ⟨c, t1, rfl, hc, ht⟩ := tail_some (k := 0) ht
              rw [tail_zero, Option.some.injEq] at ht
              have hcc := byte_lt c
              have e2 : sizeU (r' : Nat) = 2 := hz
              have hr : 128 ≤ r' := by unfold sizeU at e2; split at e2 <;> omega
              rw [(put2 hp hr (by omega)).1, u8_eq (b := b) (by omega), u8_eq (b := c) (by omega)]; rfl
            · by_cases c3 : 224 ≤ b.toNat ∧ b.toNat < 240
              · rw [lead3 c3] at ht hn
                simp only at ht hn
                subst hn
                obtain ⟨c, t1, rfl, hc, ht⟩ := tail_some (k := 1) ht
                obtain ⟨d, t2, rfl, hd, ht⟩ := tail_some (k := 0) ht
                rw [tail_zero, Option.some.injEq] at ht
                have hcc := byte_lt c
                have hdd := byte_lt d
                have e2 : sizeU (r' : Nat) = 3 := hz
                have hr : 2048 ≤ r' := by unfold sizeU at e2; split at e2 <;> (try split at e2) <;> omega
                rw [(put3 hp hr (by omega)).1, u8_eq (b := b) (by omega), u8_eq (b := c) (by omega), u8_eq (b := d) (by omega)]; rfl
              · by_cases c4 : 240 ≤ b.toNat ∧ b.toNat < 248
                · rw [lead4 c4] at ht hn
                  simp only at ht hn
                  subst hn
                  obtain ⟨c, t1, rfl, hc, ht⟩ := tail_some (k := 2) ht
                  obtain ⟨d, t2, rfl, hd, ht⟩ := tail_some (k := 1) ht
                  obtain ⟨f, t3, rfl, hf, ht⟩ := tail_some (k := 0) ht
                  rw [tail_zero, Option.some.injEq] at ht
                  have hcc := byte_lt c
                  have hdd := byte_lt d
                  have hff := byte_lt f
                  have e2 : sizeU (r' : Nat) = 4 := hz
                  have hr : 65536 ≤ r' := by unfold sizeU at e2; split at e2 <;> (try split at e2) <;> (try split at e2) <;> omega
                  rw [(put4 hp hr).1, u8_eq (b := b) (by omega), u8_eq (b := c) (by omega), u8_eq (b := d) (by omega), u8_eq (b := f) (by omega)]; rfl
                · exfalso
                  have : leadN b.toNat = (0, 0) := by rw [leadN, if_neg c1, if_neg c2, if_neg c3, if_neg c4]
                  rw [this] at h1
                  simp at h1
        · cases h
end
section
open Go

/-- The bytes of so many code points. -/
def flat (ps : List Nat) : List UInt8 := ps.flatMap fun p => putN (p : Nat)
theorem flat_cons (p : Nat) (ps : List Nat) : flat (p :: ps) = putN (p : Nat) ++ flat ps := by simp [flat]
theorem flat_append (ps qs : List Nat) : flat (ps ++ qs) = flat ps ++ flat qs := by simp [flat]
def places : Nat → List Nat → List (Nat × Nat)
  | _, [] => []
  | a, p :: ps => (a, p) :: places (a + sizeU (p : Nat)) ps
theorem places_snd : ∀ (a : Nat) (ps : List Nat), (places a ps).map Prod.snd = ps
  | _, [] => rfl
  | a, p :: ps => by simp [places, places_snd]
theorem places_len (a : Nat) (ps : List Nat) : (places a ps).length = ps.length := by
  have := congrArg List.length (places_snd a ps); simpa using this
def Points (ps : List Nat) : Prop := ∀ p ∈ ps, isPoint (p : Nat) = true
theorem points_cons {p : Nat} {ps : List Nat} (h : Points (p :: ps)) : isPoint (p : Nat) = true ∧ Points ps := ⟨h p (by simp), fun q hq => h q (by simp [hq])⟩
theorem places_at : ∀ {a : Nat} {ps : List Nat} {pre post : List (Nat × Nat)} {at' r : Nat}, Points ps → places a ps = pre ++ (at', r) :: post → at' = a + (flat (pre.map Prod.snd)).length
  | a, [], pre, post, at', r, _, h => by cases pre <;> simp [places] at h
  | a, p :: ps, [], post, at', r, _, h => by simp [places] at h; simp [flat, h.1.1]
  | a, p :: ps, x :: pre, post, at', r, hp, h => by
    simp only [places, List.cons_append, List.cons.injEq] at h
    obtain ⟨rfl, h⟩ := h
    have := places_at (points_cons hp).2 h
    rw [this, List.map_cons, flat_cons, List.length_append, put_len (points_cons hp).1]
    omega
theorem lastEnd_places : ∀ (a : Nat) (ps : List Nat), Points ps → lastEnd a (places a ps) = a + (flat ps).length
  | a, [], _ => by simp [places, lastEnd, flat]
  | a, p :: ps, h => by
    have ih := lastEnd_places (a + sizeU (p : Nat)) ps (points_cons h).2
    rw [flat_cons, List.length_append, put_len (points_cons h).1, ← Nat.add_assoc, ← ih]
    rw [places]
    unfold lastEnd
    rw [List.getLast?_cons]
    cases (places (a + sizeU (p : Nat)) ps).getLast? <;> simp

theorem runesF_nil (k a : Nat) : runesF k a [] = [] := by cases k <;> simp [runesF, firstN]
theorem runesF_fuel : ∀ (k k' a : Nat) (l : List UInt8), l.length ≤ k → l.length ≤ k' → runesF k a l = runesF k' a l
  | 0, k', a, l, h, _ => by rw [List.length_eq_zero_iff.1 (by omega : l.length = 0), runesF_nil, runesF_nil]
  | k + 1, 0, a, l, _, h => by rw [List.length_eq_zero_iff.1 (by omega : l.length = 0), runesF_nil, runesF_nil]
  | k + 1, k' + 1, a, l, h, h' => by
    unfold runesF
    split
    · rfl
    · rename_i r n hf
      obtain ⟨h1, h2, -, -, -⟩ := firstN_size hf
      rw [runesF_fuel k k' (a + n) (l.drop n) (by rw [List.length_drop]; omega) (by rw [List.length_drop]; omega)]
theorem flat_runes : ∀ (ps : List Nat), Points ps → ∀ (a : Nat) (t : List UInt8) (k : Nat), (flat ps ++ t).length ≤ k → runesF k a (flat ps ++ t) = places a ps ++ runesF t.length (a + (flat ps).length) t
  | [], _, a, t, k, hk => by simp only [flat, List.flatMap_nil, List.nil_append, places, List.length_nil, Nat.add_zero] at hk ⊢; exact runesF_fuel _ _ _ _ hk (Nat.le_refl _)
  | p :: ps, h, a, t, k, hk => by
    obtain ⟨hp, hps⟩ := points_cons h
    have hz := sizeN_pos (p : Nat)
    have hl := put_len hp
    rw [flat_cons, List.append_assoc] at hk ⊢
    rw [List.length_append] at hk
    obtain ⟨k, rfl⟩ : ∃ m, k = m + 1 := ⟨k - 1, by omega⟩
    rw [runesF, firstN_put hp]
    simp only []
    rw [← hl, List.drop_left, flat_runes ps hps _ t k (by omega), places, hl, List.length_append, hl, List.cons_append, Nat.add_assoc]
theorem runes_flat {ps : List Nat} (h : Points ps) : runesN (flat ps) = places 0 ps := by
  have := flat_runes ps h 0 [] (flat ps).length (by simp)
  rw [List.append_nil, runesF_nil, List.append_nil] at this
  exact this
theorem runes_is : ∀ (k a : Nat) (l : List UInt8), l.length ≤ k → l = flat ((runesF k a l).map Prod.snd) ++ l.drop (endF k a l - a) ∧ a ≤ endF k a l
  | 0, a, l, h => by rw [List.length_eq_zero_iff.1 (by omega : l.length = 0)]; simp [runesF, flat, endF]
  | k + 1, a, l, h => by
    unfold runesF endF
    split
    · simp [flat]
    · rename_i r n hf
      obtain ⟨h1, h2, -, -, -⟩ := firstN_size hf
      obtain ⟨e, hn, -⟩ := firstN_is hf
      obtain ⟨ih, ile⟩ := runes_is k (a + n) (l.drop n) (by rw [List.length_drop]; omega)
      refine ⟨?_, by omega⟩
      rw [List.map_cons, flat_cons, List.append_assoc]
      rw [show endF k (a + n) (l.drop n) - a = n + (endF k (a + n) (l.drop n) - (a + n)) by omega, ← List.drop_drop, ← ih]
      exact e
theorem points_runes (l : List UInt8) : Points ((runesN l).map Prod.snd) := by
  intro p hp
  obtain ⟨x, hx, rfl⟩ := List.mem_map.1 hp
  exact (runesN_all l x hx).1

/-- Valid: it is so many code points. -/
theorem bad_flat {s : ByteArray} {ps : List Nat} (h : Points ps) (e : s.data.toList = flat ps) : badN s = -1 := by
  have h5 : s.data.toList.length = s.size := by simp
  rw [badN, if_pos]
  rw [endN_eq, e, runes_flat h, lastEnd_places 0 ps h, Nat.zero_add, ← e, h5]
theorem flat_of {s : ByteArray} (h : badN s < 0) : ∃ ps, Points ps ∧ s.data.toList = flat ps ∧ runesN s.data.toList = places 0 ps := by
  have h5 : s.data.toList.length = s.size := by simp
  have he : endN s.data.toList = s.size := by
    unfold badN at h
    split at h
    · assumption
    · omega
  have hi := (runes_is s.data.toList.length 0 s.data.toList (Nat.le_refl _)).1
  have he' : endF s.data.toList.length 0 s.data.toList = s.data.toList.length := by rw [h5]; exact he
  rw [he', Nat.sub_zero, List.drop_length, List.append_nil] at hi
  refine ⟨_, points_runes _, hi, ?_⟩
  conv => lhs; rw [hi]
  exact runes_flat (points_runes _)

theorem putS_list (r : Int) : (putS r).data.toList = putN r := by simp [putS]
theorem putS_runes {r : Nat} (h : isPoint (r : Nat) = true) : runesN (putS (r : Nat)).data.toList = [(0, r)] ∧ badN (putS (r : Nat)) = -1 := by
  have hp : Points [r] := fun p hp => by simp at hp; rw [hp]; exact h
  have e : (putS (r : Nat)).data.toList = flat [r] := by rw [putS_list]; simp [flat]
  exact ⟨by rw [e, runes_flat hp]; rfl, bad_flat hp e⟩
end
section
open Go Go.RowKit
set_option linter.unusedSimpArgs false

set_option maxHeartbeats 1000000 in
theorem refPoint_any (r : Int) (w : World) : Calls Tryz.prog 134 #[.int .i64 r] w fun e w' => e = .returned (.bool (isPoint r)) ∧ w = w' := by
  by_cases h0 : 0 ≤ r
  · by_cases h1 : r ≤ 1114111
    · by_cases h2 : r < 55296
      · have hv : isPoint r = true := by simp [isPoint, h0, h1, h2]
        rw [hv]
        go_enter Tryz.func134, Tryz.ntmps134
        go_wp2
        go_ret
        exact ⟨rfl, rfl⟩
      · by_cases h3 : 57343 < r
        · have hv : isPoint r = true := by simp [isPoint, h0, h1, h2, h3]
          rw [hv]
          go_enter Tryz.func134, Tryz.ntmps134
          go_wp2
          go_ret
          exact ⟨rfl, rfl⟩
        · have hv : isPoint r = false := by simp [isPoint, h0, h1, h2, h3]
          rw [hv]
          go_enter Tryz.func134, Tryz.ntmps134
          go_wp2
          go_ret
          exact ⟨rfl, rfl⟩
    · have hv : isPoint r = false := by simp [isPoint, h0, h1]
      rw [hv]
      go_enter Tryz.func134, Tryz.ntmps134
      go_wp2
      go_ret
      exact ⟨rfl, rfl⟩
  · have hv : isPoint r = false := by simp [isPoint, h0]
    rw [hv]
    go_enter Tryz.func134, Tryz.ntmps134
    go_wp2
    go_ret
    exact ⟨rfl, rfl⟩

set_option maxRecDepth 100000 in
set_option maxHeartbeats 2000000 in
theorem refPut1_any (m : Nat) (h1 : m ≤ 127) (w : World) : Calls Tryz.prog 105 #[.int .i64 (m : Int)] w fun e w' => e = .returned (.string ⟨#[UInt8.ofNat (m)]⟩) ∧ Below w.heap.size w w' := by
  have hp : isPoint (m : Int) = true := by simp [isPoint]; omega
  have PP := fun w => refPoint_any (m : Int) w
  rw [hp] at PP
  replace PP := hid PP
  clear hp
  have hcv : ∀ (a : Int) (w : World), (convert 83 9 (.slice (some ⟨w.heap.size, 0, none⟩) 1 1)).run Tryz.prog (w.alloc (.cells #[.int .u8 a] 5)) = .ok (.string (strOfNums [a])) (w.alloc (.cells #[.int .u8 a] 5)) := fun a w => conv_new [a] 1 w
  go_enter Tryz.func105, Tryz.ntmps105
  go_wp2_with (go_at_call 134; refine (PP.out _).mono ?_; rintro e w' ⟨rfl, rfl⟩)
  go_ret
  refine ⟨ret_string ?_, (Below.refl _ w).alloc (Nat.le_refl _) _⟩
  unfold strOfNums
  simp only [List.map_cons, List.map_nil]
  refine congrArg ByteArray.mk (congrArg List.toArray ?_)
  rw [show ((m : Int) : Int).toNat = m by omega]

set_option maxRecDepth 100000 in
set_option maxHeartbeats 2000000 in
theorem refPut2_any (m : Nat) (h0 : 128 ≤ m) (h1 : m ≤ 2047) (w : World) : Calls Tryz.prog 105 #[.int .i64 (m : Int)] w fun e w' => e = .returned (.string ⟨#[UInt8.ofNat (192 + m / 64), UInt8.ofNat (128 + m % 64)]⟩) ∧ Below w.heap.size w w' := by
  have hp : isPoint (m : Int) = true := by simp [isPoint]; omega
  have PP := fun w => refPoint_any (m : Int) w
  rw [hp] at PP
  replace PP := hid PP
  clear hp
  have hcv : ∀ (a b : Int) (w : World), (convert 83 9 (.slice (some ⟨w.heap.size, 0, none⟩) 2 2)).run Tryz.prog (w.alloc (.cells #[.int .u8 a, .int .u8 b] 5)) = .ok (.string (strOfNums [a, b])) (w.alloc (.cells #[.int .u8 a, .int .u8 b] 5)) := fun a b w => conv_new [a, b] 2 w
  go_enter Tryz.func105, Tryz.ntmps105
  go_wp2_with (go_at_call 134; refine (PP.out _).mono ?_; rintro e w' ⟨rfl, rfl⟩)
  go_ret
  refine ⟨ret_string ?_, (Below.refl _ w).alloc (Nat.le_refl _) _⟩
  unfold strOfNums
  simp only [List.map_cons, List.map_nil]
  refine congrArg ByteArray.mk (congrArg List.toArray ?_)
  rw [show (192 + (m : Int) / 64 : Int).toNat = 192 + m / 64 by omega, show (128 + (m : Int) % 64 : Int).toNat = 128 + m % 64 by omega]

set_option maxRecDepth 10000000 in
set_option maxHeartbeats 2000000 in
theorem refPut3_any (m : Nat) (h0 : 2048 ≤ m) (h1 : m ≤ 65535) (h2 : m < 55296 ∨ 57343 < m) (w : World) : Calls Tryz.prog 105 #[.int .i64 (m : Int)] w fun e w' => e = .returned (.string ⟨#[UInt8.ofNat (224 + m / 4096), UInt8.ofNat (128 + m / 64 % 64), UInt8.ofNat (128 + m % 64)]⟩) ∧ Below w.heap.size w w' := by
  have hp : isPoint (m : Int) = true := by simp [isPoint]; omega
  have PP := fun w => refPoint_any (m : Int) w
  rw [hp] at PP
  replace PP := hid PP
  clear hp
  have hcv : ∀ (a b c : Int) (w : World), (convert 83 9 (.slice (some ⟨w.heap.size, 0, none⟩) 3 3)).run Tryz.prog (w.alloc (.cells #[.int .u8 a, .int .u8 b, .int .u8 c] 5)) = .ok (.string (strOfNums [a, b, c])) (w.alloc (.cells #[.int .u8 a, .int .u8 b, .int .u8 c] 5)) := fun a b c w => conv_new [a, b, c] 3 w
  go_enter Tryz.func105, Tryz.ntmps105
  go_wp2_with (go_at_call 134; refine (PP.out _).mono ?_; rintro e w' ⟨rfl, rfl⟩)
  go_ret
  refine ⟨ret_string ?_, (Below.refl _ w).alloc (Nat.le_refl _) _⟩
  unfold strOfNums
  simp only [List.map_cons, List.map_nil]
  refine congrArg ByteArray.mk (congrArg List.toArray ?_)
  rw [show (224 + (m : Int) / 4096 : Int).toNat = 224 + m / 4096 by omega, show (128 + (m : Int) / 64 % 64 : Int).toNat = 128 + m / 64 % 64 by omega, show (128 + (m : Int) % 64 : Int).toNat = 128 + m % 64 by omega]

set_option maxRecDepth 10000000 in
set_option maxHeartbeats 2000000 in
theorem refPut4_any (m : Nat) (h0 : 65536 ≤ m) (h1 : m ≤ 1114111) (w : World) : Calls Tryz.prog 105 #[.int .i64 (m : Int)] w fun e w' => e = .returned (.string ⟨#[UInt8.ofNat (240 + m / 262144), UInt8.ofNat (128 + m / 4096 % 64), UInt8.ofNat (128 + m / 64 % 64), UInt8.ofNat (128 + m % 64)]⟩) ∧ Below w.heap.size w w' := by
  have hp : isPoint (m : Int) = true := by simp [isPoint]; omega
  have PP := fun w => refPoint_any (m : Int) w
  rw [hp] at PP
  replace PP := hid PP
  clear hp
  have hcv : ∀ (a b c d : Int) (w : World), (convert 83 9 (.slice (some ⟨w.heap.size, 0, none⟩) 4 4)).run Tryz.prog (w.alloc (.cells #[.int .u8 a, .int .u8 b, .int .u8 c, .int .u8 d] 5)) = .ok (.string (strOfNums [a, b, c, d])) (w.alloc (.cells #[.int .u8 a, .int .u8 b, .int .u8 c, .int .u8 d] 5)) := fun a b c d w => conv_new [a, b, c, d] 4 w
  go_enter Tryz.func105, Tryz.ntmps105
  go_wp2_with (go_at_call 134; refine (PP.out _).mono ?_; rintro e w' ⟨rfl, rfl⟩)
  go_ret
  refine ⟨ret_string ?_, (Below.refl _ w).alloc (Nat.le_refl _) _⟩
  unfold strOfNums
  simp only [List.map_cons, List.map_nil]
  refine congrArg ByteArray.mk (congrArg List.toArray ?_)
  rw [show (240 + (m : Int) / 262144 : Int).toNat = 240 + m / 262144 by omega, show (128 + (m : Int) / 4096 % 64 : Int).toNat = 128 + m / 4096 % 64 by omega, show (128 + (m : Int) / 64 % 64 : Int).toNat = 128 + m / 64 % 64 by omega, show (128 + (m : Int) % 64 : Int).toNat = 128 + m % 64 by omega]

theorem refPutbad_any (r : Int) (h : isPoint r = false) (w : World) : Calls Tryz.prog 105 #[.int .i64 r] w fun e w' => e = .returned (.string ⟨#[]⟩) ∧ Below w.heap.size w w' := by
  have PP := fun w => refPoint_any r w
  rw [h] at PP
  replace PP := hid PP
  go_enter Tryz.func105, Tryz.ntmps105
  go_wp2_with (go_at_call 134; refine (PP.out _).mono ?_; rintro e w' ⟨rfl, rfl⟩)
  go_ret
  exact ⟨rfl, Below.refl _ _⟩

theorem refPut_any (r : Int) (w : World) : Calls Tryz.prog 105 #[.int .i64 r] w fun e w' => e = .returned (.string (putS r)) ∧ Below w.heap.size w w' := by
  by_cases hp : isPoint r = true
  · have hb := hp
    simp only [isPoint, Bool.and_eq_true, Bool.or_eq_true, decide_eq_true_eq] at hb
    obtain ⟨m, rfl⟩ := Int.eq_ofNat_of_zero_le hb.1.1
    by_cases h1 : m ≤ 127
    · have := refPut1_any m h1 w
      have e : putS (m : Int) = ⟨#[UInt8.ofNat m]⟩ := by
        unfold putS putN; rw [if_pos hp, show sizeU (m : Int) = 1 by unfold sizeU; rw [if_pos (by omega)]]; rfl
      rw [e]; exact this
    · by_cases h2 : m ≤ 2047
      · have := refPut2_any m (by omega) h2 w
        have e : putS (m : Int) = ⟨#[UInt8.ofNat (192 + m / 64), UInt8.ofNat (128 + m % 64)]⟩ := by
          unfold putS putN; rw [if_pos hp, show sizeU (m : Int) = 2 by unfold sizeU; rw [if_neg (by omega), if_pos (by omega)]]; rfl
        rw [e]; exact this
      · by_cases h3 : m ≤ 65535
        · have := refPut3_any m (by omega) h3 (by omega) w
          have e : putS (m : Int) = ⟨#[UInt8.ofNat (224 + m / 4096), UInt8.ofNat (128 + m / 64 % 64), UInt8.ofNat (128 + m % 64)]⟩ := by
            unfold putS putN; rw [if_pos hp, show sizeU (m : Int) = 3 by unfold sizeU; rw [if_neg (by omega), if_neg (by omega), if_pos (by omega)]]; rfl
          rw [e]; exact this
        · have := refPut4_any m (by omega) (by omega) w
          have e : putS (m : Int) = ⟨#[UInt8.ofNat (240 + m / 262144), UInt8.ofNat (128 + m / 4096 % 64), UInt8.ofNat (128 + m / 64 % 64), UInt8.ofNat (128 + m % 64)]⟩ := by
            unfold putS putN; rw [if_pos hp, show sizeU (m : Int) = 4 by unfold sizeU; rw [if_neg (by omega), if_neg (by omega), if_neg (by omega)]]; rfl
          rw [e]; exact this
  · have e : putS r = ⟨#[]⟩ := by unfold putS putN; rw [if_neg hp]
    rw [e]; exact refPutbad_any r (by simpa using hp) w
end
section
open Go Go.RowKit
set_option linter.unusedSimpArgs false
attribute [local go_sem] Oper.semAt_some

/-- Two boxes of one cell each, made at the outset. -/
structure Two (t1 t2 : TypeId) (A1 A2 : Array Value) (w W : World) : Prop where
  r1 : RowAt W w.heap.size t1 A1
  r2 : RowAt W (w.heap.size + 1) t2 A2
  bel : Below w.heap.size w W
  sz : w.heap.size + 2 ≤ W.heap.size
theorem Two.start (t1 t2 : TypeId) (A1 A2 : Array Value) (w : World) : Two t1 t2 A1 A2 w ((w.alloc (.cells A1 t1)).alloc (.cells A2 t2)) :=
  ⟨(RowAt.new w A1 t1).alloc _, by have := RowAt.new (w.alloc (.cells A1 t1)) A2 t2; rwa [World.size_alloc] at this, below_al (below_al (Below.refl _ _) _) _, by simp⟩
theorem Two.step {t1 t2 : TypeId} {A1 A2 : Array Value} {w W W' : World} (h : Two t1 t2 A1 A2 w W) (hB : Below W.heap.size W W') : Two t1 t2 A1 A2 w W' :=
  ⟨h.r1.below hB h.r1.lt, h.r2.below hB h.r2.lt, below_cat hB h.bel, Nat.le_trans h.sz hB.size⟩
theorem Two.alloc {t1 t2 : TypeId} {A1 A2 : Array Value} {w W : World} (h : Two t1 t2 A1 A2 w W) (o : Obj) : Two t1 t2 A1 A2 w (W.alloc o) :=
  ⟨h.r1.alloc _, h.r2.alloc _, below_al h.bel _, by have := h.sz; simp; omega⟩
theorem Two.kept {t1 t2 : TypeId} {A1 A2 : Array Value} {w W W' : World} {T : Nat → Prop} (h : Two t1 t2 A1 A2 w W) (hk : Kept T W W') (hT : ∀ k, T k → w.heap.size + 2 ≤ k) : Two t1 t2 A1 A2 w W' :=
  ⟨hk.row h.r1 (fun x => by have := hT _ x; omega), hk.row h.r2 (fun x => by have := hT _ x; omega), below_kept h.bel hk (Nat.le_refl _) (fun k x => by have := hT _ x; omega), Nat.le_trans h.sz hk.size⟩

theorem Two.setOther {t1 t2 : TypeId} {A1 A2 : Array Value} {w W : World} (h : Two t1 t2 A1 A2 w W) (a : Addr) (v : Value) (ha : w.heap.size + 2 ≤ a.block) : Two t1 t2 A1 A2 w (W.setCell a v) :=
  ⟨h.r1.other a v (by omega), h.r2.other a v (by omega), h.bel.setCell (by omega) v, by rw [World.size_setCell]; exact h.sz⟩

theorem run_min2 {P : Program} (ts : Array TypeId) (t : TypeId) (k : IntKind) (x y : Int) (w : World) : (Builtin.min_ ts t #[.int k x, .int k y]).run P w = .ok (.int k (min x y)) w := by
  have e : ∀ a b : Int, (if b < a then b else a) = min a b := fun a b => by omega
  simp only [Builtin.min_, List.foldlM_cons, List.foldlM_nil, Builtin.min2, Sem.run_bind, Sem.run_pure, Result.andThen, e]
/-- The result lies in a box of one cell. -/
theorem results_cell1 {P : Program} {fn : Func} {p : Tmp} {ty : TypeId} (h : fn.results = #[.cell p ty]) (tmps : Array Value) (w : World) (b : Nat) (v : Value) (hp : tmps.getD p undef = .pointer (some ⟨b, 0, none⟩))
    (hc : w.cell? ⟨b, 0, none⟩ = some v) (hu : P.underlying ty = some .bool) : (results fn tmps).run P w = .ok v w := by
  have hp' : tmps[p]?.getD undef = .pointer (some ⟨b, 0, none⟩) := by simpa using hp
  simp [results, h, hp', asAddr, loadVar, isAgg, run_underlying hu, go_sem, hc]

end
section
open Go Go.RowKit
set_option linter.unusedSimpArgs false
attribute [local go_sem] Oper.semAt_some

theorem run_max2 {P : Program} (ts : Array TypeId) (t : TypeId) (k : IntKind) (x y : Int) (w : World) : (Builtin.max_ ts t #[.int k x, .int k y]).run P w = .ok (.int k (max x y)) w := by
  have e : ∀ a b : Int, (if b > a then b else a) = max a b := fun a b => by omega
  simp only [Builtin.max_, List.foldlM_cons, List.foldlM_nil, Builtin.max2, Sem.run_bind, Sem.run_pure, Result.andThen, e]

theorem joins_cut {s : ByteArray} {ps : List Nat} (hp : Points ps) (es : s.data.toList = flat ps) {pre post : List (Nat × Nat)} {at' r : Nat} (hx : places 0 ps = pre ++ (at', r) :: post) :
    at' + (putS (r : Nat)).size ≤ s.size ∧ badN (s.extract 0 at') = -1 ∧ badN (s.extract at' s.size) = -1 ∧ s.extract at' (at' + (putS (r : Nat)).size) = putS (r : Nat) ∧ (putS (r : Nat)).size ≤ 4 := by
  have hat := places_at hp hx
  rw [Nat.zero_add] at hat
  have hps : ps = pre.map Prod.snd ++ r :: post.map Prod.snd := by
    have := congrArg (List.map Prod.snd) hx
    rw [places_snd] at this
    simpa using this
  obtain ⟨P1, h1⟩ : ∃ P, P = pre.map Prod.snd := ⟨_, rfl⟩
  obtain ⟨P2, h2⟩ : ∃ P, P = post.map Prod.snd := ⟨_, rfl⟩
  rw [← h1] at hat hps
  rw [← h2] at hps
  have q1 : Points P1 := fun p h => hp p (by rw [hps]; simp [h])
  have q2 : Points (r :: P2) := fun p h => hp p (by rw [hps]; exact List.mem_append_right _ h)
  rw [hps, flat_append] at es
  have hsz : s.size = (flat P1).length + (flat (r :: P2)).length := by
    have h5 : s.data.toList.length = s.size := by simp
    rw [← h5, es, List.length_append]
  have hn : (putS (r : Nat)).size = (putN (r : Nat)).length := rfl
  have hl : (flat (r :: P2)).length = (putN (r : Nat)).length + (flat P2).length := by rw [flat_cons, List.length_append]
  have h4 := sizeN_pos (r : Nat)
  have hz := put_len (points_cons q2).1
  have c0 : (s.extract 0 at').data.toList = flat P1 := by
    rw [Lib.extract_data, es, hat, List.drop_zero, Nat.sub_zero, List.take_left]
  have c1 : (s.extract at' s.size).data.toList = flat (r :: P2) := by
    rw [Lib.extract_data, es, hat, List.drop_left, hsz, Nat.add_sub_cancel_left, List.take_length]
  have c2 : (s.extract at' (at' + (putS (r : Nat)).size)).data.toList = putN (r : Nat) := by
    rw [Lib.extract_data, es, hat, List.drop_left, Nat.add_sub_cancel_left, hn, flat_cons, List.take_left]
  refine ⟨by omega, bad_flat q1 c0, bad_flat q2 c1, ?_, by omega⟩
  exact ByteArray.ext (Array.ext' (by rw [c2, putS_list]))


end
section
open Go

/-- The byte at a place, as a number; 0 beyond. -/
def byI (l : List UInt8) (i : Nat) : Int := ((l.getD i 0).toNat : Int)
/-- The number reckoned at size k. -/
def valN (k : Nat) (l : List UInt8) : Int :=
  match k with
  | 1 => byI l 0
  | 2 => (byI l 0 - 192) * 64 + byI l 1 - 128
  | 3 => (byI l 0 - 224) * 4096 + (byI l 1 - 128) * 64 + byI l 2 - 128
  | _ => (byI l 0 - 240) * 262144 + (byI l 1 - 128) * 4096 + (byI l 2 - 128) * 64 + byI l 3 - 128
/-- A number written stands at the text's beginning: it is what is read. -/
theorem one_hit {l : List UInt8} {k : Nat} {v : Int} (hk : 1 ≤ k) (hl : k ≤ l.length) (h : putN v = l.take k) : 0 ≤ v ∧ firstN l = some (v.toNat, k) := by
  have hlen : (putN v).length = k := by rw [h, List.length_take]; omega
  have hp : isPoint v = true := by
    cases hq : isPoint v with
    | true => rfl
    | false => exfalso; unfold putN at hlen; rw [hq] at hlen; simp at hlen; omega
  have hv : 0 ≤ v := by simp only [isPoint, Bool.and_eq_true, decide_eq_true_eq] at hp; omega
  obtain ⟨r, rfl⟩ := Int.eq_ofNat_of_zero_le hv
  refine ⟨hv, ?_⟩
  have := firstN_put hp (l.drop k)
  rw [h, List.take_append_drop] at this
  rw [this, Int.toNat_natCast, ← put_len hp, hlen]
/-- What is read is reckoned at its size, and written it stands there. -/
theorem one_miss {l : List UInt8} {r n : Nat} (h : firstN l = some (r, n)) : valN n l = (r : Int) ∧ putN (r : Nat) = l.take n ∧ 1 ≤ n ∧ n ≤ 4 ∧ n ≤ l.length := by
  obtain ⟨h1, h2, h3, -, -⟩ := firstN_size h
  obtain ⟨e, hn, hp⟩ := firstN_is h
  have hlen := put_len hp
  have hq := point_nat hp
  have ht : putN (r : Nat) = l.take n := by
    have := congrArg (List.take n) e
    rw [hn, ← hlen, List.take_left] at this
    rw [hn, ← hlen]; exact this.symm
  refine ⟨?_, ht, h1, h3, h2⟩
  obtain ⟨t, htt⟩ : ∃ t, t = l.drop n := ⟨_, rfl⟩
  rw [← htt] at e
  clear htt ht
  by_cases c1 : r < 128
  · obtain ⟨e1, z⟩ := put1 hp c1
    rw [e, e1, hn, z]
    simp only [valN, byI, List.cons_append, List.nil_append, List.getD_cons_zero]
    rw [u8_ofNat (by omega)]
  · by_cases c2 : r < 2048
    · obtain ⟨e1, z⟩ := put2 hp (by omega) c2
      rw [e, e1, hn, z]
      simp only [valN, byI, List.cons_append, List.nil_append, List.getD_cons_zero, List.getD_cons_succ]
      rw [u8_ofNat (by omega), u8_ofNat (by omega)]
      omega
    · by_cases c3 : r < 65536
      · obtain ⟨e1, z⟩ := put3 hp (by omega) c3
        rw [e, e1, hn, z]
        simp only [valN, byI, List.cons_append, List.nil_append, List.getD_cons_zero, List.getD_cons_succ]
        rw [u8_ofNat (by omega), u8_ofNat (by omega), u8_ofNat (by omega)]
        omega
      · obtain ⟨e1, z⟩ := put4 hp (by omega)
        rw [e, e1, hn, z]
        simp only [valN, byI, List.cons_append, List.nil_append, List.getD_cons_zero, List.getD_cons_succ]
        rw [u8_ofNat (by omega), u8_ofNat (by omega), u8_ofNat (by omega), u8_ofNat (by omega)]
        omega
/-- What One answers. -/
def oneN (l : List UInt8) : Int := match firstN l with | some (r, _) => (r : Int) | none => -1
theorem oneN_hit {l : List UInt8} {k : Nat} {v : Int} (hk : 1 ≤ k) (hl : k ≤ l.length) (h : putN v = l.take k) : oneN l = v := by
  obtain ⟨h0, h1⟩ := one_hit hk hl h
  rw [oneN, h1]; simp only []; omega
theorem oneN_none {l : List UInt8} (h : ∀ k, 1 ≤ k → k ≤ 4 → k ≤ l.length → putN (valN k l) ≠ l.take k) : oneN l = -1 := by
  rw [oneN]
  cases hf : firstN l with
  | none => rfl
  | some rn =>
    obtain ⟨r, n⟩ := rn
    obtain ⟨e1, e2, h1, h2, h3⟩ := one_miss hf
    exact absurd (by rw [e1]; exact e2) (h n h1 h2 h3)
end
end Go.Proofs.YtdjlpmelmhhooaaGreatDoor
