/- Plain words on layer 4: texts as rows of code points. No program in sight. -/
import Derived.Test.YtbedanlkkidkkabUtf8
namespace Go.Proofs.Ytbedanlkkidkkab
open Go

/-- The bytes of so many code points. -/
def flat (ps : List Nat) : List UInt8 := ps.flatMap fun p => putN (p : Nat)
theorem flat_cons (p : Nat) (ps : List Nat) : flat (p :: ps) = putN (p : Nat) ++ flat ps := by simp [flat]
theorem flat_append (ps qs : List Nat) : flat (ps ++ qs) = flat ps ++ flat qs := by simp [flat]
def places : Nat → List Nat → List (Nat × Nat)
  | _, [] => []
  | a, p :: ps => (a, p) :: places (a + sizeN (p : Nat)) ps
theorem places_snd : ∀ (a : Nat) (ps : List Nat), (places a ps).map Prod.snd = ps
  | _, [] => rfl
  | a, p :: ps => by simp [places, places_snd]
theorem places_len (a : Nat) (ps : List Nat) : (places a ps).length = ps.length := by
  have := congrArg List.length (places_snd a ps); simpa using this
def Points (ps : List Nat) : Prop := ∀ p ∈ ps, isPoint (p : Nat) = true
theorem points_cons {p : Nat} {ps : List Nat} (h : Points (p :: ps)) : isPoint (p : Nat) = true ∧ Points ps := ⟨h p (by simp), fun q hq => h q (by simp [hq])⟩
theorem places_at : ∀ {a : Nat} {ps : List Nat} {pre post : List (Nat × Nat)} {at' r : Nat}, Points ps → places a ps = pre ++ (at', r) :: post → at' = a + (flat (pre.map Prod.snd)).length
  | a, [], pre, post, at', r, _, h => by cases pre <;> simp [places] at h
  | a, p :: ps, [], post, at', r, _, h => by simp [places] at h; simp [flat, h.1.1]
  | a, p :: ps, x :: pre, post, at', r, hp, h => by
    simp only [places, List.cons_append, List.cons.injEq] at h
    obtain ⟨rfl, h⟩ := h
    have := places_at (points_cons hp).2 h
    rw [this, List.map_cons, flat_cons, List.length_append, put_len (points_cons hp).1]
    omega
theorem lastEnd_places : ∀ (a : Nat) (ps : List Nat), Points ps → lastEnd a (places a ps) = a + (flat ps).length
  | a, [], _ => by simp [places, lastEnd, flat]
  | a, p :: ps, h => by
    have ih := lastEnd_places (a + sizeN (p : Nat)) ps (points_cons h).2
    rw [flat_cons, List.length_append, put_len (points_cons h).1, ← Nat.add_assoc, ← ih]
    rw [places]
    unfold lastEnd
    rw [List.getLast?_cons]
    cases (places (a + sizeN (p : Nat)) ps).getLast? <;> simp

theorem runesF_nil (k a : Nat) : runesF k a [] = [] := by cases k <;> simp [runesF, firstN]
theorem runesF_fuel : ∀ (k k' a : Nat) (l : List UInt8), l.length ≤ k → l.length ≤ k' → runesF k a l = runesF k' a l
  | 0, k', a, l, h, _ => by rw [List.length_eq_zero_iff.1 (by omega : l.length = 0), runesF_nil, runesF_nil]
  | k + 1, 0, a, l, _, h => by rw [List.length_eq_zero_iff.1 (by omega : l.length = 0), runesF_nil, runesF_nil]
  | k + 1, k' + 1, a, l, h, h' => by
    unfold runesF
    split
    · rfl
    · rename_i r n hf
      obtain ⟨h1, h2, -, -, -⟩ := firstN_size hf
      rw [runesF_fuel k k' (a + n) (l.drop n) (by rw [List.length_drop]; omega) (by rw [List.length_drop]; omega)]
theorem flat_runes : ∀ (ps : List Nat), Points ps → ∀ (a : Nat) (t : List UInt8) (k : Nat), (flat ps ++ t).length ≤ k → runesF k a (flat ps ++ t) = places a ps ++ runesF t.length (a + (flat ps).length) t
  | [], _, a, t, k, hk => by simp only [flat, List.flatMap_nil, List.nil_append, places, List.length_nil, Nat.add_zero] at hk ⊢; exact runesF_fuel _ _ _ _ hk (Nat.le_refl _)
  | p :: ps, h, a, t, k, hk => by
    obtain ⟨hp, hps⟩ := points_cons h
    have hz := sizeN_pos (p : Nat)
    have hl := put_len hp
    rw [flat_cons, List.append_assoc] at hk ⊢
    rw [List.length_append] at hk
    obtain ⟨k, rfl⟩ : ∃ m, k = m + 1 := ⟨k - 1, by omega⟩
    rw [runesF, firstN_put hp]
    simp only []
    rw [← hl, List.drop_left, flat_runes ps hps _ t k (by omega), places, hl, List.length_append, hl, List.cons_append, Nat.add_assoc]
theorem runes_flat {ps : List Nat} (h : Points ps) : runesN (flat ps) = places 0 ps := by
  have := flat_runes ps h 0 [] (flat ps).length (by simp)
  rw [List.append_nil, runesF_nil, List.append_nil] at this
  exact this
theorem runes_is : ∀ (k a : Nat) (l : List UInt8), l.length ≤ k → l = flat ((runesF k a l).map Prod.snd) ++ l.drop (endF k a l - a) ∧ a ≤ endF k a l
  | 0, a, l, h => by rw [List.length_eq_zero_iff.1 (by omega : l.length = 0)]; simp [runesF, flat, endF]
  | k + 1, a, l, h => by
    unfold runesF endF
    split
    · simp [flat]
    · rename_i r n hf
      obtain ⟨h1, h2, -, -, -⟩ := firstN_size hf
      obtain ⟨e, hn, -⟩ := firstN_is hf
      obtain ⟨ih, ile⟩ := runes_is k (a + n) (l.drop n) (by rw [List.length_drop]; omega)
      refine ⟨?_, by omega⟩
      rw [List.map_cons, flat_cons, List.append_assoc]
      rw [show endF k (a + n) (l.drop n) - a = n + (endF k (a + n) (l.drop n) - (a + n)) by omega, ← List.drop_drop, ← ih]
      exact e
theorem points_runes (l : List UInt8) : Points ((runesN l).map Prod.snd) := by
  intro p hp
  obtain ⟨x, hx, rfl⟩ := List.mem_map.1 hp
  exact (runesN_all l x hx).1

/-- Valid: it is so many code points. -/
theorem bad_flat {s : ByteArray} {ps : List Nat} (h : Points ps) (e : s.data.toList = flat ps) : badN s = -1 := by
  have h5 : s.data.toList.length = s.size := by simp
  rw [badN, if_pos]
  rw [endN_eq, e, runes_flat h, lastEnd_places 0 ps h, Nat.zero_add, ← e, h5]
theorem flat_of {s : ByteArray} (h : badN s < 0) : ∃ ps, Points ps ∧ s.data.toList = flat ps ∧ runesN s.data.toList = places 0 ps := by
  have h5 : s.data.toList.length = s.size := by simp
  have he : endN s.data.toList = s.size := by
    unfold badN at h
    split at h
    · assumption
    · omega
  have hi := (runes_is s.data.toList.length 0 s.data.toList (Nat.le_refl _)).1
  have he' : endF s.data.toList.length 0 s.data.toList = s.data.toList.length := by rw [h5]; exact he
  rw [he', Nat.sub_zero, List.drop_length, List.append_nil] at hi
  refine ⟨_, points_runes _, hi, ?_⟩
  conv => lhs; rw [hi]
  exact runes_flat (points_runes _)

theorem putS_list (r : Int) : (putS r).data.toList = putN r := by simp [putS]
theorem putS_runes {r : Nat} (h : isPoint (r : Nat) = true) : runesN (putS (r : Nat)).data.toList = [(0, r)] ∧ badN (putS (r : Nat)) = -1 := by
  have hp : Points [r] := fun p hp => by simp at hp; rw [hp]; exact h
  have e : (putS (r : Nat)).data.toList = flat [r] := by rw [putS_list]; simp [flat]
  exact ⟨by rw [e, runes_flat hp]; rfl, bad_flat hp e⟩

end Go.Proofs.Ytbedanlkkidkkab
