/- A drawn region in a round of a loop over an iterator: each operation by itself, and a tail. Over whatever program. -/
import Derived.Test.YtdjlpmelmhhooaaDoorLibA
namespace Go.Proofs.YtdjlpmelmhhooaaDoor
open Go Go.RowKit

/-- Only by its end. -/
def onlyN (R : Act → World → Prop) (e : Exit) (a : Act) (w : World) : Prop := e = .normal ∧ R a w
theorem onlyN_out {R : Act → World → Prop} (h : LetsOut (onlyN R)) : False := by
  unfold LetsOut at h
  first | exact absurd h.1 (by simp) | simp [onlyN] at h
section
variable {P : Program} {ops : Array Oper} {md : Region.Mode} {l : Nat}
theorem roundOper_of_wp {o : Oper} {a : Act} {K K' : Act → World → Prop} {Q' : Exit → Act → World → Prop} {R : Act → World → Prop} {w : World} (hnd : ∀ c, o.op ≠ .defer c) (h : ∀ a w', K a w' → K' a w')
    (hh : o.wp P a w K (onlyN R)) : o.wpIn (Fence.wide.inRound l) 0 P a w K' Q' := by
  refine ⟨fun _ _ => trivial, ?_⟩
  rw [Oper.semAt_plain _ _ _ hnd]
  unfold Oper.wp at hh
  generalize (execOp a.eval o).run P w = r at *
  cases r with
  | ok n w' =>
    cases n <;> simp only [Oper.upon] at hh
    case value u => exact h _ _ hh
    case skip => exact h _ _ hh
    case defer d => exact h _ _ hh
    case row row args => exact ⟨fun hd => (by cases hd), (show RowsIn Fence.wide _ _ _ _ _ _ from fun c cs _ => let ⟨v, w', r, s⟩ := hh c cs; ⟨v, w', h _ _ r, stepsIn_wide.2 s⟩)⟩
    case enter f args =>
      exact ⟨fun hd => (by cases hd), CallsIn.inRound l (callsIn_wide.2 (hh.mono fun e w'' he => by
        cases e with
        | returned v => exact h _ _ he
        | panicked c => exact absurd he.1 (by simp)
        | outgrown => exact (onlyN_out he).elim))⟩
  | halt x w' =>
    cases x <;> simp only [Oper.upon] at hh
    exact absurd hh.1 (by simp)
theorem roundOp_of_wp {i : Nat} {a : Act} {K K' : Act → World → Prop} {Q' : Exit → Act → World → Prop} {R : Act → World → Prop} {w : World} (hnd : noDefer ops = true) (h : ∀ a w', K a w' → K' a w')
    (hh : wpOp P ops (onlyN R) i K a w) : wpOpIn (Fence.wide.inRound l) 0 P ops Q' i K' a w := by
  unfold wpOp at hh
  unfold wpOpIn
  split
  · rename_i ho; simp only [ho] at hh; exact h _ _ hh
  · rename_i o ho
    simp only [ho] at hh
    split
    · rename_i hw
      simp only [hw, if_true] at hh
      rcases hh with hh | hh
      · exact roundOper_of_wp (noDefer_spec hnd ho) h hh
      · exact (onlyN_out hh.2).elim
    · rename_i hw; simp only [hw] at hh; exact ⟨fun _ _ => trivial, h _ _ hh⟩
theorem roundAny_of_any {Q' : Exit → Act → World → Prop} {R : Act → World → Prop} (hnd : noDefer ops = true) (hQ : ∀ a w, R a w → Q' .normal a w) : ∀ (fuel : Nat) (listed : Array Bool) (a : Act) (w : World),
    wpAny P md ops (onlyN R) fuel listed a w → wpAnyIn (Fence.wide.inRound l) 0 P md ops Q' fuel listed a w
  | 0, _, _, _, h => ⟨h.1, hQ _ _ h.2.2⟩
  | fuel + 1, _, _, _, h => ⟨fun h0 => hQ _ _ (h.1 h0).2, fun i hi => roundOp_of_wp hnd (fun a' w' => roundAny_of_any hnd hQ fuel _ a' w') (h.2 i hi)⟩
end
theorem wpIn_region_slots_round {P : Program} {id : Nat} {Q : Exit → Act → World → Prop} {r : Nat} {a0 : Act} {w : World} {l : List Oper} (n m : Nat) (Φ : Nat → Value → World → Prop) (hm : P.follows .mixedOrders = true) (hnd : noDefer l.toArray = true) (hWB : tailWaits n l.toArray = true) (hA : slotsApart n l = true)
    (hG : guardsIn n l = true) (hD : dstIn n m l = true) (hsz : a0.tmps.size = m)
    (hst : ∀ i v W W', i < n → Φ i v W → Below W.heap.size W W' → Φ i v W') (hg : ∀ p ∈ guardsOf n l, ∀ v W, Φ p.1 v W → v = .bool p.2)
    (hop : EachOp P n l Φ a0 w (l.take n) 0)
    (hend : ∀ a W, Below w.heap.size w W → a.tmps.size = m → a.defers = a0.defers → (∀ k, outB' n l k = true → a.tmps.getD k undef = a0.tmps.getD k undef) → (∀ i d, i < n → slotOf l i = some d → Φ i (a.tmps.getD d undef) W) → wpList P l.toArray (onlyN fun a w => Q .normal a w) (l.drop n) a W) :
    (Code.region id l.toArray true).wpIn (Fence.wide.inRound r) 0 P Q a0 w := by
  have hW := tailWaits_spec hWB
  have hnl : n < l.length := by simpa using hW.lt
  refine wpIn_region_any hm (roundAny_of_any (R := fun a w => Q .normal a w) hnd (fun _ _ h => h) _ _ _ _ (any_slots hW hA (Φ := Φ) (a0 := a0) (w := w) hst ?_ ?_ ?_ ?_ _ _ _ _ (by simp) ?_ ?_ ?_ ⟨⟨rfl, rfl, rfl, Nat.le_refl _, fun _ _ => rfl⟩, rfl, rfl, fun _ _ => rfl, ?_⟩))
  · intro i d hi hd
    unfold dstIn at hD
    rw [List.all_eq_true] at hD
    have := hD i (List.mem_range.2 hi)
    rw [hd] at this
    rw [hsz]
    simpa using this
  · intro i o g b hi ho hgd
    unfold guardsIn at hG
    rw [List.all_eq_true] at hG
    have := hG i (List.mem_range.2 hi)
    simp only [ho, hgd, Bool.and_eq_true] at this
    obtain ⟨h1, h2⟩ := this
    refine ⟨Option.isSome_iff_exists.1 h1, depB_of h2, hg (g, b) ?_⟩
    unfold guardsOf
    rw [List.mem_eraseDups, List.mem_filterMap]
    refine ⟨o, ?_, hgd⟩
    have : (l.take n)[i]? = some o := by rw [List.getElem?_take, if_pos hi]; exact ho
    exact List.mem_of_getElem? this
  · intro i o hi ho a W hb _ hold hdep
    have h1 : (l.take n)[i]? = some o := by rw [List.getElem?_take, if_pos hi]; exact ho
    have := hop.get i o h1 a W hb (fun k hk => hold k (outB'_of hk)) (fun j d hj hd => hdep j d (depB_of hj) hd)
    rwa [Nat.zero_add] at this
  · intro a W hSt
    exact hend a W hSt.bel (by rw [hSt.size, hsz]) hSt.defers (fun k hk => hSt.old k (outB'_of hk)) (fun i d hi hd => hSt.new i d hi (by
      have : i < l.length := by omega
      simp [this]) hd)
  · simp [hnl]
  · intro i o' _ hl
    rw [Array.getD_eq_getD_getElem?, Array.getElem?_replicate] at hl
    split at hl <;> cases hl
  · unfold unl
    have := List.countP_le_length (p := fun i => !((Array.replicate l.toArray.size false).getD i true)) (l := List.range l.length)
    simpa using this
  · intro i d hi hl _
    have h1 : i < l.length := by omega
    simp [h1] at hl
theorem wpIn_region_each_round {P : Program} {id : Nat} {Q : Exit → Act → World → Prop} {r : Nat} {a0 : Act} {w : World} {l : List Oper} (n m : Nat) (Φ : Nat → Value → World → Prop) (hm : P.follows .mixedOrders = true) (hnd : noDefer l.toArray = true) (hWB : tailWaits n l.toArray = true) (hA : slotsApart n l = true)
    (hG : guardsIn n l = true) (hD : dstIn n m l = true) (hsz : a0.tmps.size = m)
    (hst : ∀ i v W W', i < n → Φ i v W → Below W.heap.size W W' → Φ i v W') (hg : ∀ p ∈ guardsOf n l, ∀ v W, Φ p.1 v W → v = .bool p.2)
    (hop : EachOp P n l Φ a0 w (l.take n) 0)
    (hend : ∀ (X : Nat → Value) W, Below w.heap.size w W → (∀ i d, i < n → slotOf l i = some d → Φ i (X d) W) → wpList P l.toArray (onlyN fun a w => Q .normal a w) (l.drop n) { tmps := putAll ((slotsOf n l).map fun d => (d, X d)) a0.tmps, defers := a0.defers } W) :
    (Code.region id l.toArray true).wpIn (Fence.wide.inRound r) 0 P Q a0 w :=
  wpIn_region_slots_round n m Φ hm hnd hWB hA hG hD hsz hst hg hop fun a W hb hs hd hold hnew => by
    rw [frame_of (a0 := a0) (n := n) (l := l) (by rw [hs, hsz]) hd hold]
    exact hend (fun d => a.tmps.getD d undef) W hb hnew
end Go.Proofs.YtdjlpmelmhhooaaDoor
