/- A region that draws its order, quiet but for its last operation, in a round of a loop over an iterator. Over whatever program. -/
import Derived.Test.YtbbjoahloghpkaaDoorLast
namespace Go.Proofs.YtbbjoahloghpkaaDoor
open Go Go.RowKit

theorem anyIn_done {F : Fence} {n : Nat} {P : Program} {md : Region.Mode} {ops : Array Oper} {Q' : Exit → Act → World → Prop} {listed : Array Bool} (h : Region.ready md ops listed = []) {a : Act} {w : World} (hQ : Q' .normal a w) : ∀ fuel, wpAnyIn F n P md ops Q' fuel listed a w
  | 0 => ⟨h, hQ⟩
  | _ + 1 => ⟨fun _ => hQ, fun i hi => by rw [h] at hi; cases hi⟩
theorem any_last_round {P : Program} {l : List Oper} {rd : Nat} (hnd : noDefer (muted l).toArray = true) (hW : Waits l.toArray) {C : World → Prop} {Q₁ : Act → Prop} {Q' : Exit → Act → World → Prop} {n : Nat} (hn : n + 1 = l.length) {o : Oper} (ho : l[n]? = some o)
    (hlast : ∀ a w, C w → Q₁ a → o.wpIn (Fence.wide.inRound rd) 0 P a w (Q' .normal) Q') :
    ∀ (fuel : Nat) (listed : Array Bool) (a : Act) (w : World), listed.getD n true = false → Shut l.toArray listed → C w → wpAnyQ P .any (muted l).toArray C Q₁ fuel listed a → wpAnyIn (Fence.wide.inRound rd) 0 P .any l.toArray Q' fuel listed a w := by
  have hn' : n < l.toArray.size := by simp; omega
  have hg : o.guard = none := by
    cases hg : o.guard with
    | none => rfl
    | some gb => obtain ⟨g, b⟩ := gb; have := (hW.guard n o (by simpa using ho) g b hg).2; simp at this; omega
  intro fuel
  induction fuel with
  | zero =>
    intro listed a w hl _ _ h
    have h1 := h.1
    rw [muted_ready] at h1
    have := hW.all h1 n hn'
    rw [hl] at this; cases this
  | succ fuel ih =>
    intro listed a w hl hS hC h
    refine ⟨fun h0 => ?_, fun i hi => ?_⟩
    · have := hW.all h0 n hn'
      rw [hl] at this; cases this
    · have hq := h.2 i (by rw [muted_ready]; exact hi)
      by_cases e : i = n
      · subst e
        have hall := hW.last hS (by simpa using hn) hi
        obtain ⟨hun, _, _, _⟩ := mem_ready.1 hi
        have hsz : i < listed.size := by
          rcases Nat.lt_or_ge i listed.size with h' | h'
          · exact h'
          · simp [Array.getElem?_eq_none h'] at hun
        have hready : Region.ready .any l.toArray (listed.setIfInBounds i true) = [] := by
          rw [List.eq_nil_iff_forall_not_mem]
          intro j hj
          obtain ⟨hj1, oj, hj2, _⟩ := mem_ready.1 hj
          have hjlt : j < l.length := by simpa using (Array.getElem?_eq_some_iff.1 hj2).1
          by_cases ej : j = i
          · subst ej
            rw [Array.getD_eq_getD_getElem?, Array.getElem?_setIfInBounds_self_of_lt hsz] at hj1
            cases hj1
          · have h3 := hall j (by omega)
            rw [Array.getD_eq_getD_getElem?, Array.getElem?_setIfInBounds_ne (Ne.symm ej)] at hj1
            rw [Array.getD_eq_getD_getElem?] at h3
            cases hx : listed[j]? with
            | none => rw [hx] at h3; cases h3
            | some b => rw [hx] at h3 hj1; simp at h3 hj1; rw [h3] at hj1; cases hj1
        have hQ1 : Q₁ a := by
          unfold qOp at hq
          have hmg : (muted l).toArray[i]? = some (mute o) := by rw [List.getElem?_toArray, muted_get, if_pos hn, ho]; rfl
          simp only [hmg] at hq
          have hwt : Region.wanted (mute o) (yielded (muted l).toArray a.tmps) = true := by simp [Region.wanted, mute, hg]
          rw [if_pos hwt] at hq
          obtain ⟨v, _, h5⟩ := hq
          have h6 := anyQ_done (by rw [muted_ready]; exact hready) _ h5
          exact h6
        unfold wpOpIn
        rw [List.getElem?_toArray, ho]
        simp only [Region.wanted, hg, if_true]
        exact Oper.wpIn_mono (fun a' w' hq' => anyIn_done hready hq' _) (hlast a w hC hQ1)
      · have hndi : ∀ oi, l[i]? = some oi → ∀ c, oi.op ≠ .defer c := fun oi hoi => noDefer_spec hnd (i := i) (by rw [List.getElem?_toArray, muted_get, if_neg (by omega), hoi])
        have hsame : qOp P l.toArray C i (wpAnyQ P .any (muted l).toArray C Q₁ fuel (listed.setIfInBounds i true)) a := by
          unfold qOp at hq ⊢
          cases hoi : l[i]? with
          | none =>
            simp only [List.getElem?_toArray, muted_get, if_neg (show ¬ (i + 1 = l.length) by omega), hoi] at hq ⊢
            exact hq
          | some oi =>
            simp only [List.getElem?_toArray, muted_get, if_neg (show ¬ (i + 1 = l.length) by omega), hoi] at hq ⊢
            rw [muted_wanted hW hoi] at hq
            exact hq
        have hl2 : (listed.setIfInBounds i true).getD n true = false := by rw [getD_set_ne true e]; exact hl
        unfold qOp at hsame
        unfold wpOpIn
        cases hoi : l.toArray[i]? with
        | none =>
          simp only [hoi] at hsame ⊢
          exact ih _ a w hl2 (hS.next hi) hC hsame
        | some oi =>
          simp only [hoi] at hsame ⊢
          have hd := hndi oi (by simpa using hoi)
          split
          · rename_i hw
            rw [if_pos hw] at hsame
            exact roundOper_of_quiet hd hC (fun a' w' hC' hk => ih _ a' w' hl2 (hS.next hi) hC' hk) hsame
          · rename_i hw
            rw [if_neg hw] at hsame
            exact ⟨fun _ _ => trivial, ih _ _ w hl2 (hS.next hi) hC hsame⟩


theorem wpIn_region_last_round {P : Program} {id : Nat} {Q : Exit → Act → World → Prop} {a : Act} {w : World} {l : List Oper} {rd : Nat} (hm : P.follows .mixedOrders = true) (hWB : lastWaits l.toArray = true) (hB : Region.lexB .any (muted l).toArray = true)
    (hnd : noDefer (muted l).toArray = true) (n : Nat) (o : Oper) (hn : n + 1 = l.length) (ho : l[n]? = some o)
    (h : wpQuiet P (muted l).toArray (fun w' => ∃ p : Sub w, w' = p.x) (fun a' => ∀ q : Sub w, o.wpIn (Fence.wide.inRound rd) 0 P a' q.x (Q .normal) Q) (muted l) a) : (Code.region id l.toArray true).wpIn (Fence.wide.inRound rd) 0 P Q a w := by
  simp only [Region.lexB, Bool.and_eq_true] at hB
  refine wpIn_region_any hm (any_last_round hnd (lastWaits_spec hWB) (C := fun w' => ∃ p : Sub w, w' = p.x) (Q₁ := fun a' => ∀ q : Sub w, o.wpIn (Fence.wide.inRound rd) 0 P a' q.x (Q .normal) Q) hn ho (fun a' w' hC hq => by obtain ⟨q, rfl⟩ := hC; exact hq q) _ _ _ _ ?_ ?_
    ⟨⟨w.drew, rfl, rfl, rfl, Nat.le_refl _, fun _ _ => rfl⟩, rfl⟩ ?_)
  · have : n < l.length := by omega
    simp [this]
  · intro i o' _ hl
    rw [Array.getD_eq_getD_getElem?, Array.getElem?_replicate] at hl
    split at hl <;> cases hl
  · have := wpAnyQ_lex (P := P) (C := fun w' => ∃ p : Sub w, w' = p.x) (md := .any) hB.1 (muted l) 0 (Array.replicate (muted l).toArray.size false) a (by simp) (by simpa using hB.2) h
    simpa [muted_len] using this

end Go.Proofs.YtbbjoahloghpkaaDoor
