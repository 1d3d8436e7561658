/- A region that draws its order: quiet operations, and a last one (a store) that waits for all others. Over whatever program. -/
import Derived.Test.YtbedanlkkidkkabSub
namespace Go.Proofs.Ytbedanlkkidkkab
open Go Go.RowKit

/-- The last operation made harmless. -/
def mute (o : Oper) : Oper := { o with dst := none, op := .assign (.const undef) }
def muted : List Oper → List Oper
  | [] => []
  | [o] => [mute o]
  | o :: p :: rest => o :: muted (p :: rest)

/-- All edges go back; the last operation waits for each of the others, and yields nothing. -/
def lastWaits (ops : Array Oper) : Bool :=
  (List.range ops.size).all fun i => match ops[i]? with
    | none => false
    | some o => (o.after.all fun e => decide (e.on < i)) && (decide (i + 1 < ops.size) || (o.dst.isNone && o.guard.isNone && (List.range i).all fun j => o.after.any fun e => Region.binds .any e && decide (e.on = j)))

structure Waits (ops : Array Oper) : Prop where
  back : ∀ (i : Nat) (o : Oper), ops[i]? = some o → ∀ e ∈ o.after, e.on < i
  last : ∀ (k : Nat) (o : Oper), ops[k]? = some o → k + 1 = ops.size → o.dst = none ∧ o.guard = none ∧ ∀ j, j < k → ∃ e ∈ o.after, Region.binds .any e = true ∧ e.on = j
theorem lastWaits_spec {ops : Array Oper} (h : lastWaits ops = true) : Waits ops := by
  unfold lastWaits at h
  rw [List.all_eq_true] at h
  constructor
  · intro i o ho e he
    have hi : i < ops.size := (Array.getElem?_eq_some_iff.1 ho).1
    have := h i (List.mem_range.2 hi)
    rw [ho] at this
    simp only [Bool.and_eq_true, Array.all_eq_true_iff_forall_mem, decide_eq_true_eq] at this
    exact this.1 e he
  · intro k o ho hk
    have hi : k < ops.size := (Array.getElem?_eq_some_iff.1 ho).1
    have := h k (List.mem_range.2 hi)
    rw [ho] at this
    simp only [Bool.and_eq_true, Bool.or_eq_true, decide_eq_true_eq] at this
    rcases this.2 with h1 | ⟨⟨h1, h2⟩, h3⟩
    · omega
    · refine ⟨by simpa using h1, by simpa using h2, fun j hj => ?_⟩
      rw [List.all_eq_true] at h3
      have h4 := h3 j (List.mem_range.2 hj)
      rw [Array.any_eq_true'] at h4
      obtain ⟨e, he, h5⟩ := h4
      simp only [Bool.and_eq_true, decide_eq_true_eq] at h5
      exact ⟨e, he, h5⟩

theorem muted_len : ∀ l : List Oper, (muted l).length = l.length
  | [] => rfl
  | [_] => rfl
  | _ :: p :: rest => by simp only [muted, List.length_cons]; rw [muted_len (p :: rest)]; rfl
theorem muted_get : ∀ (l : List Oper) (i : Nat), (muted l)[i]? = if i + 1 = l.length then (l[i]?).map mute else l[i]?
  | [], i => by simp [muted]
  | [o], i => by cases i <;> simp [muted]
  | o :: p :: rest, i => by
    cases i with
    | zero => simp [muted]
    | succ i =>
      have h := muted_get (p :: rest) i
      simp only [muted, List.getElem?_cons_succ, List.length_cons] at h ⊢
      rw [h]
      by_cases e : i + 1 = rest.length + 1
      · rw [if_pos e, if_pos (by omega)]
      · rw [if_neg e, if_neg (by omega)]

theorem muted_ready (md : Region.Mode) (l : List Oper) (listed : Array Bool) : Region.ready md (muted l).toArray listed = Region.ready md l.toArray listed := by
  unfold Region.ready
  simp only [List.size_toArray, muted_len, List.getElem?_toArray]
  refine List.filter_congr fun i _ => ?_
  rw [muted_get]
  by_cases e : i + 1 = l.length
  · rw [if_pos e]; cases l[i]? <;> simp [mute]
  · rw [if_neg e]
theorem muted_yielded {l : List Oper} (hW : Waits l.toArray) (tmps : Array Value) : yielded (muted l).toArray tmps = yielded l.toArray tmps := by
  funext j
  unfold yielded
  simp only [List.getElem?_toArray]
  rw [muted_get]
  by_cases e : j + 1 = l.length
  · rw [if_pos e]
    cases h : l[j]? with
    | none => rfl
    | some o =>
      have := (hW.last j o (by simpa using h) (by simpa using e)).1
      simp [mute, this]
  · rw [if_neg e]

/-- Nothing is ready: all are listed. -/
theorem Waits.all {ops : Array Oper} (hW : Waits ops) {listed : Array Bool} (h : Region.ready .any ops listed = []) : ∀ i, i < ops.size → listed.getD i true = true := by
  have key : ∀ n i, i < n → i < ops.size → listed.getD i true = true := by
    intro n
    induction n with
    | zero => intro i hi; omega
    | succ n ih =>
      intro i hi hs
      by_cases hl : listed.getD i true = true
      · exact hl
      · exfalso
        have hf : listed.getD i true = false := by simpa using hl
        have hsz : i < listed.size := by
          rcases Nat.lt_or_ge i listed.size with h' | h'
          · exact h'
          · simp [Array.getElem?_eq_none h'] at hf
        have hm : i ∈ Region.ready .any ops listed := mem_ready.2 ⟨hf, ops[i], by simp [hs], fun e he _ => by
          have hb := hW.back i ops[i] (by simp [hs]) e he
          have h2 := ih e.on (by omega) (by omega)
          have h3 : e.on < listed.size := by omega
          simp [h3] at h2 ⊢
          exact h2⟩
        rw [h] at hm
        cases hm
  exact fun i hi => key (i + 1) i (by omega) hi

theorem any_done {P : Program} {md : Region.Mode} {ops : Array Oper} {Q' : Exit → Act → World → Prop} {listed : Array Bool} (h : Region.ready md ops listed = []) {a : Act} {w : World} (hQ : Q' .normal a w) : ∀ fuel, wpAny P md ops Q' fuel listed a w
  | 0 => ⟨h, hQ⟩
  | _ + 1 => ⟨fun _ => hQ, fun i hi => by rw [h] at hi; cases hi⟩
theorem anyQ_done {P : Program} {md : Region.Mode} {ops : Array Oper} {C : World → Prop} {Q : Act → Prop} {listed : Array Bool} (h : Region.ready md ops listed = []) {a : Act} : ∀ fuel, wpAnyQ P md ops C Q fuel listed a → Q a
  | 0, hq => hq.2
  | _ + 1, hq => hq.1 h

/-- The last operation alone, as a region of its own. -/
theorem any_last {P : Program} {l : List Oper} (hW : Waits l.toArray) {C : World → Prop} {Q₁ : Act → Prop} {Q' : Exit → Act → World → Prop} {n : Nat} (hn : n + 1 = l.length) {o : Oper} (ho : l[n]? = some o)
    (hlast : ∀ a w, C w → Q₁ a → o.wp P a w (Q' .normal) Q') :
    ∀ (fuel : Nat) (listed : Array Bool) (a : Act) (w : World), listed.getD n true = false → C w → wpAnyQ P .any (muted l).toArray C Q₁ fuel listed a → wpAny P .any l.toArray Q' fuel listed a w := by
  have hn' : n < l.toArray.size := by simp; omega
  intro fuel
  induction fuel with
  | zero =>
    intro listed a w hl _ h
    have h1 := h.1
    rw [muted_ready] at h1
    have := hW.all h1 n hn'
    rw [hl] at this; cases this
  | succ fuel ih =>
    intro listed a w hl hC h
    refine ⟨fun h0 => ?_, fun i hi => ?_⟩
    · have := hW.all h0 n hn'
      rw [hl] at this; cases this
    · have hq := h.2 i (by rw [muted_ready]; exact hi)
      by_cases e : i = n
      · subst e
        obtain ⟨hid', hg, hall⟩ := hW.last i o (by simpa using ho) (by simpa using hn)
        obtain ⟨hun, o', ho', hr⟩ := mem_ready.1 hi
        have : o' = o := by
          rw [List.getElem?_toArray, ho] at ho'; simpa using ho'.symm
        subst this
        have hsz : i < listed.size := by
          rcases Nat.lt_or_ge i listed.size with h' | h'
          · exact h'
          · simp [Array.getElem?_eq_none h'] at hun
        have hready : Region.ready .any l.toArray (listed.setIfInBounds i true) = [] := by
          rw [List.eq_nil_iff_forall_not_mem]
          intro j hj
          obtain ⟨hj1, oj, hj2, _⟩ := mem_ready.1 hj
          have hjlt : j < l.length := by simpa using (Array.getElem?_eq_some_iff.1 hj2).1
          by_cases ej : j = i
          · subst ej
            rw [Array.getD_eq_getD_getElem?, Array.getElem?_setIfInBounds_self_of_lt hsz] at hj1
            cases hj1
          · obtain ⟨e', he', hb, hon⟩ := hall j (by omega)
            have h3 := hr e' he' hb
            rw [hon] at h3
            rw [Array.getD_eq_getD_getElem?, Array.getElem?_setIfInBounds_ne (Ne.symm ej)] at hj1
            rw [Array.getD_eq_getD_getElem?] at h3
            cases hx : listed[j]? with
            | none => rw [hx] at h3; cases h3
            | some b => rw [hx] at h3 hj1; simp at h3 hj1; rw [h3] at hj1; cases hj1
        have hQ1 : Q₁ a := by
          unfold qOp at hq
          have hmg : (muted l).toArray[i]? = some (mute o') := by rw [List.getElem?_toArray, muted_get, if_pos hn, ho]; rfl
          simp only [hmg] at hq
          have hwt : Region.wanted (mute o') (yielded (muted l).toArray a.tmps) = true := by simp [Region.wanted, mute, hg]
          rw [if_pos hwt] at hq
          obtain ⟨v, _, h5⟩ := hq
          have h6 := anyQ_done (by rw [muted_ready]; exact hready) _ h5
          exact h6
        unfold wpOp
        rw [List.getElem?_toArray, ho]
        simp only [Region.wanted, hg, if_true]
        exact .inl (Oper.wp_mono (fun a' w' hq' => any_done hready hq' _) (hlast a w hC hQ1))
      · have hsame : qOp P l.toArray C i (wpAnyQ P .any (muted l).toArray C Q₁ fuel (listed.setIfInBounds i true)) a := by
          unfold qOp at hq ⊢
          rw [muted_yielded hW] at hq
          simpa only [List.getElem?_toArray, muted_get, if_neg (show ¬ (i + 1 = l.length) by omega)] using hq
        refine wpOp_of_qOp hC (fun a' w' hC' hk => ih _ a' w' ?_ hC' hk) hsame
        rw [getD_set_ne true e]; exact hl

theorem wp_region_store {P : Program} {id : Nat} {Q : Exit → Act → World → Prop} {a : Act} {w : World} {l : List Oper} (hm : P.follows .mixedOrders = true) (hWB : lastWaits l.toArray = true) (hB : Region.lexB .any (muted l).toArray = true)
    (n : Nat) (o : Oper) (hn : n + 1 = l.length) (ho : l[n]? = some o)
    (h : wpQuiet P (muted l).toArray (fun w' => ∃ p : Sub w, w' = p.x) (fun a' => ∀ q : Sub w, o.wp P a' q.x (Q .normal) Q) (muted l) a) : (Code.region id l.toArray true).wp P Q a w := by
  simp only [Region.lexB, Bool.and_eq_true] at hB
  refine wp_region_any hm (any_last (lastWaits_spec hWB) (C := fun w' => ∃ p : Sub w, w' = p.x) (Q₁ := fun a' => ∀ q : Sub w, o.wp P a' q.x (Q .normal) Q) hn ho (fun a' w' hC hq => by obtain ⟨q, rfl⟩ := hC; exact hq q) _ _ _ _ ?_
    ⟨⟨w.drew, rfl, rfl, rfl, Nat.le_refl _, fun _ _ => rfl⟩, rfl⟩ ?_)
  · have : n < l.length := by omega
    simp [this]
  · have := wpAnyQ_lex (P := P) (C := fun w' => ∃ p : Sub w, w' = p.x) (md := .any) hB.1 (muted l) 0 (Array.replicate (muted l).toArray.size false) a (by simp) (by simpa using hB.2) h
    simpa [muted_len] using this
theorem wpIn_region_store {P : Program} {id : Nat} {Q : Exit → Act → World → Prop} {a : Act} {w : World} {l : List Oper} (hm : P.follows .mixedOrders = true) (hWB : lastWaits l.toArray = true) (hB : Region.lexB .any (muted l).toArray = true)
    (n : Nat) (o : Oper) (hn : n + 1 = l.length) (ho : l[n]? = some o)
    (h : wpQuiet P (muted l).toArray (fun w' => ∃ p : Sub w, w' = p.x) (fun a' => ∀ q : Sub w, o.wp P a' q.x (Q .normal) Q) (muted l) a) : (Code.region id l.toArray true).wpIn Fence.wide 0 P Q a w :=
  wpIn_wide.2 (wp_region_store hm hWB hB n o hn ho h)

end Go.Proofs.Ytbedanlkkidkkab
