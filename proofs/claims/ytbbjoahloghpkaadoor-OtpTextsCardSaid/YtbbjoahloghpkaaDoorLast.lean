/- A region that draws its order: quiet operations, and a last one (a store, a call that writes) behind which nothing can come. Over whatever program. -/
import Derived.Test.YtbbjoahloghpkaaDoorSub
namespace Go.Proofs.YtbbjoahloghpkaaDoor
open Go Go.RowKit

/-- The last operation made harmless. -/
def mute (o : Oper) : Oper := { o with dst := none, op := .assign (.const undef) }
def muted : List Oper → List Oper
  | [] => []
  | [o] => [mute o]
  | o :: p :: rest => o :: muted (p :: rest)

/-- All edges go back; each operation but the last is waited for by a later one; no guard looks at the last, and the last has none. -/
def lastWaits (ops : Array Oper) : Bool :=
  (List.range ops.size).all fun i => match ops[i]? with
    | none => false
    | some o => (o.after.all fun e => decide (e.on < i)) && (match o.guard with | none => true | some (g, _) => decide (g + 1 < ops.size) && decide (i + 1 < ops.size)) &&
      (decide (i + 1 = ops.size) || (List.range ops.size).any fun j => decide (i < j) && match ops[j]? with | none => false | some p => p.after.any fun e => Region.binds .any e && decide (e.on = i))

structure Waits (ops : Array Oper) : Prop where
  back : ∀ (i : Nat) (o : Oper), ops[i]? = some o → ∀ e ∈ o.after, e.on < i
  guard : ∀ (i : Nat) (o : Oper), ops[i]? = some o → ∀ g b, o.guard = some (g, b) → g + 1 < ops.size ∧ i + 1 < ops.size
  wait : ∀ i, i + 1 < ops.size → ∃ j p, i < j ∧ ops[j]? = some p ∧ ∃ e ∈ p.after, Region.binds .any e = true ∧ e.on = i
theorem lastWaits_spec {ops : Array Oper} (h : lastWaits ops = true) : Waits ops := by
  unfold lastWaits at h
  rw [List.all_eq_true] at h
  constructor
  · intro i o ho e he
    have hi : i < ops.size := (Array.getElem?_eq_some_iff.1 ho).1
    have := h i (List.mem_range.2 hi)
    rw [ho] at this
    simp only [Bool.and_eq_true, Array.all_eq_true_iff_forall_mem, decide_eq_true_eq] at this
    exact this.1.1 e he
  · intro i o ho g b hg
    have hi : i < ops.size := (Array.getElem?_eq_some_iff.1 ho).1
    have := h i (List.mem_range.2 hi)
    rw [ho] at this
    simp only [Bool.and_eq_true] at this
    have h2 := this.1.2
    rw [hg] at h2
    simp only [Bool.and_eq_true, decide_eq_true_eq] at h2
    exact h2
  · intro i hi1
    have hi : i < ops.size := by omega
    have := h i (List.mem_range.2 hi)
    have ho : ops[i]? = some ops[i] := by simp [hi]
    rw [ho] at this
    simp only [Bool.and_eq_true, Bool.or_eq_true, decide_eq_true_eq] at this
    rcases this.2 with h1 | h1
    · omega
    · rw [List.any_eq_true] at h1
      obtain ⟨j, _, hj⟩ := h1
      simp only [Bool.and_eq_true, decide_eq_true_eq] at hj
      obtain ⟨hij, hj⟩ := hj
      cases hp : ops[j]? with
      | none => rw [hp] at hj; cases hj
      | some p =>
        rw [hp] at hj
        simp only [] at hj
        rw [Array.any_eq_true'] at hj
        obtain ⟨e, he, h5⟩ := hj
        simp only [Bool.and_eq_true, decide_eq_true_eq] at h5
        exact ⟨j, p, hij, hp, e, he, h5⟩

theorem muted_len : ∀ l : List Oper, (muted l).length = l.length
  | [] => rfl
  | [_] => rfl
  | _ :: p :: rest => by simp only [muted, List.length_cons]; rw [muted_len (p :: rest)]; rfl
theorem muted_get : ∀ (l : List Oper) (i : Nat), (muted l)[i]? = if i + 1 = l.length then (l[i]?).map mute else l[i]?
  | [], i => by simp [muted]
  | [o], i => by cases i <;> simp [muted]
  | o :: p :: rest, i => by
    cases i with
    | zero => simp [muted]
    | succ i =>
      have h := muted_get (p :: rest) i
      simp only [muted, List.getElem?_cons_succ, List.length_cons] at h ⊢
      rw [h]
      by_cases e : i + 1 = rest.length + 1
      · rw [if_pos e, if_pos (by omega)]
      · rw [if_neg e, if_neg (by omega)]

theorem muted_ready (md : Region.Mode) (l : List Oper) (listed : Array Bool) : Region.ready md (muted l).toArray listed = Region.ready md l.toArray listed := by
  unfold Region.ready
  simp only [List.size_toArray, muted_len, List.getElem?_toArray]
  refine List.filter_congr fun i _ => ?_
  rw [muted_get]
  by_cases e : i + 1 = l.length
  · rw [if_pos e]; cases l[i]? <;> simp [mute]
  · rw [if_neg e]
theorem muted_wanted {l : List Oper} (hW : Waits l.toArray) {i : Nat} {o : Oper} (ho : l[i]? = some o) (tmps : Array Value) : Region.wanted o (yielded (muted l).toArray tmps) = Region.wanted o (yielded l.toArray tmps) := by
  unfold Region.wanted
  cases hg : o.guard with
  | none => rfl
  | some gb =>
    obtain ⟨g, b⟩ := gb
    have hlt := (hW.guard i o (by simpa using ho) g b hg).1
    simp only [List.size_toArray] at hlt
    have : yielded (muted l).toArray tmps g = yielded l.toArray tmps g := by
      unfold yielded
      simp only [List.getElem?_toArray]
      rw [muted_get, if_neg (by omega)]
    simp only [this]

/-- Nothing is ready: all are listed. -/
theorem Waits.all {ops : Array Oper} (hW : Waits ops) {listed : Array Bool} (h : Region.ready .any ops listed = []) : ∀ i, i < ops.size → listed.getD i true = true := by
  have key : ∀ n i, i < n → i < ops.size → listed.getD i true = true := by
    intro n
    induction n with
    | zero => intro i hi; omega
    | succ n ih =>
      intro i hi hs
      by_cases hl : listed.getD i true = true
      · exact hl
      · exfalso
        have hf : listed.getD i true = false := by simpa using hl
        have hsz : i < listed.size := by
          rcases Nat.lt_or_ge i listed.size with h' | h'
          · exact h'
          · simp [Array.getElem?_eq_none h'] at hf
        have hm : i ∈ Region.ready .any ops listed := mem_ready.2 ⟨hf, ops[i], by simp [hs], fun e he _ => by
          have hb := hW.back i ops[i] (by simp [hs]) e he
          have h2 := ih e.on (by omega) (by omega)
          have h3 : e.on < listed.size := by omega
          simp [h3] at h2 ⊢
          exact h2⟩
        rw [h] at hm
        cases hm
  exact fun i hi => key (i + 1) i (by omega) hi

/-- What is listed has all that it waits for listed. -/
def Shut (ops : Array Oper) (listed : Array Bool) : Prop := ∀ (i : Nat) (o : Oper), ops[i]? = some o → listed.getD i false = true → ∀ e ∈ o.after, Region.binds .any e = true → listed.getD e.on false = true
theorem Shut.next {ops : Array Oper} {listed : Array Bool} (h : Shut ops listed) {i : Nat} (hi : i ∈ Region.ready .any ops listed) : Shut ops (listed.setIfInBounds i true) := by
  obtain ⟨_, oi, hoi, hr⟩ := mem_ready.1 hi
  have keep : ∀ k, listed.getD k false = true → (listed.setIfInBounds i true).getD k false = true := by
    intro k hk
    by_cases e : i = k
    · subst e
      rw [Array.getD_eq_getD_getElem?] at hk ⊢
      rcases Nat.lt_or_ge i listed.size with h' | h'
      · rw [Array.getElem?_setIfInBounds_self_of_lt h']; rfl
      · rw [Array.getElem?_eq_none h'] at hk; cases hk
    · rw [getD_set_ne false e]; exact hk
  intro j o hj hl e he hb
  by_cases ej : j = i
  · subst ej
    rw [hoi] at hj; cases hj
    exact keep _ (hr e he hb)
  · rw [getD_set_ne false (Ne.symm ej)] at hl
    exact keep _ (h j o hj hl e he hb)
/-- The last one is ready: all others are listed. -/
theorem Waits.last {ops : Array Oper} (hW : Waits ops) {listed : Array Bool} (hS : Shut ops listed) {n : Nat} (hn : n + 1 = ops.size) (hi : n ∈ Region.ready .any ops listed) : ∀ j, j < n → listed.getD j false = true := by
  obtain ⟨_, on, hon, hr⟩ := mem_ready.1 hi
  have key : ∀ m j, n - j ≤ m → j < n → listed.getD j false = true := by
    intro m
    induction m with
    | zero => intro j h1 h2; omega
    | succ m ih =>
      intro j h1 h2
      obtain ⟨k, p, hjk, hp, e, he, hb, heq⟩ := hW.wait j (by omega)
      have hk : k < ops.size := (Array.getElem?_eq_some_iff.1 hp).1
      by_cases ek : k = n
      · subst ek
        rw [hon] at hp; cases hp
        rw [← heq]; exact hr e he hb
      · have hl := ih k (by omega) (by omega)
        rw [← heq]; exact hS k p hp hl e he hb
  exact fun j hj => key (n - j) j (Nat.le_refl _) hj

theorem any_done {P : Program} {md : Region.Mode} {ops : Array Oper} {Q' : Exit → Act → World → Prop} {listed : Array Bool} (h : Region.ready md ops listed = []) {a : Act} {w : World} (hQ : Q' .normal a w) : ∀ fuel, wpAny P md ops Q' fuel listed a w
  | 0 => ⟨h, hQ⟩
  | _ + 1 => ⟨fun _ => hQ, fun i hi => by rw [h] at hi; cases hi⟩
theorem anyQ_done {P : Program} {md : Region.Mode} {ops : Array Oper} {C : World → Prop} {Q : Act → Prop} {listed : Array Bool} (h : Region.ready md ops listed = []) {a : Act} : ∀ fuel, wpAnyQ P md ops C Q fuel listed a → Q a
  | 0, hq => hq.2
  | _ + 1, hq => hq.1 h

theorem any_last {P : Program} {l : List Oper} (hW : Waits l.toArray) {C : World → Prop} {Q₁ : Act → Prop} {Q' : Exit → Act → World → Prop} {n : Nat} (hn : n + 1 = l.length) {o : Oper} (ho : l[n]? = some o)
    (hlast : ∀ a w, C w → Q₁ a → o.wp P a w (Q' .normal) Q') :
    ∀ (fuel : Nat) (listed : Array Bool) (a : Act) (w : World), listed.getD n true = false → Shut l.toArray listed → C w → wpAnyQ P .any (muted l).toArray C Q₁ fuel listed a → wpAny P .any l.toArray Q' fuel listed a w := by
  have hn' : n < l.toArray.size := by simp; omega
  have hg : o.guard = none := by
    cases hg : o.guard with
    | none => rfl
    | some gb => obtain ⟨g, b⟩ := gb; have := (hW.guard n o (by simpa using ho) g b hg).2; simp at this; omega
  intro fuel
  induction fuel with
  | zero =>
    intro listed a w hl _ _ h
    have h1 := h.1
    rw [muted_ready] at h1
    have := hW.all h1 n hn'
    rw [hl] at this; cases this
  | succ fuel ih =>
    intro listed a w hl hS hC h
    refine ⟨fun h0 => ?_, fun i hi => ?_⟩
    · have := hW.all h0 n hn'
      rw [hl] at this; cases this
    · have hq := h.2 i (by rw [muted_ready]; exact hi)
      by_cases e : i = n
      · subst e
        have hall := hW.last hS (by simpa using hn) hi
        obtain ⟨hun, _, _, _⟩ := mem_ready.1 hi
        have hsz : i < listed.size := by
          rcases Nat.lt_or_ge i listed.size with h' | h'
          · exact h'
          · simp [Array.getElem?_eq_none h'] at hun
        have hready : Region.ready .any l.toArray (listed.setIfInBounds i true) = [] := by
          rw [List.eq_nil_iff_forall_not_mem]
          intro j hj
          obtain ⟨hj1, oj, hj2, _⟩ := mem_ready.1 hj
          have hjlt : j < l.length := by simpa using (Array.getElem?_eq_some_iff.1 hj2).1
          by_cases ej : j = i
          · subst ej
            rw [Array.getD_eq_getD_getElem?, Array.getElem?_setIfInBounds_self_of_lt hsz] at hj1
            cases hj1
          · have h3 := hall j (by omega)
            rw [Array.getD_eq_getD_getElem?, Array.getElem?_setIfInBounds_ne (Ne.symm ej)] at hj1
            rw [Array.getD_eq_getD_getElem?] at h3
            cases hx : listed[j]? with
            | none => rw [hx] at h3; cases h3
            | some b => rw [hx] at h3 hj1; simp at h3 hj1; rw [h3] at hj1; cases hj1
        have hQ1 : Q₁ a := by
          unfold qOp at hq
          have hmg : (muted l).toArray[i]? = some (mute o) := by rw [List.getElem?_toArray, muted_get, if_pos hn, ho]; rfl
          simp only [hmg] at hq
          have hwt : Region.wanted (mute o) (yielded (muted l).toArray a.tmps) = true := by simp [Region.wanted, mute, hg]
          rw [if_pos hwt] at hq
          obtain ⟨v, _, h5⟩ := hq
          have h6 := anyQ_done (by rw [muted_ready]; exact hready) _ h5
          exact h6
        unfold wpOp
        rw [List.getElem?_toArray, ho]
        simp only [Region.wanted, hg, if_true]
        exact .inl (Oper.wp_mono (fun a' w' hq' => any_done hready hq' _) (hlast a w hC hQ1))
      · have hsame : qOp P l.toArray C i (wpAnyQ P .any (muted l).toArray C Q₁ fuel (listed.setIfInBounds i true)) a := by
          unfold qOp at hq ⊢
          cases hoi : l[i]? with
          | none =>
            simp only [List.getElem?_toArray, muted_get, if_neg (show ¬ (i + 1 = l.length) by omega), hoi] at hq ⊢
            exact hq
          | some oi =>
            simp only [List.getElem?_toArray, muted_get, if_neg (show ¬ (i + 1 = l.length) by omega), hoi] at hq ⊢
            rw [muted_wanted hW hoi] at hq
            exact hq
        refine wpOp_of_qOp hC (fun a' w' hC' hk => ih _ a' w' ?_ (hS.next hi) hC' hk) hsame
        rw [getD_set_ne true e]; exact hl

theorem wp_region_last {P : Program} {id : Nat} {Q : Exit → Act → World → Prop} {a : Act} {w : World} {l : List Oper} (hm : P.follows .mixedOrders = true) (hWB : lastWaits l.toArray = true) (hB : Region.lexB .any (muted l).toArray = true)
    (n : Nat) (o : Oper) (hn : n + 1 = l.length) (ho : l[n]? = some o)
    (h : wpQuiet P (muted l).toArray (fun w' => ∃ p : Sub w, w' = p.x) (fun a' => ∀ q : Sub w, o.wp P a' q.x (Q .normal) Q) (muted l) a) : (Code.region id l.toArray true).wp P Q a w := by
  simp only [Region.lexB, Bool.and_eq_true] at hB
  refine wp_region_any hm (any_last (lastWaits_spec hWB) (C := fun w' => ∃ p : Sub w, w' = p.x) (Q₁ := fun a' => ∀ q : Sub w, o.wp P a' q.x (Q .normal) Q) hn ho (fun a' w' hC hq => by obtain ⟨q, rfl⟩ := hC; exact hq q) _ _ _ _ ?_ ?_
    ⟨⟨w.drew, rfl, rfl, rfl, Nat.le_refl _, fun _ _ => rfl⟩, rfl⟩ ?_)
  · have : n < l.length := by omega
    simp [this]
  · intro i o' _ hl
    rw [Array.getD_eq_getD_getElem?, Array.getElem?_replicate] at hl
    split at hl <;> cases hl
  · have := wpAnyQ_lex (P := P) (C := fun w' => ∃ p : Sub w, w' = p.x) (md := .any) hB.1 (muted l) 0 (Array.replicate (muted l).toArray.size false) a (by simp) (by simpa using hB.2) h
    simpa [muted_len] using this
theorem wpIn_region_last {P : Program} {id : Nat} {Q : Exit → Act → World → Prop} {a : Act} {w : World} {l : List Oper} (hm : P.follows .mixedOrders = true) (hWB : lastWaits l.toArray = true) (hB : Region.lexB .any (muted l).toArray = true)
    (n : Nat) (o : Oper) (hn : n + 1 = l.length) (ho : l[n]? = some o)
    (h : wpQuiet P (muted l).toArray (fun w' => ∃ p : Sub w, w' = p.x) (fun a' => ∀ q : Sub w, o.wp P a' q.x (Q .normal) Q) (muted l) a) : (Code.region id l.toArray true).wpIn Fence.wide 0 P Q a w :=
  wpIn_wide.2 (wp_region_last hm hWB hB n o hn ho h)

end Go.Proofs.YtbbjoahloghpkaaDoor
