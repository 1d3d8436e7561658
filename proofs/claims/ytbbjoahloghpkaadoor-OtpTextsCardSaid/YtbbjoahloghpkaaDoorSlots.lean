/- A region that draws its order, each operation by itself: what each leaves in its slot, out of what those that it waits for have left, in whatever world behind the first; and a tail in one forced order. Over whatever program. -/
import Derived.Test.YtbbjoahloghpkaaDoorTail
import Derived.Test.YtbbjoahloghpkaaDoorIter2
namespace Go.Proofs.YtbbjoahloghpkaaDoor
open Go Go.RowKit

/-- What one operation comes to. -/
def OpOk (P : Program) (o : Oper) (a : Act) (W : World) (Ψ : Value → World → Prop) : Prop :=
  match (execOp a.eval o).run P W with
  | .ok (.value v) W' => Below W.heap.size W W' ∧ Ψ v W'
  | .ok .skip W' => Below W.heap.size W W' ∧ Ψ undef W'
  | .ok (.enter f args) W' => Calls P f args W' fun e W'' => ∃ v, e = .returned v ∧ Below W.heap.size W W'' ∧ Ψ v W''
  | _ => False
theorem OpOk.wp {P : Program} {o : Oper} {a : Act} {W : World} {Ψ : Value → World → Prop} {K : Act → World → Prop} {Q : Exit → Act → World → Prop} (h : OpOk P o a W Ψ)
    (hK : ∀ v W', Below W.heap.size W W' → Ψ v W' → K (a.put o.dst v) W') : o.wp P a W K Q := by
  unfold OpOk at h
  unfold Oper.wp
  generalize (execOp a.eval o).run P W = r at *
  cases r with
  | ok n w' =>
    cases n <;> simp only [Oper.upon] <;> simp only [] at h
    case value u => exact hK _ _ h.1 h.2
    case skip => exact hK _ _ h.1 h.2
    case enter f args =>
      refine h.mono fun e w'' ⟨v, he, hb, hv⟩ => ?_
      subst he
      exact hK _ _ hb hv
  | halt x w' => simp only [] at h
/-- The slot of an operation. -/
def slotOf (l : List Oper) (i : Nat) : Option Tmp := (l[i]?).bind (·.dst)
/-- No slot is written twice ahead of n. -/
def slotsApart (n : Nat) (l : List Oper) : Bool :=
  (List.range n).all fun i => (List.range n).all fun j => decide (i = j) || (match slotOf l i, slotOf l j with | some x, some y => decide (x ≠ y) | _, _ => true)
/-- What stands in the slots. -/
structure Stand (n : Nat) (l : List Oper) (Φ : Nat → Value → World → Prop) (a0 : Act) (w : World) (listed : Array Bool) (a : Act) (W : World) : Prop where
  bel : Below w.heap.size w W
  size : a.tmps.size = a0.tmps.size
  defers : a.defers = a0.defers
  old : ∀ k, (∀ i, i < n → slotOf l i ≠ some k) → a.tmps.getD k undef = a0.tmps.getD k undef
  new : ∀ i d, i < n → listed.getD i true = true → slotOf l i = some d → Φ i (a.tmps.getD d undef) W

/-- How many are not listed. -/
def unl (m : Nat) (listed : Array Bool) : Nat := (List.range m).countP fun i => !(listed.getD i true)
theorem countP_lt {l : List Nat} {p q : Nat → Bool} (h : ∀ x ∈ l, p x = true → q x = true) {i : Nat} (hi : i ∈ l) (hq : q i = true) (hp : p i = false) : l.countP p < l.countP q := by
  induction l with
  | nil => cases hi
  | cons y l ih =>
    have h1 := h y (.head _)
    have hmono : l.countP p ≤ l.countP q := by
      clear ih hi
      induction l with
      | nil => exact Nat.le_refl _
      | cons z l ih2 =>
        have h2 := h z (.tail _ (.head _))
        have h3 := ih2 (fun x hx => h x (by
          cases hx with
          | head => exact .head _
          | tail _ hx => exact .tail _ (.tail _ hx)))
        simp only [List.countP_cons]
        cases hz : p z with
        | true => rw [h2 hz]; simp; omega
        | false => simp; split <;> omega
    simp only [List.countP_cons]
    by_cases e : i = y
    · subst e; rw [hq, hp]; simp; omega
    · have hi' : i ∈ l := by cases hi with
        | head => exact absurd rfl e
        | tail _ hi => exact hi
      have := ih (fun x hx => h x (.tail _ hx)) hi'
      cases hy : p y with
      | true => rw [h1 hy]; simp; omega
      | false => simp; split <;> omega
theorem unl_set {m : Nat} {listed : Array Bool} {i : Nat} (him : i < m) (hs : listed.size = m) (hi : listed.getD i true = false) : unl m (listed.setIfInBounds i true) < unl m listed := by
  unfold unl
  refine countP_lt (i := i) (fun x _ hx => ?_) (List.mem_range.2 him) (by rw [hi]; rfl) ?_
  · by_cases e : i = x
    · subst e; rw [hi]; rfl
    · rw [getD_set_ne true e] at hx; exact hx
  · rw [Array.getD_eq_getD_getElem?, Array.getElem?_setIfInBounds_self_of_lt (by omega)]; rfl
theorem unl_pos {m : Nat} {listed : Array Bool} {i : Nat} (him : i < m) (hi : listed.getD i true = false) : 0 < unl m listed := by
  unfold unl
  exact List.countP_pos_iff.2 ⟨i, List.mem_range.2 him, by rw [hi]; rfl⟩
/-- The tail is run in its one order: by what is not listed. -/
theorem tail_run2 {P : Program} {n : Nat} {l : List Oper} (hW : TWaits n l.toArray) {Q' : Exit → Act → World → Prop} : ∀ (fuel k : Nat) (listed : Array Bool) (a : Act) (w : World), unl l.length listed ≤ fuel → n ≤ k → k ≤ l.length → UpTo listed l.toArray.size k →
    wpList P l.toArray Q' (l.drop k) a w → wpAny P .any l.toArray Q' fuel listed a w := by
  have key : ∀ (d fuel k : Nat) (listed : Array Bool), l.length - k = d → unl l.length listed ≤ fuel → n ≤ k → k ≤ l.length → UpTo listed l.toArray.size k → d ≤ fuel := by
    intro d
    induction d with
    | zero => intros; omega
    | succ d ih =>
      intro fuel k listed hd hf hnk hkl hU
      have hk : k < l.length := by omega
      have h1 : listed.getD k true = false := by rw [hU.2 k (by simpa using hk)]; simp
      have h2 := unl_set (m := l.length) hk (by simpa using hU.1) h1
      have := ih (fuel - 1) (k + 1) (listed.setIfInBounds k true) (by omega) (by omega) (by omega) (by omega) hU.next
      omega
  intro fuel k listed a w hf hnk hkl hU h
  exact tail_run hW (l.length - k) fuel k listed a w rfl (key _ fuel k listed rfl hf hnk hkl hU) hnk hkl hU h

theorem any_slots {P : Program} {n : Nat} {l : List Oper} (hW : TWaits n l.toArray) (hA : slotsApart n l = true) {Φ : Nat → Value → World → Prop} {Q' : Exit → Act → World → Prop} {a0 : Act} {w : World}
    (hst : ∀ i v W W', i < n → Φ i v W → Below W.heap.size W W' → Φ i v W') (hdst : ∀ i d, i < n → slotOf l i = some d → d < a0.tmps.size)
    (hguard : ∀ (i : Nat) (o : Oper) g b, i < n → l[i]? = some o → o.guard = some (g, b) → (∃ d, slotOf l g = some d) ∧ (∃ e ∈ o.after, Region.binds .any e = true ∧ e.on = g) ∧ ∀ v W, Φ g v W → v = .bool b)
    (hop : ∀ (i : Nat) (o : Oper), i < n → l[i]? = some o → ∀ (a : Act) (W : World), Below w.heap.size w W → a.defers = a0.defers → (∀ k, (∀ i, i < n → slotOf l i ≠ some k) → a.tmps.getD k undef = a0.tmps.getD k undef) →
      (∀ j d, (∃ e ∈ o.after, Region.binds .any e = true ∧ e.on = j) → slotOf l j = some d → Φ j (a.tmps.getD d undef) W) → OpOk P o a W (Φ i))
    (hend : ∀ a W, Stand n l Φ a0 w (Array.replicate l.length true) a W → wpList P l.toArray Q' (l.drop n) a W) :
    ∀ (fuel : Nat) (listed : Array Bool) (a : Act) (W : World), listed.size = l.toArray.size → listed.getD n true = false → Shut l.toArray listed → unl l.length listed ≤ fuel → Stand n l Φ a0 w listed a W →
      wpAny P .any l.toArray Q' fuel listed a W := by
  have hnl : n < l.length := by simpa using hW.lt
  have hsome : ∀ (listed : Array Bool), listed.size = l.toArray.size → listed.getD n true = false → Region.ready .any l.toArray listed ≠ [] := by
    intro listed hs hl h0
    obtain ⟨j, hj1, hj2⟩ : ∃ j, listed.getD j true = false ∧ ∀ i, i < j → listed.getD i true = true := by
      have : ∀ d m, m + d = n → (∀ i, i < m → listed.getD i true = true) → ∃ j, listed.getD j true = false ∧ ∀ i, i < j → listed.getD i true = true := by
        intro d
        induction d with
        | zero => intro m hm h; exact ⟨m, by rw [show m = n by omega]; exact hl, h⟩
        | succ d ih =>
          intro m hm h
          cases hx : listed.getD m true with
          | false => exact ⟨m, hx, h⟩
          | true => exact ih (m + 1) (by omega) (fun i hi => by
              by_cases e : i = m
              · rw [e]; exact hx
              · exact h i (by omega))
      exact this n 0 (by omega) (fun i hi => by omega)
    have hjs : j < l.toArray.size := by
      rcases Nat.lt_or_ge j listed.size with h' | h'
      · omega
      · simp [Array.getElem?_eq_none h'] at hj1
    have : j ∈ Region.ready .any l.toArray listed := mem_ready.2 ⟨hj1, l.toArray[j], by simp [hjs], fun e he _ => by
      have hb := hW.back j l.toArray[j] (by simp [hjs]) e he
      have h2 := hj2 e.on hb
      have h3 : e.on < listed.size := by omega
      simp [h3] at h2 ⊢
      exact h2⟩
    rw [h0] at this; cases this
  have hapart : ∀ i j d, i < n → j < n → slotOf l i = some d → slotOf l j = some d → i = j := by
    intro i j d hi hj h1 h2
    unfold slotsApart at hA
    rw [List.all_eq_true] at hA
    have h3 := hA i (List.mem_range.2 hi)
    rw [List.all_eq_true] at h3
    have h4 := h3 j (List.mem_range.2 hj)
    rw [h1, h2] at h4
    simpa using h4
  intro fuel
  induction fuel with
  | zero =>
    intro listed a W hs hl _ hu _
    have := unl_pos (m := l.length) hnl hl
    omega
  | succ fuel ih =>
    intro listed a W hs hl hS hu hSt
    refine ⟨fun h0 => absurd h0 (hsome listed hs hl), fun i hi => ?_⟩
    by_cases e : n ≤ i
    · obtain ⟨rfl, hU⟩ := hW.upto hs hS e hl hi
      have := tail_run2 hW (fuel + 1) i listed a W hu (Nat.le_refl _) (Nat.le_of_lt hnl) hU (hend a W ⟨hSt.bel, hSt.size, hSt.defers, hSt.old, fun j d hj _ hd => hSt.new j d hj (by rw [hU.2 j (by simp; omega)]; simp; exact hj) hd⟩)
      exact this.2 i hi
    · obtain ⟨hun, o, ho, hall⟩ := mem_ready.1 hi
      have hin : i < n := by omega
      have ho' : l[i]? = some o := by simpa using ho
      have hil : i < l.length := (List.getElem?_eq_some_iff.1 ho').1
      have hon : ∀ j, (∃ e ∈ o.after, Region.binds .any e = true ∧ e.on = j) → listed.getD j true = true ∧ j < n := by
        rintro j ⟨x, hx, hb, rfl⟩
        have h1 := hall x hx hb
        have h2 := hW.back i o ho x hx
        have h3 : x.on < listed.size := by rw [hs]; simp; omega
        refine ⟨?_, by omega⟩
        simp [h3] at h1 ⊢
        exact h1
      have hdep : ∀ j d, (∃ e ∈ o.after, Region.binds .any e = true ∧ e.on = j) → slotOf l j = some d → Φ j (a.tmps.getD d undef) W := fun j d hj hd => hSt.new j d (hon j hj).2 (hon j hj).1 hd
      have hwant : Region.wanted o (yielded l.toArray a.tmps) = true := by
        unfold Region.wanted
        cases hg : o.guard with
        | none => rfl
        | some gb =>
          obtain ⟨g, b⟩ := gb
          obtain ⟨⟨d, hd⟩, he, hv⟩ := hguard i o g b hin ho' hg
          have h1 := hv _ _ (hdep g d he hd)
          have hgn := (hon g he).2
          have h2 : yielded l.toArray a.tmps g = some b := by
            unfold yielded
            have h3 : (l.toArray[g]?).bind (·.dst) = some d := by simpa [slotOf] using hd
            rw [h3]
            have h4 : d < a.tmps.size := by rw [hSt.size]; exact hdst g d hgn hd
            have h5 : a.tmps[d]? = some (.bool b) := by
              rw [Array.getElem?_eq_getElem h4]
              rw [Array.getD_eq_getD_getElem?, Array.getElem?_eq_getElem h4] at h1
              simpa using h1
            simp [h5]
          simp [h2]
      unfold wpOp
      rw [ho]
      simp only [hwant, if_true]
      refine .inl (OpOk.wp (hop i o hin ho' a W hSt.bel hSt.defers hSt.old hdep) fun v W' hb hv => ?_)
      have hput : ∀ (x : Option Tmp), (a.put x v).defers = a.defers ∧ (a.put x v).tmps.size = a.tmps.size := fun x => by cases x <;> simp [Act.put]
      refine ih _ _ W' (by rw [Array.size_setIfInBounds]; exact hs) (by rw [getD_set_ne true (by omega)]; exact hl) (hS.next hi) ?_ ⟨below_cat hb hSt.bel, by rw [(hput _).2]; exact hSt.size, by rw [(hput _).1]; exact hSt.defers, ?_, ?_⟩
      · have := unl_set (m := l.length) hil (by simpa using hs) hun
        omega
      · intro k hk
        rw [← hSt.old k hk]
        have hne : o.dst ≠ some k := fun h => hk i hin (by simp [slotOf, ho', h])
        cases hd : o.dst with
        | none => rfl
        | some d =>
          have : d ≠ k := fun h => hne (by rw [hd, h])
          simp [Act.put, Array.getElem?_setIfInBounds_ne this]
      · intro j d hj hl2 hd
        by_cases ej : i = j
        · subst ej
          have hod : o.dst = some d := by simpa [slotOf, ho'] using hd
          have h4 : d < a.tmps.size := by rw [hSt.size]; exact hdst i d hj hd
          have : (a.put o.dst v).tmps.getD d undef = v := by rw [hod]; simp [Act.put, h4]
          rw [this]; exact hv
        · rw [getD_set_ne true ej] at hl2
          have h1 := hSt.new j d hj hl2 hd
          have hne : o.dst ≠ some d := fun h => ej (hapart i j d hin hj (by simp [slotOf, ho', h]) hd)
          have : (a.put o.dst v).tmps.getD d undef = a.tmps.getD d undef := by
            cases hod : o.dst with
            | none => rfl
            | some x =>
              have hx : x ≠ d := fun h => hne (by rw [hod, h])
              simp [Act.put, Array.getElem?_setIfInBounds_ne hx]
          rw [this]
          exact hst j _ _ _ hj h1 hb
/-- Does an operation wait for the j-th? -/
def depB (o : Oper) (j : Nat) : Bool := o.after.toList.any fun e => Region.binds .any e && decide (e.on = j)
theorem depB_of {o : Oper} {j : Nat} (h : depB o j = true) : ∃ e ∈ o.after, Region.binds .any e = true ∧ e.on = j := by
  unfold depB at h
  rw [List.any_eq_true] at h
  obtain ⟨e, he, h2⟩ := h
  simp only [Bool.and_eq_true, decide_eq_true_eq] at h2
  exact ⟨e, by simpa using he, h2⟩
/-- Is a slot none of those that the operations ahead of n write? -/
def outB' (n : Nat) (l : List Oper) (k : Nat) : Bool := (List.range n).all fun i => decide (slotOf l i ≠ some k)
theorem outB'_of {n : Nat} {l : List Oper} {k : Nat} (h : outB' n l k = true) : ∀ i, i < n → slotOf l i ≠ some k := by
  intro i hi
  unfold outB' at h
  rw [List.all_eq_true] at h
  simpa using h i (List.mem_range.2 hi)
def dstIn (n m : Nat) (l : List Oper) : Bool := (List.range n).all fun i => match slotOf l i with | none => true | some d => decide (d < m)
/-- Each guard looks at a slot that is waited for. -/
def guardsIn (n : Nat) (l : List Oper) : Bool := (List.range n).all fun i => match l[i]? with
  | none => true
  | some o => match o.guard with
    | none => true
    | some (g, _) => (slotOf l g).isSome && depB o g
def guardsOf (n : Nat) (l : List Oper) : List (Nat × Bool) := ((l.take n).filterMap (·.guard)).eraseDups
/-- Each operation by itself. -/
def EachOp (P : Program) (n : Nat) (l : List Oper) (Φ : Nat → Value → World → Prop) (a0 : Act) (w : World) : List Oper → Nat → Prop
  | [], _ => True
  | o :: r, i => (∀ (a : Act) (W : World), Below w.heap.size w W → (∀ k, outB' n l k = true → a.tmps.getD k undef = a0.tmps.getD k undef) →
      (∀ j d, depB o j = true → slotOf l j = some d → Φ j (a.tmps.getD d undef) W) → OpOk P o a W (Φ i)) ∧ EachOp P n l Φ a0 w r (i + 1)
theorem EachOp.get {P : Program} {n : Nat} {l : List Oper} {Φ : Nat → Value → World → Prop} {a0 : Act} {w : World} : ∀ {r : List Oper} {k : Nat}, EachOp P n l Φ a0 w r k → ∀ (i : Nat) (o : Oper), r[i]? = some o → ∀ (a : Act) (W : World), Below w.heap.size w W →
      (∀ k, outB' n l k = true → a.tmps.getD k undef = a0.tmps.getD k undef) → (∀ j d, depB o j = true → slotOf l j = some d → Φ j (a.tmps.getD d undef) W) → OpOk P o a W (Φ (k + i))
  | [], _, _, i, o, h => by simp at h
  | o' :: r, k, h, 0, o, ho => by
    simp at ho; subst ho; exact h.1
  | o' :: r, k, h, i + 1, o, ho => by
    have := EachOp.get h.2 i o (by simpa using ho)
    rw [show k + (i + 1) = k + 1 + i by omega]; exact this
theorem wp_region_slots {P : Program} {id : Nat} {Q : Exit → Act → World → Prop} {a0 : Act} {w : World} {l : List Oper} (n m : Nat) (Φ : Nat → Value → World → Prop) (hm : P.follows .mixedOrders = true) (hWB : tailWaits n l.toArray = true) (hA : slotsApart n l = true)
    (hG : guardsIn n l = true) (hD : dstIn n m l = true) (hsz : a0.tmps.size = m)
    (hst : ∀ i v W W', i < n → Φ i v W → Below W.heap.size W W' → Φ i v W') (hg : ∀ p ∈ guardsOf n l, ∀ v W, Φ p.1 v W → v = .bool p.2)
    (hop : EachOp P n l Φ a0 w (l.take n) 0)
    (hend : ∀ a W, Below w.heap.size w W → a.tmps.size = m → a.defers = a0.defers → (∀ k, outB' n l k = true → a.tmps.getD k undef = a0.tmps.getD k undef) → (∀ i d, i < n → slotOf l i = some d → Φ i (a.tmps.getD d undef) W) → wpList P l.toArray Q (l.drop n) a W) :
    (Code.region id l.toArray true).wp P Q a0 w := by
  have hW := tailWaits_spec hWB
  have hnl : n < l.length := by simpa using hW.lt
  refine wp_region_any hm (any_slots hW hA (Φ := Φ) (a0 := a0) (w := w) hst ?_ ?_ ?_ ?_ _ _ _ _ (by simp) ?_ ?_ ?_ ⟨⟨rfl, rfl, rfl, Nat.le_refl _, fun _ _ => rfl⟩, rfl, rfl, fun _ _ => rfl, ?_⟩)
  · intro i d hi hd
    unfold dstIn at hD
    rw [List.all_eq_true] at hD
    have := hD i (List.mem_range.2 hi)
    rw [hd] at this
    rw [hsz]
    simpa using this
  · intro i o g b hi ho hgd
    unfold guardsIn at hG
    rw [List.all_eq_true] at hG
    have := hG i (List.mem_range.2 hi)
    simp only [ho, hgd, Bool.and_eq_true] at this
    obtain ⟨h1, h2⟩ := this
    refine ⟨Option.isSome_iff_exists.1 h1, depB_of h2, hg (g, b) ?_⟩
    unfold guardsOf
    rw [List.mem_eraseDups, List.mem_filterMap]
    refine ⟨o, ?_, hgd⟩
    have : (l.take n)[i]? = some o := by rw [List.getElem?_take, if_pos hi]; exact ho
    exact List.mem_of_getElem? this
  · intro i o hi ho a W hb _ hold hdep
    have h1 : (l.take n)[i]? = some o := by rw [List.getElem?_take, if_pos hi]; exact ho
    have := hop.get i o h1 a W hb (fun k hk => hold k (outB'_of hk)) (fun j d hj hd => hdep j d (depB_of hj) hd)
    rwa [Nat.zero_add] at this
  · intro a W hSt
    exact hend a W hSt.bel (by rw [hSt.size, hsz]) hSt.defers (fun k hk => hSt.old k (outB'_of hk)) (fun i d hi hd => hSt.new i d hi (by
      have : i < l.length := by omega
      simp [this]) hd)
  · simp [hnl]
  · intro i o' _ hl
    rw [Array.getD_eq_getD_getElem?, Array.getElem?_replicate] at hl
    split at hl <;> cases hl
  · unfold unl
    have := List.countP_le_length (p := fun i => !((Array.replicate l.toArray.size false).getD i true)) (l := List.range l.length)
    simpa using this
  · intro i d hi hl _
    have h1 : i < l.length := by omega
    simp [h1] at hl
/-- The slots that the operations ahead of n write. -/
def slotsOf (n : Nat) (l : List Oper) : List Nat := (List.range n).filterMap (slotOf l)
theorem putAll_size (us : List (Nat × Value)) : ∀ T : Array Value, (putAll us T).size = T.size := by
  induction us with
  | nil => intro T; rfl
  | cons u us ih => intro T; rw [putAll_cons u.1 u.2, ih, Array.size_setIfInBounds]
theorem putAll_get (f : Nat → Value) (ds : List Nat) : ∀ (T : Array Value) (k : Nat), k < T.size → (putAll (ds.map fun d => (d, f d)) T).getD k undef = if k ∈ ds then f k else T.getD k undef := by
  induction ds with
  | nil => intro T k _; simp [putAll]
  | cons d ds ih =>
    intro T k hk
    rw [List.map_cons, putAll_cons, ih _ _ (by rw [Array.size_setIfInBounds]; exact hk)]
    by_cases h1 : k ∈ ds
    · rw [if_pos h1, if_pos (.tail _ h1)]
    · rw [if_neg h1]
      by_cases e : k = d
      · subst e
        rw [if_pos (.head _)]
        simp [hk]
      · rw [if_neg (by intro h; cases h with
          | head => exact e rfl
          | tail _ h => exact h1 h)]
        simp [Array.getElem?_setIfInBounds_ne (Ne.symm e)]
theorem frame_of {a a0 : Act} {n : Nat} {l : List Oper} (hs : a.tmps.size = a0.tmps.size) (hd : a.defers = a0.defers) (hold : ∀ k, outB' n l k = true → a.tmps.getD k undef = a0.tmps.getD k undef) :
    a = { tmps := putAll ((slotsOf n l).map fun d => (d, a.tmps.getD d undef)) a0.tmps, defers := a0.defers } := by
  have e : a.tmps = putAll ((slotsOf n l).map fun d => (d, a.tmps.getD d undef)) a0.tmps := by
    apply Array.ext (by rw [putAll_size, hs])
    intro i h1 h2
    have h3 := putAll_get (fun d => a.tmps.getD d undef) (slotsOf n l) a0.tmps i (by omega)
    have h4 : (putAll ((slotsOf n l).map fun d => (d, a.tmps.getD d undef)) a0.tmps).getD i undef = a.tmps.getD i undef := by
      rw [h3]
      by_cases h : i ∈ slotsOf n l
      · rw [if_pos h]
      · rw [if_neg h]
        refine (hold i ?_).symm
        unfold outB'
        rw [List.all_eq_true]
        intro j hj
        rw [decide_eq_true_iff]
        intro hc
        exact h (List.mem_filterMap.2 ⟨j, hj, hc⟩)
    rw [Array.getD_eq_getD_getElem?, Array.getD_eq_getD_getElem?, Array.getElem?_eq_getElem h1, Array.getElem?_eq_getElem h2] at h4
    simpa using h4.symm
  cases a
  simp only at e hd
  rw [hd]
  congr 1
theorem wp_region_each {P : Program} {id : Nat} {Q : Exit → Act → World → Prop} {a0 : Act} {w : World} {l : List Oper} (n m : Nat) (Φ : Nat → Value → World → Prop) (hm : P.follows .mixedOrders = true) (hWB : tailWaits n l.toArray = true) (hA : slotsApart n l = true)
    (hG : guardsIn n l = true) (hD : dstIn n m l = true) (hsz : a0.tmps.size = m)
    (hst : ∀ i v W W', i < n → Φ i v W → Below W.heap.size W W' → Φ i v W') (hg : ∀ p ∈ guardsOf n l, ∀ v W, Φ p.1 v W → v = .bool p.2)
    (hop : EachOp P n l Φ a0 w (l.take n) 0)
    (hend : ∀ (X : Nat → Value) W, Below w.heap.size w W → (∀ i d, i < n → slotOf l i = some d → Φ i (X d) W) → wpList P l.toArray Q (l.drop n) { tmps := putAll ((slotsOf n l).map fun d => (d, X d)) a0.tmps, defers := a0.defers } W) :
    (Code.region id l.toArray true).wp P Q a0 w :=
  wp_region_slots n m Φ hm hWB hA hG hD hsz hst hg hop fun a W hb hs hd hold hnew => by
    rw [frame_of (a0 := a0) (n := n) (l := l) (by rw [hs, hsz]) hd hold]
    exact hend (fun d => a.tmps.getD d undef) W hb hnew
theorem wpIn_region_each {P : Program} {id : Nat} {Q : Exit → Act → World → Prop} {a0 : Act} {w : World} {l : List Oper} (n m : Nat) (Φ : Nat → Value → World → Prop) (hm : P.follows .mixedOrders = true) (hWB : tailWaits n l.toArray = true) (hA : slotsApart n l = true)
    (hG : guardsIn n l = true) (hD : dstIn n m l = true) (hsz : a0.tmps.size = m)
    (hst : ∀ i v W W', i < n → Φ i v W → Below W.heap.size W W' → Φ i v W') (hg : ∀ p ∈ guardsOf n l, ∀ v W, Φ p.1 v W → v = .bool p.2)
    (hop : EachOp P n l Φ a0 w (l.take n) 0)
    (hend : ∀ (X : Nat → Value) W, Below w.heap.size w W → (∀ i d, i < n → slotOf l i = some d → Φ i (X d) W) → wpList P l.toArray Q (l.drop n) { tmps := putAll ((slotsOf n l).map fun d => (d, X d)) a0.tmps, defers := a0.defers } W) :
    (Code.region id l.toArray true).wpIn Fence.wide 0 P Q a0 w :=
  wpIn_wide.2 (wp_region_each n m Φ hm hWB hA hG hD hsz hst hg hop hend)

/-! What may stand in a slot. -/
def phiOf (L : List (Value → World → Prop)) (i : Nat) : Value → World → Prop := L.getD i (fun _ _ => True)
/-- One value, whatever the world. -/
def QV (c : Value) (v : Value) (_ : World) : Prop := v = c
/-- It stays, as the world grows. -/
def Stays (φ : Value → World → Prop) : Prop := ∀ v W W', φ v W → Below W.heap.size W W' → φ v W'
theorem stays_qv (c : Value) : Stays (QV c) := fun _ _ _ h _ => h
theorem phi_stays {L : List (Value → World → Prop)} {n : Nat} (h : ∀ φ ∈ L, Stays φ) : ∀ i v W W', i < n → phiOf L i v W → Below W.heap.size W W' → phiOf L i v W' := by
  intro i v W W' _ hv hb
  unfold phiOf at hv ⊢
  rw [List.getD_eq_getElem?_getD] at hv ⊢
  cases hx : L[i]? with
  | none => simp
  | some φ =>
    rw [hx] at hv
    simp only [Option.getD_some] at hv ⊢
    exact h φ (List.mem_of_getElem? hx) v W W' hv hb
/-- A pointer to a row made here. -/
def PV (t : TypeId) (A : Array Value) (B : Nat) (v : Value) (W : World) : Prop := ∃ b, v = .pointer (some ⟨b, 0, none⟩) ∧ RowAt W b t A ∧ B ≤ b
theorem stays_pv (t : TypeId) (A : Array Value) (B : Nat) : Stays (PV t A B) := fun _ _ _ ⟨b, h1, h2, h3⟩ hb => ⟨b, h1, h2.below hb h2.lt, h3⟩
/-- A whole row is read. -/
theorem opOk_load {P : Program} {o : Oper} {a : Act} {W : World} {Ψ : Value → World → Prop} (ty : TypeId) (x : Operand) (ho : o.op = .load ty x) (g : Nat) (hx : a.eval x = .pointer (some ⟨g, 0, none⟩)) (t : TypeId) (cs : Array Value) (d : TypeDesc)
    (hg : RowAt W g t cs) (hu : P.underlying ty = some d) (hd : (match d with | .struct _ | .array _ _ => true | _ => false) = true) (hi : (P.info? ty).map (·.size) = some cs.size) (h : Ψ (.agg cs) W) : OpOk P o a W Ψ := by
  unfold OpOk execOp
  simp only [ho, hx, Instr.loadAt, Instr.sureAddr, Sem.run_bind, Sem.run_pure, Result.andThen_ok, run_loadVar_row W g t ty cs (0, 0) d hg hu hd hi]
  exact ⟨Below.refl _ _, h⟩
/-- A slice of texts, made here. -/
def SV (xs : List ByteArray) (v : Value) (W : World) : Prop := ∃ b, v = .slice (some ⟨b, 0, none⟩) xs.length xs.length ∧ b < W.heap.size ∧ ∀ (j : Nat) x, xs[j]? = some x → W.cell? ⟨b, 0 + j, none⟩ = some (.string x)
theorem stays_sv (xs : List ByteArray) : Stays (SV xs) := fun _ W W' ⟨b, h1, h2, h3⟩ hb => ⟨b, h1, Nat.lt_of_lt_of_le h2 hb.size, fun j x hj => (hb.cell (p := ⟨b, 0 + j, none⟩) h2).trans (h3 j x hj)⟩
theorem sv_new (W : World) (t : TypeId) (xs : List ByteArray) (A : Array Value) (hA : A = (xs.map Value.string).toArray) : SV xs (.slice (some ⟨W.heap.size, 0, none⟩) xs.length xs.length) (W.alloc (.cells A t)) :=
  ⟨W.heap.size, rfl, by simp, fun j x hj => by
    rw [Nat.zero_add]
    refine (RowAt.new W A t).cell ?_
    rw [hA, List.getElem?_toArray, List.getElem?_map, hj]; rfl⟩
theorem eval_tmp (a : Act) (k : Nat) : a.eval (.tmp k) = a.tmps.getD k undef := rfl
theorem eval_const (a : Act) (v : Value) : a.eval (.const v) = v := rfl
theorem eval_func (a : Act) (f : FuncId) : a.eval (.func f) = .func (.func f) #[] #[] := rfl
end Go.Proofs.YtbbjoahloghpkaaDoor
