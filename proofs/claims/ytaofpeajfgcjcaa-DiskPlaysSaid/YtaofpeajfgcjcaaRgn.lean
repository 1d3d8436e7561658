/- Laws over whatever program: a region that draws its order: what it reads and lays, in whatever order; what it writes (E), one behind the other. -/
import Derived.Test.YtaofpeajfgcjcaaWkX
import Derived.Maps.OwnSet
import Derived.Laws.CopyRow
import Derived.Laws.IdiomCopy
namespace Go.Proofs.Ytaofpeajfgcjcaa
open Go Go.RowKit Go.Maps
set_option linter.unusedSimpArgs false
set_option linter.unusedVariables false

/-- What one operation comes to, whatever it does. -/
def OpR (P : Program) (o : Oper) (a : Act) (W : World) (Ψ : Value → World → Prop) : Prop :=
  match (execOp a.eval o).run P W with
  | .ok (.value v) W' => Ψ v W'
  | .ok .skip W' => Ψ undef W'
  | .ok (.enter f args) W' => Calls P f args W' fun e W'' => ∃ v, e = .returned v ∧ Ψ v W''
  | _ => False
theorem OpR.wp {P : Program} {o : Oper} {a : Act} {W : World} {Ψ : Value → World → Prop} {K : Act → World → Prop} {Q : Exit → Act → World → Prop} (h : OpR P o a W Ψ)
    (hK : ∀ v W', Ψ v W' → K (a.put o.dst v) W') : o.wp P a W K Q := by
  unfold OpR at h
  unfold Oper.wp
  generalize (execOp a.eval o).run P W = r at *
  cases r with
  | ok n w' =>
    cases n <;> simp only [Oper.upon] <;> simp only [] at h
    case value u => exact hK _ _ h
    case skip => exact hK _ _ h
    case enter f args =>
      refine h.mono fun e w'' ⟨v, he, hv⟩ => ?_
      subst he
      exact hK _ _ hv
  | halt x w' => simp only [] at h
theorem OpR.of_ok {P : Program} {o : Oper} {a : Act} {W : World} {Ψ : Value → World → Prop} (h : OpOk P o a W Ψ) : OpR P o a W fun v W' => Below W.heap.size W W' ∧ Ψ v W' := h
theorem OpR.mono {P : Program} {o : Oper} {a : Act} {W : World} {Ψ Ψ' : Value → World → Prop} (h : OpR P o a W Ψ) (hh : ∀ v W', Ψ v W' → Ψ' v W') : OpR P o a W Ψ' := by
  unfold OpR at *
  split at h
  · exact hh _ _ h
  · exact hh _ _ h
  · exact h.mono fun e w ⟨v, he, hv⟩ => ⟨v, he, hh _ _ hv⟩
  · exact h

/-- All that an operation waits for, at whatever remove: as a number's bits. -/
def maskOf (acc : List Nat) (o : Oper) : Nat := o.after.toList.foldl (fun m e => if Region.binds .any e then m ||| 2 ^ e.on ||| acc.getD e.on 0 else m) 0
def cloL : List Oper → List Nat → List Nat
  | [], acc => acc
  | o :: r, acc => cloL r (acc ++ [maskOf acc o])
def clo (l : List Oper) (i : Nat) : Nat := (cloL l []).getD i 0
theorem mask_bit (acc : List Nat) (j : Nat) : ∀ (es : List Edge) (m : Nat), (es.foldl (fun m e => if Region.binds .any e then m ||| 2 ^ e.on ||| acc.getD e.on 0 else m) m).testBit j = true → m.testBit j = true ∨ ∃ e ∈ es, Region.binds .any e = true ∧ (e.on = j ∨ (acc.getD e.on 0).testBit j = true) := by
  intro es
  induction es with
  | nil => intro m h; exact .inl h
  | cons e es ih =>
    intro m h
    rw [List.foldl_cons] at h
    rcases ih _ h with h1 | ⟨x, hx, h1⟩
    · split at h1
      · rename_i hb
        simp only [Nat.testBit_or, Bool.or_eq_true, Nat.testBit_two_pow, decide_eq_true_eq] at h1
        rcases h1 with (h1 | h1) | h1
        · exact .inl h1
        · exact .inr ⟨e, .head _, hb, .inl h1⟩
        · exact .inr ⟨e, .head _, hb, .inr h1⟩
      · exact .inl h1
    · exact .inr ⟨x, .tail _ hx, h1⟩
theorem clo_sound_aux {l : List Oper} {listed : Array Bool} (hS : Shut l.toArray listed) : ∀ (r p : List Oper) (acc : List Nat), l = p ++ r → acc.length = p.length →
    (∀ i j, (acc.getD i 0).testBit j = true → listed.getD i false = true → listed.getD j false = true) → ∀ i j, ((cloL r acc).getD i 0).testBit j = true → listed.getD i false = true → listed.getD j false = true
  | [], p, acc, _, _, h, i, j, hb, hl => h i j hb hl
  | o :: r, p, acc, he, hlen, h, i, j, hb, hl => by
    refine clo_sound_aux hS r (p ++ [o]) (acc ++ [maskOf acc o]) (by simp [he]) (by simp [hlen]) ?_ i j hb hl
    intro i j hb hl
    rcases Nat.lt_trichotomy i acc.length with h1 | h1 | h1
    · rw [List.getD_eq_getElem?_getD, List.getElem?_append_left h1] at hb
      exact h i j (by rw [List.getD_eq_getElem?_getD]; exact hb) hl
    · subst h1
      rw [List.getD_eq_getElem?_getD, List.getElem?_append_right (Nat.le_refl _)] at hb
      simp only [Nat.sub_self, List.getElem?_cons_zero, Option.getD_some] at hb
      have ho : l.toArray[acc.length]? = some o := by rw [he, hlen]; simp
      rcases mask_bit acc j _ _ hb with h2 | ⟨e, hem, hbd, h2⟩
      · simp at h2
      · have h3 := hS _ _ ho hl e (by simpa using hem) hbd
        rcases h2 with rfl | h2
        · exact h3
        · exact h _ _ h2 h3
    · rw [List.getD_eq_getElem?_getD, List.getElem?_eq_none (by simp; omega)] at hb
      simp at hb
theorem clo_sound {l : List Oper} {listed : Array Bool} (hS : Shut l.toArray listed) {i j : Nat} (hb : (clo l i).testBit j = true) (hl : listed.getD i false = true) : listed.getD j false = true :=
  clo_sound_aux hS l [] [] rfl rfl (fun i j h => by simp at h) i j hb hl
/-- The stages at which an operation may come up: how many writes are done. -/
def loS (l : List Oper) (E : List Nat) (i : Nat) : Nat := (List.range E.length).foldl (fun m k => if (clo l i).testBit (E.getD k 0) then k + 1 else m) 0
def hiS (l : List Oper) (E : List Nat) (i : Nat) : Nat := (List.range E.length).foldr (fun k m => if E.getD k 0 == i || (clo l (E.getD k 0)).testBit i then k else m) E.length
/-- Just the first s writes are done. -/
def DoneE (E : List Nat) (listed : Array Bool) (s : Nat) : Prop := s ≤ E.length ∧ ∀ k, k < E.length → listed.getD (E.getD k 0) false = decide (k < s)
theorem loS_le {l : List Oper} {E : List Nat} {listed : Array Bool} {s i : Nat} (h : ∀ j, (clo l i).testBit j = true → listed.getD j false = true) (hD : DoneE E listed s) : loS l E i ≤ s := by
  unfold loS
  have : ∀ (ks : List Nat) (m : Nat), (∀ k ∈ ks, k < E.length) → m ≤ s → ks.foldl (fun m k => if (clo l i).testBit (E.getD k 0) then k + 1 else m) m ≤ s := by
    intro ks
    induction ks with
    | nil => intro m _ h; exact h
    | cons k ks ih =>
      intro m hk hm
      refine ih _ (fun x hx => hk x (.tail _ hx)) ?_
      show (if (clo l i).testBit (E.getD k 0) = true then k + 1 else m) ≤ s
      split
      · rename_i hb
        have h1 := h _ hb
        have h2 := hD.2 k (hk k (.head _))
        rw [h1] at h2
        have h3 : k < s := by simpa using h2.symm
        omega
      · exact hm
  exact this _ _ (fun k hk => List.mem_range.1 hk) (Nat.zero_le _)
theorem le_hiS {l : List Oper} {E : List Nat} {listed : Array Bool} {s i : Nat} (hS : Shut l.toArray listed) (hi : listed.getD i false = false) (hD : DoneE E listed s) : s ≤ hiS l E i := by
  unfold hiS
  have : ∀ (ks : List Nat), (∀ k ∈ ks, k < E.length) → s ≤ ks.foldr (fun k m => if E.getD k 0 == i || (clo l (E.getD k 0)).testBit i then k else m) E.length := by
    intro ks
    induction ks with
    | nil => intro _; exact hD.1
    | cons k ks ih =>
      intro hk
      rw [List.foldr_cons]
      split
      · rename_i hb
        have hn : listed.getD (E.getD k 0) false = false := by
          cases hc : listed.getD (E.getD k 0) false with
          | false => rfl
          | true =>
            simp only [Bool.or_eq_true, beq_iff_eq] at hb
            rcases hb with hb | hb
            · rw [hb, hi] at hc; cases hc
            · rw [clo_sound hS hb hc] at hi; cases hi
        have h2 := hD.2 k (hk k (.head _))
        rw [hn] at h2
        have : ¬ k < s := by simpa using h2.symm
        omega
      · exact ih (fun x hx => hk x (.tail _ hx))
  exact this _ (fun k hk => List.mem_range.1 hk)
/-- All edges go back; no slot is written twice; each is there; a guard's slot is waited for; the writes stand one behind the other. -/
def stB (E : List Nat) (m : Nat) (l : List Oper) : Bool :=
  ((List.range l.length).all fun i => match l[i]? with | some o => o.after.all fun e => decide (e.on < i) | none => true) &&
  slotsApart l.length l && dstIn l.length m l && guardsIn l.length l &&
  ((List.range E.length).all fun k => decide (E.getD k 0 < l.length) && (List.range E.length).all fun j => decide (j ≤ k) || (decide (E.getD k 0 < E.getD j 0) && (clo l (E.getD j 0)).testBit (E.getD k 0)))
/-- What stands in the slots. -/
structure StandS (l : List Oper) (Φ : Nat → Value → World → Prop) (T : Nat → Prop) (a0 : Act) (w : World) (listed : Array Bool) (a : Act) (W : World) : Prop where
  kept : Kept T w W
  size : a.tmps.size = a0.tmps.size
  defers : a.defers = a0.defers
  old : ∀ k, (∀ i, i < l.length → slotOf l i ≠ some k) → a.tmps.getD k undef = a0.tmps.getD k undef
  new : ∀ i d, i < l.length → listed.getD i false = true → slotOf l i = some d → Φ i (a.tmps.getD d undef) W
/-- Each operation by itself, at whatever stage it may come up. -/
def EachSt (P : Program) (E : List Nat) (l : List Oper) (Φ : Nat → Value → World → Prop) (G : Nat → World → Prop) (Tk : Nat → Nat → Prop) (T : Nat → Prop) (a0 : Act) (w : World) : List Oper → Nat → Prop
  | [], _ => True
  | o :: r, i => (∀ (s : Nat) (a : Act) (W : World), loS l E i ≤ s → s ≤ hiS l E i → G s W → Kept T w W → (∀ k, outB' l.length l k = true → a.tmps.getD k undef = a0.tmps.getD k undef) →
      (∀ j d, depB o j = true → slotOf l j = some d → Φ j (a.tmps.getD d undef) W) → (∀ g b, o.guard = some (g, b) → ∀ d, slotOf l g = some d → a.tmps.getD d undef = .bool b) →
      match E.contains i with
      | true => OpR P o a W fun v W' => Kept (Tk s) W W' ∧ G (s + 1) W' ∧ Φ i v W'
      | false => OpOk P o a W (Φ i)) ∧ EachSt P E l Φ G Tk T a0 w r (i + 1)
theorem EachSt.get {P : Program} {E : List Nat} {l : List Oper} {Φ : Nat → Value → World → Prop} {G : Nat → World → Prop} {Tk : Nat → Nat → Prop} {T : Nat → Prop} {a0 : Act} {w : World} : ∀ {r : List Oper} {k : Nat}, EachSt P E l Φ G Tk T a0 w r k → ∀ (i : Nat) (o : Oper), r[i]? = some o →
    ∀ (s : Nat) (a : Act) (W : World), loS l E (k + i) ≤ s → s ≤ hiS l E (k + i) → G s W → Kept T w W → (∀ k, outB' l.length l k = true → a.tmps.getD k undef = a0.tmps.getD k undef) →
      (∀ j d, depB o j = true → slotOf l j = some d → Φ j (a.tmps.getD d undef) W) → (∀ g b, o.guard = some (g, b) → ∀ d, slotOf l g = some d → a.tmps.getD d undef = .bool b) →
      match E.contains (k + i) with
      | true => OpR P o a W fun v W' => Kept (Tk s) W W' ∧ G (s + 1) W' ∧ Φ (k + i) v W'
      | false => OpOk P o a W (Φ (k + i))
  | [], _, _, i, o, h => by simp at h
  | o' :: r, k, h, 0, o, ho => by
    simp at ho; subst ho; exact h.1
  | o' :: r, k, h, i + 1, o, ho => by
    have := EachSt.get h.2 i o (by simpa using ho)
    rw [show k + (i + 1) = k + 1 + i by omega]; exact this
theorem getD_tf {A : Array Bool} {i : Nat} (h : i < A.size) : A.getD i true = A.getD i false := by simp [h]
theorem any_st {P : Program} {l : List Oper} {E : List Nat} {m : Nat} (hB : stB E m l = true) {Φ : Nat → Value → World → Prop} {G : Nat → World → Prop} {Tk : Nat → Nat → Prop} {T : Nat → Prop} {Q' : Exit → Act → World → Prop} {a0 : Act} {w : World} (hsz : a0.tmps.size = m) (hTT : ∀ k b, Tk k b → T b)
    (hst : ∀ k i v W W', (E.drop k).contains i = false → Φ i v W → Kept (Tk k) W W' → Φ i v W') (hGst : ∀ s W W', G s W → Below W.heap.size W W' → G s W')
    (hg : ∀ (i : Nat) (o : Oper) g b, l[i]? = some o → o.guard = some (g, b) → ∀ v W, Φ g v W → v = .bool b ∨ (v = .bool (!b) ∧ (∀ W', Φ i undef W') ∧ E.contains i = false))
    (hop : EachSt P E l Φ G Tk T a0 w l 0)
    (hend : ∀ a W, G E.length W → StandS l Φ T a0 w (Array.replicate l.length true) a W → Q' .normal a W) :
    ∀ (fuel s : Nat) (listed : Array Bool) (a : Act) (W : World), listed.size = l.length → Shut l.toArray listed → unl l.length listed ≤ fuel → DoneE E listed s → G s W → StandS l Φ T a0 w listed a W →
      wpAny P .any l.toArray Q' fuel listed a W := by
  unfold stB at hB
  simp only [Bool.and_eq_true] at hB
  obtain ⟨⟨⟨⟨hback', hA⟩, hdst'⟩, hgd'⟩, hch⟩ := hB
  have hback : ∀ (i : Nat) (o : Oper), l[i]? = some o → ∀ e ∈ o.after, e.on < i := by
    intro i o ho e he
    rw [List.all_eq_true] at hback'
    have := hback' i (List.mem_range.2 (List.getElem?_eq_some_iff.1 ho).1)
    rw [ho] at this
    simp only [] at this
    rw [Array.all_eq_true_iff_forall_mem] at this
    simpa using this e he
  have hdst : ∀ i d, i < l.length → slotOf l i = some d → d < a0.tmps.size := by
    intro i d hi hd
    unfold dstIn at hdst'
    rw [List.all_eq_true] at hdst'
    have := hdst' i (List.mem_range.2 hi)
    rw [hd] at this
    rw [hsz]
    simpa using this
  have hguard : ∀ (i : Nat) (o : Oper) g b, l[i]? = some o → o.guard = some (g, b) → (∃ d, slotOf l g = some d) ∧ (∃ e ∈ o.after, Region.binds .any e = true ∧ e.on = g) := by
    intro i o g b ho hgd
    unfold guardsIn at hgd'
    rw [List.all_eq_true] at hgd'
    have := hgd' i (List.mem_range.2 (List.getElem?_eq_some_iff.1 ho).1)
    simp only [ho, hgd, Bool.and_eq_true] at this
    exact ⟨Option.isSome_iff_exists.1 this.1, depB_of this.2⟩
  have hE : ∀ k, k < E.length → E.getD k 0 < l.length ∧ ∀ j, j < E.length → k < j → E.getD k 0 < E.getD j 0 ∧ (clo l (E.getD j 0)).testBit (E.getD k 0) = true := by
    intro k hk
    rw [List.all_eq_true] at hch
    have h1 := hch k (List.mem_range.2 hk)
    simp only [Bool.and_eq_true, decide_eq_true_eq, List.all_eq_true] at h1
    refine ⟨h1.1, fun j hj hkj => ?_⟩
    have h2 := h1.2 j (List.mem_range.2 hj)
    simp only [Bool.or_eq_true, Bool.and_eq_true, decide_eq_true_eq] at h2
    rcases h2 with h2 | h2
    · omega
    · exact h2
  have hapart : ∀ i j d, i < l.length → j < l.length → slotOf l i = some d → slotOf l j = some d → i = j := by
    intro i j d hi hj h1 h2
    unfold slotsApart at hA
    rw [List.all_eq_true] at hA
    have h3 := hA i (List.mem_range.2 hi)
    rw [List.all_eq_true] at h3
    have h4 := h3 j (List.mem_range.2 hj)
    rw [h1, h2] at h4
    simpa using h4
  have hall0 : ∀ listed : Array Bool, listed.size = l.length → Region.ready .any l.toArray listed = [] → ∀ i, i < l.length → listed.getD i false = true := by
    intro listed hs h0
    have : ∀ n, ∀ i, i < n → i < l.length → listed.getD i false = true := by
      intro n
      induction n with
      | zero => intro i hi; omega
      | succ n ih =>
        intro i hi hil
        by_cases e : i < n
        · exact ih i e hil
        · cases hx : listed.getD i false with
          | true => rfl
          | false =>
            exfalso
            have : i ∈ Region.ready .any l.toArray listed := mem_ready.2 ⟨by rw [getD_tf (by omega)]; exact hx, l[i], by simp [hil], fun e' he _ => by
              have hb := hback i l[i] (by simp [hil]) e' he
              exact ih e'.on (by omega) (by omega)⟩
            rw [h0] at this; cases this
    exact fun i hi => this (i + 1) i (by omega) hi
  have hfin : ∀ (s : Nat) (listed : Array Bool) (a : Act) (W : World), listed.size = l.length → Region.ready .any l.toArray listed = [] → DoneE E listed s → G s W → StandS l Φ T a0 w listed a W → Q' .normal a W := by
    intro s listed a W hs h0 hD hG hSt
    have hl := hall0 listed hs h0
    have hsE : s = E.length := by
      rcases Nat.lt_or_ge s E.length with h1 | h1
      · have h2 := hD.2 s h1
        rw [hl _ (hE s h1).1] at h2
        simp at h2
      · have := hD.1; omega
    subst hsE
    exact hend a W hG ⟨hSt.kept, hSt.size, hSt.defers, hSt.old, fun i d hi _ hd => hSt.new i d hi (hl i hi) hd⟩
  intro fuel
  induction fuel with
  | zero =>
    intro s listed a W hs hS hu hD hG hSt
    have h0 : Region.ready .any l.toArray listed = [] := by
      cases hr : Region.ready .any l.toArray listed with
      | nil => rfl
      | cons i r =>
        exfalso
        have hi : i ∈ Region.ready .any l.toArray listed := by rw [hr]; exact .head _
        obtain ⟨hun, o, ho, _⟩ := mem_ready.1 hi
        have hil : i < l.length := by simpa using (Array.getElem?_eq_some_iff.1 ho).1
        have := unl_pos (m := l.length) hil hun
        omega
    exact ⟨h0, hfin s listed a W hs h0 hD hG hSt⟩
  | succ fuel ih =>
    intro s listed a W hs hS hu hD hG hSt
    refine ⟨fun h0 => hfin s listed a W hs h0 hD hG hSt, fun i hi => ?_⟩
    obtain ⟨hun, o, ho, hall⟩ := mem_ready.1 hi
    have ho' : l[i]? = some o := by simpa using ho
    have hil : i < l.length := (List.getElem?_eq_some_iff.1 ho').1
    have hunf : listed.getD i false = false := by rw [← getD_tf (by omega)]; exact hun
    have hon : ∀ j, (∃ e ∈ o.after, Region.binds .any e = true ∧ e.on = j) → listed.getD j false = true ∧ j < l.length := by
      rintro j ⟨x, hx, hb, rfl⟩
      exact ⟨hall x hx hb, by have := hback i o ho' x hx; omega⟩
    have hdep : ∀ j d, (∃ e ∈ o.after, Region.binds .any e = true ∧ e.on = j) → slotOf l j = some d → Φ j (a.tmps.getD d undef) W := fun j d hj hd => hSt.new j d (hon j hj).2 (hon j hj).1 hd
    have hclo : ∀ j, (clo l i).testBit j = true → listed.getD j false = true := by
      intro j hb
      have hSn := hS.next hi
      have h1 : (listed.setIfInBounds i true).getD i false = true := by
        rw [Array.getD_eq_getD_getElem?, Array.getElem?_setIfInBounds_self_of_lt (by omega)]; rfl
      have h2 := clo_sound hSn hb h1
      by_cases e : i = j
      · -- an operation that waits for itself: its edges go back
        subst e
        exfalso
        have key : ∀ (r p : List Oper) (acc : List Nat), l = p ++ r → acc.length = p.length → (∀ i j, (acc.getD i 0).testBit j = true → j < i) → ∀ i j, ((cloL r acc).getD i 0).testBit j = true → j < i := by
          intro r
          induction r with
          | nil => intro p acc _ _ h i j hb; exact h i j hb
          | cons o r ih =>
            intro p acc he hlen h i j hb
            refine ih (p ++ [o]) (acc ++ [maskOf acc o]) (by simp [he]) (by simp [hlen]) ?_ i j hb
            intro i j hb
            rcases Nat.lt_trichotomy i acc.length with h1 | h1 | h1
            · rw [List.getD_eq_getElem?_getD, List.getElem?_append_left h1] at hb
              exact h i j (by rw [List.getD_eq_getElem?_getD]; exact hb)
            · subst h1
              rw [List.getD_eq_getElem?_getD, List.getElem?_append_right (Nat.le_refl _)] at hb
              simp only [Nat.sub_self, List.getElem?_cons_zero, Option.getD_some] at hb
              rcases mask_bit acc j _ _ hb with h2 | ⟨e, hem, hbd, h2⟩
              · simp at h2
              · have h3 := hback acc.length o (by rw [he, hlen]; simp) e (by simpa using hem)
                rcases h2 with rfl | h2
                · exact h3
                · have := h _ _ h2; omega
            · rw [List.getD_eq_getElem?_getD, List.getElem?_eq_none (by simp; omega)] at hb
              simp at hb
        have := key l [] [] rfl rfl (fun i j h => by simp at h) i i hb
        omega
      · rwa [getD_set_ne false e] at h2
    have hlo := loS_le (E := E) hclo hD
    have hhi := le_hiS (E := E) hS hunf hD
    have hskip : (Region.wanted o (yielded l.toArray a.tmps) = true ∧ ∀ g b, o.guard = some (g, b) → ∀ d, slotOf l g = some d → a.tmps.getD d undef = .bool b) ∨ (Region.wanted o (yielded l.toArray a.tmps) = false ∧ (∀ W', Φ i undef W') ∧ E.contains i = false) := by
      unfold Region.wanted
      cases hgd : o.guard with
      | none => exact .inl ⟨rfl, fun g b h => by cases h⟩
      | some gb =>
        obtain ⟨g, b⟩ := gb
        obtain ⟨⟨d, hd⟩, he⟩ := hguard i o g b ho' hgd
        have h1 := hg i o g b ho' hgd _ _ (hdep g d he hd)
        have hgn := (hon g he).2
        have hy : ∀ c, a.tmps.getD d undef = .bool c → yielded l.toArray a.tmps g = some c := by
          intro c h1
          unfold yielded
          have h3 : (l.toArray[g]?).bind (·.dst) = some d := by simpa [slotOf] using hd
          rw [h3]
          have h4 : d < a.tmps.size := by rw [hSt.size]; exact hdst g d hgn hd
          have h5 : a.tmps[d]? = some (.bool c) := by
            rw [Array.getElem?_eq_getElem h4]
            rw [Array.getD_eq_getD_getElem?, Array.getElem?_eq_getElem h4] at h1
            simpa using h1
          simp [h5]
        rcases h1 with h1 | ⟨h1, h2⟩
        · exact .inl ⟨by simp [hy _ h1], fun g2 b2 h d2 hd2 => by cases h; rw [hd] at hd2; cases hd2; exact h1⟩
        · exact .inr ⟨by simp [hy _ h1], h2⟩
    have hput : ∀ (x : Option Tmp) v, (a.put x v).defers = a.defers ∧ (a.put x v).tmps.size = a.tmps.size := fun x v => by cases x <;> simp [Act.put]
    -- what stands in the slots behind it
    have stand : ∀ (k : Nat) (v : Value) (W' : World), s ≤ k → Kept (Tk k) W W' → Φ i v W' → StandS l Φ T a0 w (listed.setIfInBounds i true) (a.put o.dst v) W' := by
      intro k0 v W' hsk hk hv
      refine ⟨hSt.kept.trans (hk.mono fun b _ hb => hTT k0 b hb), by rw [(hput _ _).2]; exact hSt.size, by rw [(hput _ _).1]; exact hSt.defers, ?_, ?_⟩
      · intro k hk
        rw [← hSt.old k hk]
        have hne : o.dst ≠ some k := fun h => hk i hil (by simp [slotOf, ho', h])
        cases hd : o.dst with
        | none => rfl
        | some d =>
          have : d ≠ k := fun h => hne (by rw [hd, h])
          simp [Act.put, Array.getElem?_setIfInBounds_ne this]
      · intro j d hj hl2 hd
        by_cases ej : i = j
        · subst ej
          have hod : o.dst = some d := by simpa [slotOf, ho'] using hd
          have h4 : d < a.tmps.size := by rw [hSt.size]; exact hdst i d hj hd
          have : (a.put o.dst v).tmps.getD d undef = v := by rw [hod]; simp [Act.put, h4]
          rw [this]; exact hv
        · rw [getD_set_ne false ej] at hl2
          have h1 := hSt.new j d hj hl2 hd
          have hne : o.dst ≠ some d := fun h => ej (hapart i j d hil hj (by simp [slotOf, ho', h]) hd)
          have : (a.put o.dst v).tmps.getD d undef = a.tmps.getD d undef := by
            cases hod : o.dst with
            | none => rfl
            | some x =>
              have hx : x ≠ d := fun h => hne (by rw [hod, h])
              simp [Act.put, Array.getElem?_setIfInBounds_ne hx]
          rw [this]
          refine hst k0 j _ _ _ ?_ h1 hk
          cases hc : (E.drop k0).contains j with
          | false => rfl
          | true =>
            exfalso
            obtain ⟨q, hq, h5⟩ := List.mem_iff_getElem.1 (List.contains_iff_mem.1 hc)
            rw [List.getElem_drop] at h5
            have hq' : k0 + q < E.length := by simp at hq; omega
            have h6 := hD.2 (k0 + q) hq'
            rw [List.getD_eq_getElem?_getD, List.getElem?_eq_getElem hq', Option.getD_some, h5, hl2] at h6
            have : k0 + q < s := by simpa using h6.symm
            omega
    have hu' : unl l.length (listed.setIfInBounds i true) ≤ fuel := by
      have := unl_set (m := l.length) hil hs hun
      omega
    have hnotin : E.contains i = false → DoneE E (listed.setIfInBounds i true) s := fun hc => ⟨hD.1, fun k hk => by
      have : i ≠ E.getD k 0 := fun e => by
        have : E.contains i = true := by
          rw [List.contains_iff_mem, e, List.getD_eq_getElem?_getD, List.getElem?_eq_getElem hk]
          exact List.getElem_mem _
        rw [hc] at this; cases this
      rw [getD_set_ne false this]; exact hD.2 k hk⟩
    rcases hskip with ⟨hwant, hgv⟩ | ⟨hwant, hfree, hnE⟩
    case inr =>
      unfold wpOp
      rw [ho]
      simp only [hwant, Bool.false_eq_true, if_false]
      exact ih s _ (a.put o.dst undef) W (by rw [Array.size_setIfInBounds]; exact hs) (hS.next hi) hu' (hnotin hnE) hG (stand E.length undef W hD.1 (Kept.refl _ _) (hfree W))
    unfold wpOp
    rw [ho]
    simp only [hwant, if_true]
    have hthis := hop.get i o ho' s a W (by rw [Nat.zero_add]; exact hlo) (by rw [Nat.zero_add]; exact hhi) hG hSt.kept (fun k hk => hSt.old k (outB'_of hk)) (fun j d hj hd => hdep j d (depB_of hj) hd) hgv
    rw [Nat.zero_add] at hthis
    cases hc : E.contains i with
    | false =>
      rw [hc] at hthis
      exact .inl (OpR.wp (OpR.of_ok hthis) fun v W' ⟨hb, hv⟩ => ih s _ _ W' (by rw [Array.size_setIfInBounds]; exact hs) (hS.next hi) hu' (hnotin hc) (hGst s _ _ hG hb) (stand E.length v W' hD.1 (Kept.of_below hb) hv))
    | true =>
      rw [hc] at hthis
      obtain ⟨k, hk, hki⟩ : ∃ k, k < E.length ∧ E.getD k 0 = i := by
        obtain ⟨k, hk, h1⟩ := List.mem_iff_getElem.1 (List.contains_iff_mem.1 hc)
        exact ⟨k, hk, by rw [List.getD_eq_getElem?_getD, List.getElem?_eq_getElem hk]; exact h1⟩
      -- it is the next one
      have hks : k = s := by
        have h1 := hD.2 k hk
        rw [hki, hunf] at h1
        have h2 : ¬ k < s := by simpa using h1.symm
        rcases Nat.lt_or_ge s k with h3 | h3
        · exfalso
          have h4 := (hE s (by omega)).2 k hk h3
          have h5 := hclo _ (by rw [← hki]; exact h4.2)
          rw [hD.2 s (by omega)] at h5
          simp at h5
        · omega
      subst hks
      refine .inl (OpR.wp hthis fun v W' ⟨hkp, hG', hv⟩ => ih (k + 1) _ _ W' (by rw [Array.size_setIfInBounds]; exact hs) (hS.next hi) hu' ⟨hk, fun j hj => ?_⟩ hG' (stand k v W' (Nat.le_refl _) hkp hv))
      by_cases e : j = k
      · subst e
        rw [hki, Array.getD_eq_getD_getElem?, Array.getElem?_setIfInBounds_self_of_lt (by omega)]
        simp
      · have hne : i ≠ E.getD j 0 := by
          rw [← hki]
          rcases Nat.lt_or_ge j k with h1 | h1
          · have := ((hE j hj).2 k hk h1).1; omega
          · have := ((hE k hk).2 j hj (by omega)).1; omega
        rw [getD_set_ne false hne, hD.2 j hj]
        by_cases h1 : j < k
        · simp [h1, Nat.lt_succ_of_lt h1]
        · simp [h1]; omega
theorem wp_region_st {P : Program} {id : Nat} {Q : Exit → Act → World → Prop} {a0 : Act} {w : World} {l : List Oper} (m : Nat) (E ds : List Nat) (Φ : Nat → Value → World → Prop) (G : Nat → World → Prop) (Tk : Nat → Nat → Prop) (T : Nat → Prop) (hm : P.follows .mixedOrders = true) (hB : stB E m l = true) (hds : slotsOf l.length l = ds) (hsz : a0.tmps.size = m) (hTT : ∀ k b, Tk k b → T b)
    (hst : ∀ k i v W W', (E.drop k).contains i = false → Φ i v W → Kept (Tk k) W W' → Φ i v W') (hGst : ∀ s W W', G s W → Below W.heap.size W W' → G s W') (h0 : G 0 w.drew)
    (hg : ∀ (i : Nat) (o : Oper) g b, l[i]? = some o → o.guard = some (g, b) → ∀ v W, Φ g v W → v = .bool b ∨ (v = .bool (!b) ∧ (∀ W', Φ i undef W') ∧ E.contains i = false))
    (hop : EachSt P E l Φ G Tk T a0 w l 0)
    (hend : ∀ (X : Nat → Value) W, G E.length W → Kept T w W → (∀ i d, i < l.length → slotOf l i = some d → Φ i (X d) W) → Q .normal { tmps := putAll (ds.map fun d => (d, X d)) a0.tmps, defers := a0.defers } W) :
    (Code.region id l.toArray true).wp P Q a0 w := by
  subst hds
  refine wp_region_any hm (any_st (m := m) hB (Φ := Φ) (G := G) (Tk := Tk) (T := T) (a0 := a0) (w := w) hsz hTT hst hGst hg hop ?_ _ 0 _ _ _ (by simp) ?_ ?_ ⟨Nat.zero_le _, fun k hk => ?_⟩ h0 ⟨⟨rfl, rfl, rfl, Nat.le_refl _, fun _ _ _ => rfl⟩, rfl, rfl, fun _ _ => rfl, ?_⟩)
  · intro a W hG hSt
    rw [frame_of (a0 := a0) (n := l.length) (l := l) (by rw [hSt.size]) hSt.defers (fun k hk => hSt.old k (outB'_of hk))]
    exact hend (fun d => a.tmps.getD d undef) W hG hSt.kept (fun i d hi hd => hSt.new i d hi (by simp [hi]) hd)
  · intro i o' _ hl
    rw [Array.getD_eq_getD_getElem?, Array.getElem?_replicate] at hl
    split at hl <;> cases hl
  · unfold unl
    have := List.countP_le_length (p := fun i => !((Array.replicate l.toArray.size false).getD i true)) (l := List.range l.length)
    simpa using this
  · rw [Array.getD_eq_getD_getElem?, Array.getElem?_replicate]
    split <;> simp
  · intro i d hi hl _
    rw [Array.getD_eq_getD_getElem?, Array.getElem?_replicate] at hl
    split at hl <;> cases hl
theorem wpIn_region_st {P : Program} {id : Nat} {Q : Exit → Act → World → Prop} {a0 : Act} {w : World} {l : List Oper} (m : Nat) (E ds : List Nat) (Φ : Nat → Value → World → Prop) (G : Nat → World → Prop) (Tk : Nat → Nat → Prop) (T : Nat → Prop) (hm : P.follows .mixedOrders = true) (hB : stB E m l = true) (hds : slotsOf l.length l = ds) (hsz : a0.tmps.size = m) (hTT : ∀ k b, Tk k b → T b)
    (hst : ∀ k i v W W', (E.drop k).contains i = false → Φ i v W → Kept (Tk k) W W' → Φ i v W') (hGst : ∀ s W W', G s W → Below W.heap.size W W' → G s W') (h0 : G 0 w.drew)
    (hg : ∀ (i : Nat) (o : Oper) g b, l[i]? = some o → o.guard = some (g, b) → ∀ v W, Φ g v W → v = .bool b ∨ (v = .bool (!b) ∧ (∀ W', Φ i undef W') ∧ E.contains i = false))
    (hop : EachSt P E l Φ G Tk T a0 w l 0)
    (hend : ∀ (X : Nat → Value) W, G E.length W → Kept T w W → (∀ i d, i < l.length → slotOf l i = some d → Φ i (X d) W) → Q .normal { tmps := putAll (ds.map fun d => (d, X d)) a0.tmps, defers := a0.defers } W) :
    (Code.region id l.toArray true).wpIn Fence.wide 0 P Q a0 w :=
  wpIn_wide.2 (wp_region_st m E ds Φ G Tk T hm hB hds hsz hTT hst hGst h0 hg hop hend)

theorem wpIn_region_st_round {P : Program} {id : Nat} {Q : Exit → Act → World → Prop} {r : Nat} {a0 : Act} {w : World} {l : List Oper} (m : Nat) (E ds : List Nat) (Φ : Nat → Value → World → Prop) (G : Nat → World → Prop) (Tk : Nat → Nat → Prop) (T : Nat → Prop) (hnd : noDefer l.toArray = true) (hm : P.follows .mixedOrders = true) (hB : stB E m l = true) (hds : slotsOf l.length l = ds) (hsz : a0.tmps.size = m) (hTT : ∀ k b, Tk k b → T b)
    (hst : ∀ k i v W W', (E.drop k).contains i = false → Φ i v W → Kept (Tk k) W W' → Φ i v W') (hGst : ∀ s W W', G s W → Below W.heap.size W W' → G s W') (h0 : G 0 w.drew)
    (hg : ∀ (i : Nat) (o : Oper) g b, l[i]? = some o → o.guard = some (g, b) → ∀ v W, Φ g v W → v = .bool b ∨ (v = .bool (!b) ∧ (∀ W', Φ i undef W') ∧ E.contains i = false))
    (hop : EachSt P E l Φ G Tk T a0 w l 0)
    (hend : ∀ (X : Nat → Value) W, G E.length W → Kept T w W → (∀ i d, i < l.length → slotOf l i = some d → Φ i (X d) W) → Q .normal { tmps := putAll (ds.map fun d => (d, X d)) a0.tmps, defers := a0.defers } W) :
    (Code.region id l.toArray true).wpIn (Fence.wide.inRound r) 0 P Q a0 w := by
  subst hds
  refine wpIn_region_any hm (roundAny_of_any (R := fun a w => Q .normal a w) hnd (fun _ _ h => h) _ _ _ _ (any_st (m := m) hB (Φ := Φ) (G := G) (Tk := Tk) (T := T) (a0 := a0) (w := w) hsz hTT hst hGst hg hop ?_ _ 0 _ _ _ (by simp) ?_ ?_ ⟨Nat.zero_le _, fun k hk => ?_⟩ h0 ⟨⟨rfl, rfl, rfl, Nat.le_refl _, fun _ _ _ => rfl⟩, rfl, rfl, fun _ _ => rfl, ?_⟩))
  · intro a W hG hSt
    refine ⟨rfl, ?_⟩
    rw [frame_of (a0 := a0) (n := l.length) (l := l) (by rw [hSt.size]) hSt.defers (fun k hk => hSt.old k (outB'_of hk))]
    exact hend (fun d => a.tmps.getD d undef) W hG hSt.kept (fun i d hi hd => hSt.new i d hi (by simp [hi]) hd)
  · intro i o' _ hl
    rw [Array.getD_eq_getD_getElem?, Array.getElem?_replicate] at hl
    split at hl <;> cases hl
  · unfold unl
    have := List.countP_le_length (p := fun i => !((Array.replicate l.toArray.size false).getD i true)) (l := List.range l.length)
    simpa using this
  · rw [Array.getD_eq_getD_getElem?, Array.getElem?_replicate]
    split <;> simp
  · intro i d hi hl _
    rw [Array.getD_eq_getD_getElem?, Array.getElem?_replicate] at hl
    split at hl <;> cases hl
/-! One operation of a plain region, by what it comes to. -/
theorem wpList_step {P : Program} {ops : Array Oper} {rest : List Oper} {o : Oper} {a : Act} {w : World} {Q : Exit → Act → World → Prop} {Ψ : Value → World → Prop} (hg : o.guard = none) (h : OpR P o a w Ψ)
    (hK : ∀ v W', Ψ v W' → wpList P ops Q rest (a.put o.dst v) W') : wpList P ops Q (o :: rest) a w :=
  wpList_plain hg fun K hK' => OpR.wp h fun v W' hv => hK' _ _ (hK v W' hv)
theorem wideOper_of_wp {P : Program} {o : Oper} {a : Act} {K : Act → World → Prop} {Q' : Exit → Act → World → Prop} {R : Act → World → Prop} {w : World} (hnd : ∀ c, o.op ≠ .defer c)
    (hh : o.wp P a w K (onlyN R)) : o.wpIn Fence.wide 0 P a w K Q' := by
  refine ⟨fun _ _ => trivial, ?_⟩
  rw [Oper.semAt_plain _ _ _ hnd]
  unfold Oper.wp at hh
  generalize (execOp a.eval o).run P w = r at *
  cases r with
  | ok n w' =>
    cases n <;> simp only [Oper.upon] at hh
    case value u => exact hh
    case skip => exact hh
    case defer d => exact hh
    case row row args => exact ⟨fun hd => (by cases hd), (show RowsIn Fence.wide _ _ _ _ _ _ from fun c cs _ => let ⟨v, w', r, s⟩ := hh c cs; ⟨v, w', r, stepsIn_wide.2 s⟩)⟩
    case enter f args =>
      exact ⟨fun hd => (by cases hd), (callsIn_wide.2 (hh.mono fun e w'' he => by
        cases e with
        | returned v => exact he
        | panicked c => exact absurd he.1 (by simp)
        | outgrown => exact (onlyN_out he).elim))⟩
  | halt x w' =>
    cases x <;> simp only [Oper.upon] at hh
    exact absurd hh.1 (by simp)
theorem wpListIn_step {P : Program} {ops : Array Oper} {rest : List Oper} {o : Oper} {a : Act} {w : World} {Q : Exit → Act → World → Prop} {Ψ : Value → World → Prop} (hg : o.guard = none) (hnd : ∀ c, o.op ≠ .defer c) (h : OpR P o a w Ψ)
    (hK : ∀ v W', Ψ v W' → wpListIn Fence.wide 0 P ops Q rest (a.put o.dst v) W') : wpListIn Fence.wide 0 P ops Q (o :: rest) a w :=
  wpListIn_plain hg fun K hK' => wideOper_of_wp (R := K) hnd (OpR.wp h fun v W' hv => hK' _ _ (hK v W' hv))
theorem wpListIn_step_round {P : Program} {ops : Array Oper} {rest : List Oper} {o : Oper} {a : Act} {w : World} {l : Nat} {Q : Exit → Act → World → Prop} {Ψ : Value → World → Prop} (hg : o.guard = none) (hnd : ∀ c, o.op ≠ .defer c) (h : OpR P o a w Ψ)
    (hK : ∀ v W', Ψ v W' → wpListIn (Fence.wide.inRound l) 0 P ops Q rest (a.put o.dst v) W') : wpListIn (Fence.wide.inRound l) 0 P ops Q (o :: rest) a w :=
  wpListIn_plain hg fun K hK' => roundOper_of_wp (R := K) hnd (fun _ _ h => h) (OpR.wp h fun v W' hv => hK' _ _ (hK v W' hv))
theorem no_guards {l : List Oper} {E : List Nat} {Φ : Nat → Value → World → Prop} (h : l.all (fun o => o.guard.isNone) = true) : ∀ (i : Nat) (o : Oper) g b, l[i]? = some o → o.guard = some (g, b) → ∀ v W, Φ g v W → v = .bool b ∨ (v = .bool (!b) ∧ (∀ W', Φ i undef W') ∧ E.contains i = false) := by
  intro i o g b ho hg
  have := List.all_eq_true.1 h o (List.mem_of_getElem? ho)
  rw [hg] at this
  cases this
theorem guards_on {l : List Oper} {E : List Nat} {Φ : Nat → Value → World → Prop} (gs : List (Nat × Bool)) (hgs : guardsOf l.length l = gs)
    (h : ∀ p ∈ gs, ∀ v W, Φ p.1 v W → v = .bool p.2 ∨ (v = .bool (!p.2) ∧ ∀ (i : Nat) (o : Oper), l[i]? = some o → o.guard = some p → (∀ W', Φ i undef W') ∧ E.contains i = false)) :
    ∀ (i : Nat) (o : Oper) g b, l[i]? = some o → o.guard = some (g, b) → ∀ v W, Φ g v W → v = .bool b ∨ (v = .bool (!b) ∧ (∀ W', Φ i undef W') ∧ E.contains i = false) := by
  intro i o g b ho hg v W hv
  refine (h (g, b) ?_ v W hv).imp id fun h2 => ⟨h2.1, h2.2 i o ho hg⟩
  rw [← hgs]
  unfold guardsOf
  rw [List.mem_eraseDups, List.mem_filterMap]
  exact ⟨o, by rw [List.take_length]; exact List.mem_of_getElem? ho, hg⟩
theorem skip_ok {l : List Oper} {E : List Nat} {Φ : Nat → Value → World → Prop} {p : Nat × Bool} (is : List Nat) (his : (List.range l.length).filter (fun i => decide (((l[i]?).bind (·.guard)) = some p)) = is) (hE : is.all (fun i => !E.contains i) = true) (h : ∀ i ∈ is, ∀ W', Φ i undef W') :
    ∀ (i : Nat) (o : Oper), l[i]? = some o → o.guard = some p → (∀ W', Φ i undef W') ∧ E.contains i = false := by
  intro i o ho hg
  have hi : i ∈ is := by
    rw [← his, List.mem_filter]
    exact ⟨List.mem_range.2 (List.getElem?_eq_some_iff.1 ho).1, by rw [ho]; simp [hg]⟩
  exact ⟨h i hi, by have := List.all_eq_true.1 hE i hi; simpa using this⟩
/-! What may stand in a slot, what holds at a stage, what a write turns. -/
def gOf (L : List (World → Prop)) (s : Nat) (W : World) : Prop := L.getD s (fun _ => True) W
def tOf (L : List (Nat → Prop)) (k b : Nat) : Prop := L.getD k (fun _ => False) b
theorem gOf_stays {L : List (World → Prop)} (h : ∀ p ∈ L, ∀ W W', p W → Below W.heap.size W W' → p W') : ∀ s W W', gOf L s W → Below W.heap.size W W' → gOf L s W' := by
  intro s W W' hp hb
  unfold gOf at *
  rw [List.getD_eq_getElem?_getD] at *
  rcases Nat.lt_or_ge s L.length with h1 | h1
  · rw [List.getElem?_eq_getElem h1] at hp ⊢
    exact h _ (List.getElem_mem h1) W W' hp hb
  · rw [List.getElem?_eq_none h1]; trivial
theorem tOf_in {L : List (Nat → Prop)} {T : Nat → Prop} (h : ∀ p ∈ L, ∀ b, p b → T b) : ∀ k b, tOf L k b → T b := by
  intro k b hp
  unfold tOf at hp
  rw [List.getD_eq_getElem?_getD] at hp
  rcases Nat.lt_or_ge k L.length with h1 | h1
  · rw [List.getElem?_eq_getElem h1] at hp
    exact h _ (List.getElem_mem h1) b hp
  · rw [List.getElem?_eq_none h1] at hp; exact hp.elim
/-- Each of them stays, whatever is laid and whatever the writes ahead of it turn. -/
def StList (E : List Nat) (Tk : Nat → Nat → Prop) : List (Value → World → Prop) → Nat → Prop
  | [], _ => True
  | φ :: r, i => (∀ k v W W', (E.drop k).contains i = false → φ v W → Kept (Tk k) W W' → φ v W') ∧ StList E Tk r (i + 1)
theorem StList.get {E : List Nat} {Tk : Nat → Nat → Prop} : ∀ {L : List (Value → World → Prop)} {n : Nat}, StList E Tk L n → ∀ i φ, L[i]? = some φ → ∀ k v W W', (E.drop k).contains (n + i) = false → φ v W → Kept (Tk k) W W' → φ v W'
  | [], _, _, i, φ, h => by simp at h
  | ψ :: r, n, h, 0, φ, ho => by simp at ho; subst ho; exact h.1
  | ψ :: r, n, h, i + 1, φ, ho => by
    have := StList.get h.2 i φ (by simpa using ho)
    rw [show n + (i + 1) = n + 1 + i by omega]; exact this
theorem phi_st {E : List Nat} {Tk : Nat → Nat → Prop} {L : List (Value → World → Prop)} (h : StList E Tk L 0) : ∀ k i v W W', (E.drop k).contains i = false → phiOf L i v W → Kept (Tk k) W W' → phiOf L i v W' := by
  intro k i v W W' hc hp hk
  unfold phiOf at *
  rw [List.getD_eq_getElem?_getD] at *
  cases hL : L[i]? with
  | none => trivial
  | some φ =>
    rw [hL] at hp
    exact h.get i φ hL k v W W' (by rw [Nat.zero_add]; exact hc) hp hk
theorem stq (c : Value) (E : List Nat) (Tk : Nat → Nat → Prop) (i : Nat) : ∀ k v W W', (E.drop k).contains i = false → QV c v W → Kept (Tk k) W W' → QV c v W' := fun _ _ _ _ _ h _ => h

/-! Single operations. -/
theorem opR_append {P : Program} {o : Oper} {a : Act} {w : World} {Ψ : Value → World → Prop} (s x : Operand) (t : TypeId)
    (ho : o.op = .call { callee := .builtin .append, args := #[s, x], argTypes := #[t, t] })
    (base : Nat) (e : TypeId) (size bytes : Nat) (ht : P.underlying t = some (.slice e)) (hi : (P.info? e).map (fun i => (i.zero.map fun z => z.cells.size, i.size, i.bytes)) = some (some size, size, bytes)) (hsz : 0 < size)
    (v : Value) (n : Nat) (xs : List Value) (hs : a.eval s = v) (hown : w.ownsRow base e size v n xs)
    (ad : Addr) (m c : Nat) (news : List Value) (hx : a.eval x = .slice (some ad) m c) (hl : news.length = m * size) (hnews : ∀ j u, news[j]? = some u → w.cell? (ad.add j) = some u) (h1 : ∀ u ∈ news, u.oneCell' = true)
    (h63 : n + m ≤ maxLen) (hbytes : (n + m) * bytes ≤ 140737488355328) (hbase : base ≤ w.heap.size)
    (h : ∀ v' w', w'.ownsRow base e size v' (n + m) (xs ++ news) → w.grownBy w' v.ownBlock → (v'.ownBlock = v.ownBlock ∨ v'.ownBlock = some w.heap.size) → Ψ v' w') : OpR P o a w Ψ := by
  cases hq : P.info? e with
  | none => rw [hq] at hi; cases hi
  | some i =>
    rw [hq] at hi
    simp only [Option.map_some, Option.some.injEq, Prod.mk.injEq] at hi
    obtain ⟨hz, hs1, hb1⟩ := hi
    cases hzz : i.zero with
    | none => rw [hzz] at hz; cases hz
    | some z =>
      rw [hzz] at hz
      have hz' : z.cells.size = size := by simpa using hz
      obtain ⟨v', w', hr, h2, h3, _, h5⟩ := run_append_own_at (P := P) w base t o.type e i z size bytes ht hq hzz hs1 hb1 hz' hsz v n xs hown ad m c news hl hnews h1 h63 hbytes hbase
      unfold OpR execOp
      simp only [ho, resolve, invoke, builtin, Sem.run_bind, Sem.run_pure, Result.andThen_ok, List.map_toArray, List.map_cons, List.map_nil, hs, hx, hr]
      exact h v' w' h2 h3 h5
theorem opR_store {P : Program} {o : Oper} {a : Act} {w : World} {Ψ : Value → World → Prop} (ty : TypeId) (x y : Operand) (ho : o.op = .store ty x y) (b off : Nat) (v : Value) (hx : a.eval x = .pointer (some ⟨b, off, none⟩)) (hy : a.eval y = v)
    (hv : v.oneCell' = true) (hi : (P.info? ty).map (·.size) = some 1) (hc : (w.cell? ⟨b, off, none⟩).isSome = true) (hf : w.frozen? ⟨b, off, none⟩ = false) (h : Ψ undef (w.setCell ⟨b, off, none⟩ v)) : OpR P o a w Ψ := by
  obtain ⟨ad, had⟩ : ∃ ad : Addr, ad = ⟨b, off, none⟩ := ⟨_, rfl⟩
  have ha0 : ad.add 0 = ad := by rw [had, Addr.add_mid]; rfl
  rw [← had] at hx hc hf h
  obtain ⟨u, hu⟩ := Option.isSome_iff_exists.1 hc
  have hst : (store ad v).run P w = .ok () (w.setCell ad v) := by
    rw [run_store P w ad v _ hv]
    simp [stored, hu, hf]
  cases hq : P.info? ty with
  | none => rw [hq] at hi; cases hi
  | some i =>
    have hs : i.size = 1 := by simpa [hq] using hi
    have hcs : v.cells = #[v] := by cases v <;> first | rfl | (simp [Value.oneCell'] at hv)
    have hr : (storeVar ty ad v).run P w = .ok () (w.setCell ad v) := by
      simp [storeVar, sizeOf, typeInfo, hq, hs, hcs, storeCells, hst, ha0]
    unfold OpR execOp
    simp only [ho, hx, hy, Instr.storeAt, Instr.sureAddr, Sem.run_bind, Sem.run_pure, Result.andThen_ok, hr]
    exact h
theorem opR_mapUpdate {H : Type} {P : Program} {o : Oper} {a : Act} {w : World} {Ψ : Value → World → Prop} (m x v : Operand) (t : TypeId) (hop : o.op = Op.mapUpdate t m x v)
    (k e : TypeId) (K : Keyed P k) (ht : P.underlying t = some (.map k e)) (R : Value → Option (DataW H × List MemPlace)) (b n : Nat) (D : DataW H)
    (hm : a.eval m = .map (some b)) (hown : w.ownsMap P k R b n D) (hn : n < maxLen) (key val : Value) (kl : Lit) (hx : a.eval x = key) (hv : a.eval v = val) (hkey : keyOf P k key = some kl)
    (d : DataW H) (ps : List MemPlace) (hval : R val = some (d, ps))
    (h : ∀ w', w'.ownsMap P k R b (n + 1) (D.put kl d) → w.grownBy w' (some b) → Ψ undef w') : OpR P o a w Ψ := by
  obtain ⟨w', hrun, r1, r2⟩ := hown.update K ht hn hkey hval
  unfold OpR execOp
  simp only [hop, hm, hx, hv, Sem.run_bind, Sem.run_pure, Result.andThen_ok, hrun]
  exact h w' r1 r2
theorem opR_copy {P : Program} {o : Oper} {a : Act} {w : World} {Ψ : Value → World → Prop} (d s : Operand) (dT sT elem : TypeId) (ho : o.op = .call { callee := .builtin .copy, args := #[d, s], argTypes := #[dT, sT] })
    (b off dLen dCap : Nat) (ad : Addr) (sLen sCap : Nat) (cs : List Value) (hd : a.eval d = .slice (some ⟨b, off, none⟩) dLen dCap) (hs : a.eval s = .slice (some ad) sLen sCap)
    (hu : P.underlying dT = some (.slice elem)) (hi : (P.info? elem).map (·.size) = some 1) (hn : cs.length = Nat.min sLen dLen)
    (hsrc : ∀ j v, cs[j]? = some v → w.cell? (ad.add j) = some v) (hc : ∀ j, j < cs.length → (w.cell? ⟨b, off + j, none⟩).isSome = true) (hf : ∀ j, j < cs.length → w.frozen? ⟨b, off + j, none⟩ = false) (h1 : ∀ v ∈ cs, v.oneCell' = true)
    (h : Ψ (goInt cs.length) (w.setCells b off cs)) : OpR P o a w Ψ := by
  have hr := run_copy_cells (P := P) w dT sT o.type elem b off dLen dCap ad sLen sCap cs hu hi hn hsrc hc hf h1
  unfold OpR execOp
  simp only [ho, resolve, invoke, builtin, Sem.run_bind, Sem.run_pure, Result.andThen_ok, List.map_toArray, List.map_cons, List.map_nil, hd, hs, hr]
  exact h
theorem opOk_load_mid {P : Program} {o : Oper} {a : Act} {W : World} {Ψ : Value → World → Prop} (ty : TypeId) (x : Operand) (ho : o.op = .load ty x) (b off : Nat) (hx : a.eval x = .pointer (some ⟨b, off, none⟩)) (cs : List Value) (d : TypeDesc) (hc : W.rangeAt b off cs)
    (hu : P.underlying ty = some d) (hd : d.isRow = true) (hi : (P.info? ty).map (·.size) = some cs.length) (h : Ψ (.agg cs.toArray) W) : OpOk P o a W Ψ := by
  unfold OpOk execOp
  simp only [ho, hx, Instr.loadAt, Instr.sureAddr, Sem.run_bind, Sem.run_pure, Result.andThen_ok, run_loadVar_mid (P := P) W b off ty cs d hc hu hd hi]
  exact ⟨Below.refl _ _, h⟩
theorem opOk_build {P : Program} {o : Oper} {a : Act} {W : World} {Ψ : Value → World → Prop} (t : TypeId) (parts : Array (Nat × Operand)) (ho : o.op = .build t parts) (vals : Array (Nat × Value)) (hv : (parts.map fun (i, x) => (i, a.eval x)) = vals) (cells : Array Value)
    (hr : (Instr.build t vals).run P W = .ok (.agg cells) W) (h : Ψ (.agg cells) W) : OpOk P o a W Ψ := by
  unfold OpOk execOp
  simp only [ho, hv, Sem.run_bind, Sem.run_pure, Result.andThen_ok, hr]
  exact ⟨Below.refl _ _, h⟩
theorem wpList_build_run {P : Program} {ops : Array Oper} {rest : List Oper} {o : Oper} {a : Act} {w : World} {Q : Exit → Act → World → Prop} (hg : o.guard = none) (t : TypeId) (parts : Array (Nat × Operand)) (ho : o.op = .build t parts) (vals : Array (Nat × Value)) (hv : (parts.map fun (i, x) => (i, a.eval x)) = vals) (cells : Array Value)
    (hr : (Instr.build t vals).run P w = .ok (.agg cells) w) (h : wpList P ops Q rest (a.put o.dst (.agg cells)) w) : wpList P ops Q (o :: rest) a w := by
  refine wpList_plain hg fun K hK => ?_
  unfold Oper.wp execOp
  simp only [ho, hv, Sem.run_bind, Sem.run_pure, Result.andThen_ok, hr]
  exact hK _ _ h
theorem opOk_buildSlice {P : Program} {o : Oper} {a : Act} {W : World} {Ψ : Value → World → Prop} (t e : TypeId) (n : Nat) (parts : Array (Nat × Operand)) (ho : o.op = .buildSlice t n parts) (vals : Array (Nat × Value)) (hv : (parts.map fun (i, x) => (i, a.eval x)) = vals) (cells : Array Value)
    (hr : (Instr.buildSlice t n vals).run P W = .ok (.slice (some ⟨W.heap.size, 0, none⟩) n n) (W.alloc (.cells cells e))) (h : Ψ (.slice (some ⟨W.heap.size, 0, none⟩) n n) (W.alloc (.cells cells e))) : OpOk P o a W Ψ := by
  unfold OpOk execOp
  simp only [ho, hv, Sem.run_bind, Sem.run_pure, Result.andThen_ok, hr]
  exact ⟨below_al (Below.refl _ _) _, h⟩
theorem opR_store_mid {P : Program} {o : Oper} {a : Act} {w : World} {Ψ : Value → World → Prop} (ty : TypeId) (x y : Operand) (ho : o.op = .store ty x y) (b off : Nat) (cells : Array Value) (hx : a.eval x = .pointer (some ⟨b, off, none⟩)) (hy : a.eval y = .agg cells)
    (ht : w.there b off cells.size) (hi : (P.info? ty).map (·.size) = some cells.size) (h1 : cells.all (·.oneCell') = true) (h : Ψ undef (w.setCells b off cells.toList)) : OpR P o a w Ψ := by
  unfold OpR execOp
  simp only [ho, hx, hy, Instr.storeAt, Instr.sureAddr, Sem.run_bind, Sem.run_pure, Result.andThen_ok, run_storeVar_mid (P := P) w b off ty cells ht hi h1]
  exact h

/-! Loops: what is known of a round's outset is a state s and a world; the frame is fr s f, f whatever the other slots hold. -/
theorem wp_loop_f {P : Program} {Q : Exit → Act → World → Prop} {a : Act} {w : World} {c : Code} {σ : Type} (fr : σ → (Nat → Value) → Array Value) (I : σ → World → Prop) (μ : σ → Nat) (s0 : σ) (D : List Deferred) (hD : a.defers = D)
    (ha : a.tmps = fr s0 fun k => a.tmps.getD k undef) (h0 : I s0 w)
    (hr : ∀ s f W, I s W → ∀ K : Act → World → Prop, (∀ s' (t : Array Value) W', t = (fr s' fun k => t.getD k undef) → μ s' < μ s → I s' W' → K { tmps := t, defers := D } W') → c.wp P (Exit.then K Q) { tmps := fr s f, defers := D } W) :
    (Code.loop c).wp P Q a w := by
  subst hD
  refine wp_loop_ghost (fun n a' W => ∃ s f, μ s = n ∧ a' = { tmps := fr s f, defers := a.defers } ∧ I s W) (μ s0) ⟨s0, fun k => a.tmps.getD k undef, rfl, by rw [← ha], h0⟩ ?_
  rintro n a' W ⟨s, f, rfl, rfl, hI⟩
  exact hr s f W hI _ fun s' t W' ht hlt hI' => ⟨μ s', hlt, s', _, rfl, by rw [← ht], hI'⟩
theorem wpIn_loop_f {F : Fence} {n : Nat} {P : Program} {Q : Exit → Act → World → Prop} {a : Act} {w : World} {c : Code} {σ : Type} (fr : σ → (Nat → Value) → Array Value) (I : σ → World → Prop) (μ : σ → Nat) (s0 : σ) (D : List Deferred) (hD : a.defers = D)
    (ha : a.tmps = fr s0 fun k => a.tmps.getD k undef) (h0 : I s0 w)
    (hr : ∀ s f W, I s W → ∀ K : Act → World → Prop, (∀ s' (t : Array Value) W', t = (fr s' fun k => t.getD k undef) → μ s' < μ s → I s' W' → K { tmps := t, defers := D } W') → c.wpIn F n P (Exit.then K Q) { tmps := fr s f, defers := D } W) :
    (Code.loop c).wpIn F n P Q a w := by
  subst hD
  refine wpIn_loop (fun a' W => ∃ m, ∃ s f, μ s = m ∧ a' = { tmps := fr s f, defers := a.defers } ∧ I s W) (fun a' W => leastOf fun m => ∃ s f, μ s = m ∧ a' = { tmps := fr s f, defers := a.defers } ∧ I s W) ⟨μ s0, s0, fun k => a.tmps.getD k undef, rfl, by rw [← ha], h0⟩ ?_
  intro a' W hI
  obtain ⟨s, f, hm, ha', hIs⟩ := (leastOf_spec hI).1
  have hm' : leastOf (fun m => ∃ s f, μ s = m ∧ a' = { tmps := fr s f, defers := a.defers } ∧ I s W) = μ s := hm.symm
  simp only [hm']
  subst ha'
  exact hr s f W hIs _ fun s' t W' ht hlt hI' => ⟨⟨μ s', s', _, rfl, by rw [← ht], hI'⟩, Nat.lt_of_le_of_lt ((leastOf_spec ⟨μ s', s', _, rfl, by rw [← ht], hI'⟩).2 (μ s') ⟨s', _, rfl, by rw [← ht], hI'⟩) hlt⟩
/-- A region that stands in a function's body. -/
def findRegion (n : Nat) : Code → Code
  | .region i b c => if i = n then .region i b c else .skip
  | .block i b => findRegion n b
  | .seq a b => match findRegion n a with
    | .skip => findRegion n b
    | c => c
  | .cond _ a b => match findRegion n a with
    | .skip => findRegion n b
    | c => c
  | .loop b => findRegion n b
  | .scope b => findRegion n b
  | .rangeFunc _ _ a b => match findRegion n a with
    | .skip => findRegion n b
    | c => c
  | _ => .skip
def fragR (f : Func) (n : Nat) : Code := findRegion n (f.body.getD .skip)
end Go.Proofs.Ytaofpeajfgcjcaa
