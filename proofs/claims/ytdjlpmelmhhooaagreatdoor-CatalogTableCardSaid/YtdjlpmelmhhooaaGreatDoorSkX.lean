/- Laws over whatever program: a region that draws its order, some of whose operations are passed over (their guards say no). -/
import Derived.Test.YtdjlpmelmhhooaaGreatDoorWkX
namespace Go.Proofs.YtdjlpmelmhhooaaGreatDoor
open Go Go.RowKit
set_option linter.unusedSimpArgs false
set_option linter.unusedVariables false
theorem any_slotsS {P : Program} {n : Nat} {l : List Oper} (hW : TWaits n l.toArray) (hA : slotsApart n l = true) {Φ : Nat → Value → World → Prop} {Q' : Exit → Act → World → Prop} {a0 : Act} {w : World}
    (hst : ∀ i v W W', i < n → Φ i v W → Below W.heap.size W W' → Φ i v W') (hdst : ∀ i d, i < n → slotOf l i = some d → d < a0.tmps.size)
    (hguard : ∀ (i : Nat) (o : Oper) g b, i < n → l[i]? = some o → o.guard = some (g, b) → (∃ d, slotOf l g = some d) ∧ (∃ e ∈ o.after, Region.binds .any e = true ∧ e.on = g) ∧ ∀ v W, Φ g v W → v = .bool b ∨ (v = .bool (!b) ∧ ∀ v' W', Φ i v' W'))
    (hop : ∀ (i : Nat) (o : Oper), i < n → l[i]? = some o → ∀ (a : Act) (W : World), Below w.heap.size w W → a.defers = a0.defers → (∀ k, (∀ i, i < n → slotOf l i ≠ some k) → a.tmps.getD k undef = a0.tmps.getD k undef) →
      (∀ j d, (∃ e ∈ o.after, Region.binds .any e = true ∧ e.on = j) → slotOf l j = some d → Φ j (a.tmps.getD d undef) W) → (∀ g b, o.guard = some (g, b) → ∀ d, slotOf l g = some d → a.tmps.getD d undef = .bool b) → OpOk P o a W (Φ i))
    (hend : ∀ a W, Stand n l Φ a0 w (Array.replicate l.length true) a W → wpList P l.toArray Q' (l.drop n) a W) :
    ∀ (fuel : Nat) (listed : Array Bool) (a : Act) (W : World), listed.size = l.toArray.size → listed.getD n true = false → Shut l.toArray listed → unl l.length listed ≤ fuel → Stand n l Φ a0 w listed a W →
      wpAny P .any l.toArray Q' fuel listed a W := by
  have hnl : n < l.length := by simpa using hW.lt
  have hsome : ∀ (listed : Array Bool), listed.size = l.toArray.size → listed.getD n true = false → Region.ready .any l.toArray listed ≠ [] := by
    intro listed hs hl h0
    obtain ⟨j, hj1, hj2⟩ : ∃ j, listed.getD j true = false ∧ ∀ i, i < j → listed.getD i true = true := by
      have : ∀ d m, m + d = n → (∀ i, i < m → listed.getD i true = true) → ∃ j, listed.getD j true = false ∧ ∀ i, i < j → listed.getD i true = true := by
        intro d
        induction d with
        | zero => intro m hm h; exact ⟨m, by rw [show m = n by omega]; exact hl, h⟩
        | succ d ih =>
          intro m hm h
          cases hx : listed.getD m true with
          | false => exact ⟨m, hx, h⟩
          | true => exact ih (m + 1) (by omega) (fun i hi => by
              by_cases e : i = m
              · rw [e]; exact hx
              · exact h i (by omega))
      exact this n 0 (by omega) (fun i hi => by omega)
    have hjs : j < l.toArray.size := by
      rcases Nat.lt_or_ge j listed.size with h' | h'
      · omega
      · simp [Array.getElem?_eq_none h'] at hj1
    have : j ∈ Region.ready .any l.toArray listed := mem_ready.2 ⟨hj1, l.toArray[j], by simp [hjs], fun e he _ => by
      have hb := hW.back j l.toArray[j] (by simp [hjs]) e he
      have h2 := hj2 e.on hb
      have h3 : e.on < listed.size := by omega
      simp [h3] at h2 ⊢
      exact h2⟩
    rw [h0] at this; cases this
  have hapart : ∀ i j d, i < n → j < n → slotOf l i = some d → slotOf l j = some d → i = j := by
    intro i j d hi hj h1 h2
    unfold slotsApart at hA
    rw [List.all_eq_true] at hA
    have h3 := hA i (List.mem_range.2 hi)
    rw [List.all_eq_true] at h3
    have h4 := h3 j (List.mem_range.2 hj)
    rw [h1, h2] at h4
    simpa using h4
  intro fuel
  induction fuel with
  | zero =>
    intro listed a W hs hl _ hu _
    have := unl_pos (m := l.length) hnl hl
    omega
  | succ fuel ih =>
    intro listed a W hs hl hS hu hSt
    refine ⟨fun h0 => absurd h0 (hsome listed hs hl), fun i hi => ?_⟩
    by_cases e : n ≤ i
    · obtain ⟨rfl, hU⟩ := hW.upto hs hS e hl hi
      have := tail_run2 hW (fuel + 1) i listed a W hu (Nat.le_refl _) (Nat.le_of_lt hnl) hU (hend a W ⟨hSt.bel, hSt.size, hSt.defers, hSt.old, fun j d hj _ hd => hSt.new j d hj (by rw [hU.2 j (by simp; omega)]; simp; exact hj) hd⟩)
      exact this.2 i hi
    · obtain ⟨hun, o, ho, hall⟩ := mem_ready.1 hi
      have hin : i < n := by omega
      have ho' : l[i]? = some o := by simpa using ho
      have hil : i < l.length := (List.getElem?_eq_some_iff.1 ho').1
      have hon : ∀ j, (∃ e ∈ o.after, Region.binds .any e = true ∧ e.on = j) → listed.getD j true = true ∧ j < n := by
        rintro j ⟨x, hx, hb, rfl⟩
        have h1 := hall x hx hb
        have h2 := hW.back i o ho x hx
        have h3 : x.on < listed.size := by rw [hs]; simp; omega
        refine ⟨?_, by omega⟩
        simp [h3] at h1 ⊢
        exact h1
      have hdep : ∀ j d, (∃ e ∈ o.after, Region.binds .any e = true ∧ e.on = j) → slotOf l j = some d → Φ j (a.tmps.getD d undef) W := fun j d hj hd => hSt.new j d (hon j hj).2 (hon j hj).1 hd
      have hskip : (Region.wanted o (yielded l.toArray a.tmps) = true ∧ ∀ g b, o.guard = some (g, b) → ∀ d, slotOf l g = some d → a.tmps.getD d undef = .bool b) ∨ (Region.wanted o (yielded l.toArray a.tmps) = false ∧ ∀ v' W', Φ i v' W') := by
        unfold Region.wanted
        cases hg : o.guard with
        | none => exact .inl ⟨rfl, fun g b h => by cases h⟩
        | some gb =>
          obtain ⟨g, b⟩ := gb
          obtain ⟨⟨d, hd⟩, he, hv⟩ := hguard i o g b hin ho' hg
          have h1 := hv _ _ (hdep g d he hd)
          have hgn := (hon g he).2
          have hy : ∀ c, a.tmps.getD d undef = .bool c → yielded l.toArray a.tmps g = some c := by
            intro c h1
            unfold yielded
            have h3 : (l.toArray[g]?).bind (·.dst) = some d := by simpa [slotOf] using hd
            rw [h3]
            have h4 : d < a.tmps.size := by rw [hSt.size]; exact hdst g d hgn hd
            have h5 : a.tmps[d]? = some (.bool c) := by
              rw [Array.getElem?_eq_getElem h4]
              rw [Array.getD_eq_getD_getElem?, Array.getElem?_eq_getElem h4] at h1
              simpa using h1
            simp [h5]
          rcases h1 with h1 | ⟨h1, h2⟩
          · exact .inl ⟨by simp [hy _ h1], fun g2 b2 h d2 hd2 => by cases h; rw [hd] at hd2; cases hd2; exact h1⟩
          · exact .inr ⟨by simp [hy _ h1], h2⟩
      rcases hskip with ⟨hwant, hgv⟩ | ⟨hwant, hfree⟩
      case inr =>
        unfold wpOp
        rw [ho]
        simp only [hwant, Bool.false_eq_true, if_false]
        have hput : ∀ (x : Option Tmp), (a.put x undef).defers = a.defers ∧ (a.put x undef).tmps.size = a.tmps.size := fun x => by cases x <;> simp [Act.put]
        refine ih _ (a.put o.dst undef) W (by rw [Array.size_setIfInBounds]; exact hs) (by rw [getD_set_ne true (by omega)]; exact hl) (hS.next hi) ?_ ⟨hSt.bel, by rw [(hput _).2]; exact hSt.size, by rw [(hput _).1]; exact hSt.defers, ?_, ?_⟩
        · have := unl_set (m := l.length) hil (by simpa using hs) hun
          omega
        · intro k hk
          rw [← hSt.old k hk]
          have hne : o.dst ≠ some k := fun h => hk i hin (by simp [slotOf, ho', h])
          cases hd : o.dst with
          | none => rfl
          | some d =>
            have : d ≠ k := fun h => hne (by rw [hd, h])
            simp [Act.put, Array.getElem?_setIfInBounds_ne this]
        · intro j d hj hl2 hd
          by_cases ej : i = j
          · subst ej
            have hod : o.dst = some d := by simpa [slotOf, ho'] using hd
            have h4 : d < a.tmps.size := by rw [hSt.size]; exact hdst i d hj hd
            have : (a.put o.dst undef).tmps.getD d undef = undef := by rw [hod]; simp [Act.put, h4]
            rw [this]; exact hfree _ _
          · rw [getD_set_ne true ej] at hl2
            have h1 := hSt.new j d hj hl2 hd
            have hne : o.dst ≠ some d := fun h => ej (hapart i j d hin hj (by simp [slotOf, ho', h]) hd)
            have : (a.put o.dst undef).tmps.getD d undef = a.tmps.getD d undef := by
              cases hod : o.dst with
              | none => rfl
              | some x =>
                have hx : x ≠ d := fun h => hne (by rw [hod, h])
                simp [Act.put, Array.getElem?_setIfInBounds_ne hx]
            rw [this]
            exact h1
      unfold wpOp
      rw [ho]
      simp only [hwant, if_true]
      refine .inl (OpOk.wp (hop i o hin ho' a W hSt.bel hSt.defers hSt.old hdep hgv) fun v W' hb hv => ?_)
      have hput : ∀ (x : Option Tmp), (a.put x v).defers = a.defers ∧ (a.put x v).tmps.size = a.tmps.size := fun x => by cases x <;> simp [Act.put]
      refine ih _ _ W' (by rw [Array.size_setIfInBounds]; exact hs) (by rw [getD_set_ne true (by omega)]; exact hl) (hS.next hi) ?_ ⟨below_cat hb hSt.bel, by rw [(hput _).2]; exact hSt.size, by rw [(hput _).1]; exact hSt.defers, ?_, ?_⟩
      · have := unl_set (m := l.length) hil (by simpa using hs) hun
        omega
      · intro k hk
        rw [← hSt.old k hk]
        have hne : o.dst ≠ some k := fun h => hk i hin (by simp [slotOf, ho', h])
        cases hd : o.dst with
        | none => rfl
        | some d =>
          have : d ≠ k := fun h => hne (by rw [hd, h])
          simp [Act.put, Array.getElem?_setIfInBounds_ne this]
      · intro j d hj hl2 hd
        by_cases ej : i = j
        · subst ej
          have hod : o.dst = some d := by simpa [slotOf, ho'] using hd
          have h4 : d < a.tmps.size := by rw [hSt.size]; exact hdst i d hj hd
          have : (a.put o.dst v).tmps.getD d undef = v := by rw [hod]; simp [Act.put, h4]
          rw [this]; exact hv
        · rw [getD_set_ne true ej] at hl2
          have h1 := hSt.new j d hj hl2 hd
          have hne : o.dst ≠ some d := fun h => ej (hapart i j d hin hj (by simp [slotOf, ho', h]) hd)
          have : (a.put o.dst v).tmps.getD d undef = a.tmps.getD d undef := by
            cases hod : o.dst with
            | none => rfl
            | some x =>
              have hx : x ≠ d := fun h => hne (by rw [hod, h])
              simp [Act.put, Array.getElem?_setIfInBounds_ne hx]
          rw [this]
          exact hst j _ _ _ hj h1 hb
/-- Each operation by itself. -/
def EachOpS (P : Program) (n : Nat) (l : List Oper) (Φ : Nat → Value → World → Prop) (a0 : Act) (w : World) : List Oper → Nat → Prop
  | [], _ => True
  | o :: r, i => (∀ (a : Act) (W : World), Below w.heap.size w W → (∀ k, outB' n l k = true → a.tmps.getD k undef = a0.tmps.getD k undef) →
      (∀ j d, depB o j = true → slotOf l j = some d → Φ j (a.tmps.getD d undef) W) → (∀ g b, o.guard = some (g, b) → ∀ d, slotOf l g = some d → a.tmps.getD d undef = .bool b) → OpOk P o a W (Φ i)) ∧ EachOpS P n l Φ a0 w r (i + 1)
theorem EachOpS.get {P : Program} {n : Nat} {l : List Oper} {Φ : Nat → Value → World → Prop} {a0 : Act} {w : World} : ∀ {r : List Oper} {k : Nat}, EachOpS P n l Φ a0 w r k → ∀ (i : Nat) (o : Oper), r[i]? = some o → ∀ (a : Act) (W : World), Below w.heap.size w W →
      (∀ k, outB' n l k = true → a.tmps.getD k undef = a0.tmps.getD k undef) → (∀ j d, depB o j = true → slotOf l j = some d → Φ j (a.tmps.getD d undef) W) → (∀ g b, o.guard = some (g, b) → ∀ d, slotOf l g = some d → a.tmps.getD d undef = .bool b) → OpOk P o a W (Φ (k + i))
  | [], _, _, i, o, h => by simp at h
  | o' :: r, k, h, 0, o, ho => by
    simp at ho; subst ho; exact h.1
  | o' :: r, k, h, i + 1, o, ho => by
    have := EachOpS.get h.2 i o (by simpa using ho)
    rw [show k + (i + 1) = k + 1 + i by omega]; exact this
theorem wp_region_slotsS {P : Program} {id : Nat} {Q : Exit → Act → World → Prop} {a0 : Act} {w : World} {l : List Oper} (n m : Nat) (Φ : Nat → Value → World → Prop) (hm : P.follows .mixedOrders = true) (hWB : tailWaits n l.toArray = true) (hA : slotsApart n l = true)
    (hG : guardsIn n l = true) (hD : dstIn n m l = true) (hsz : a0.tmps.size = m)
    (hst : ∀ i v W W', i < n → Φ i v W → Below W.heap.size W W' → Φ i v W') (hg : ∀ p ∈ guardsOf n l, ∀ v W, Φ p.1 v W → v = .bool p.2 ∨ (v = .bool (!p.2) ∧ ∀ i o, i < n → l[i]? = some o → o.guard = some p → ∀ v' W', Φ i v' W'))
    (hop : EachOpS P n l Φ a0 w (l.take n) 0)
    (hend : ∀ a W, Below w.heap.size w W → a.tmps.size = m → a.defers = a0.defers → (∀ k, outB' n l k = true → a.tmps.getD k undef = a0.tmps.getD k undef) → (∀ i d, i < n → slotOf l i = some d → Φ i (a.tmps.getD d undef) W) → wpList P l.toArray Q (l.drop n) a W) :
    (Code.region id l.toArray true).wp P Q a0 w := by
  have hW := tailWaits_spec hWB
  have hnl : n < l.length := by simpa using hW.lt
  refine wp_region_any hm (any_slotsS hW hA (Φ := Φ) (a0 := a0) (w := w) hst ?_ ?_ ?_ ?_ _ _ _ _ (by simp) ?_ ?_ ?_ ⟨⟨rfl, rfl, rfl, Nat.le_refl _, fun _ _ => rfl⟩, rfl, rfl, fun _ _ => rfl, ?_⟩)
  · intro i d hi hd
    unfold dstIn at hD
    rw [List.all_eq_true] at hD
    have := hD i (List.mem_range.2 hi)
    rw [hd] at this
    rw [hsz]
    simpa using this
  · intro i o g b hi ho hgd
    unfold guardsIn at hG
    rw [List.all_eq_true] at hG
    have := hG i (List.mem_range.2 hi)
    simp only [ho, hgd, Bool.and_eq_true] at this
    obtain ⟨h1, h2⟩ := this
    refine ⟨Option.isSome_iff_exists.1 h1, depB_of h2, fun v W hv => (hg (g, b) ?_ v W hv).imp (fun h => h) fun h => ⟨h.1, h.2 i o hi ho hgd⟩⟩
    unfold guardsOf
    rw [List.mem_eraseDups, List.mem_filterMap]
    refine ⟨o, ?_, hgd⟩
    have : (l.take n)[i]? = some o := by rw [List.getElem?_take, if_pos hi]; exact ho
    exact List.mem_of_getElem? this
  · intro i o hi ho a W hb _ hold hdep hgv
    have h1 : (l.take n)[i]? = some o := by rw [List.getElem?_take, if_pos hi]; exact ho
    have := hop.get i o h1 a W hb (fun k hk => hold k (outB'_of hk)) (fun j d hj hd => hdep j d (depB_of hj) hd) hgv
    rwa [Nat.zero_add] at this
  · intro a W hSt
    exact hend a W hSt.bel (by rw [hSt.size, hsz]) hSt.defers (fun k hk => hSt.old k (outB'_of hk)) (fun i d hi hd => hSt.new i d hi (by
      have : i < l.length := by omega
      simp [this]) hd)
  · simp [hnl]
  · intro i o' _ hl
    rw [Array.getD_eq_getD_getElem?, Array.getElem?_replicate] at hl
    split at hl <;> cases hl
  · unfold unl
    have := List.countP_le_length (p := fun i => !((Array.replicate l.toArray.size false).getD i true)) (l := List.range l.length)
    simpa using this
  · intro i d hi hl _
    have h1 : i < l.length := by omega
    simp [h1] at hl
theorem wp_region_eachS {P : Program} {id : Nat} {Q : Exit → Act → World → Prop} {a0 : Act} {w : World} {l : List Oper} (n m : Nat) (Φ : Nat → Value → World → Prop) (hm : P.follows .mixedOrders = true) (hWB : tailWaits n l.toArray = true) (hA : slotsApart n l = true)
    (hG : guardsIn n l = true) (hD : dstIn n m l = true) (hsz : a0.tmps.size = m)
    (hst : ∀ i v W W', i < n → Φ i v W → Below W.heap.size W W' → Φ i v W') (hg : ∀ p ∈ guardsOf n l, ∀ v W, Φ p.1 v W → v = .bool p.2 ∨ (v = .bool (!p.2) ∧ ∀ i o, i < n → l[i]? = some o → o.guard = some p → ∀ v' W', Φ i v' W'))
    (hop : EachOpS P n l Φ a0 w (l.take n) 0)
    (hend : ∀ (X : Nat → Value) W, Below w.heap.size w W → (∀ i d, i < n → slotOf l i = some d → Φ i (X d) W) → wpList P l.toArray Q (l.drop n) { tmps := putAll ((slotsOf n l).map fun d => (d, X d)) a0.tmps, defers := a0.defers } W) :
    (Code.region id l.toArray true).wp P Q a0 w :=
  wp_region_slotsS n m Φ hm hWB hA hG hD hsz hst hg hop fun a W hb hs hd hold hnew => by
    rw [frame_of (a0 := a0) (n := n) (l := l) (by rw [hs, hsz]) hd hold]
    exact hend (fun d => a.tmps.getD d undef) W hb hnew
theorem wpIn_region_eachS {P : Program} {id : Nat} {Q : Exit → Act → World → Prop} {a0 : Act} {w : World} {l : List Oper} (n m : Nat) (Φ : Nat → Value → World → Prop) (hm : P.follows .mixedOrders = true) (hWB : tailWaits n l.toArray = true) (hA : slotsApart n l = true)
    (hG : guardsIn n l = true) (hD : dstIn n m l = true) (hsz : a0.tmps.size = m)
    (hst : ∀ i v W W', i < n → Φ i v W → Below W.heap.size W W' → Φ i v W') (hg : ∀ p ∈ guardsOf n l, ∀ v W, Φ p.1 v W → v = .bool p.2 ∨ (v = .bool (!p.2) ∧ ∀ i o, i < n → l[i]? = some o → o.guard = some p → ∀ v' W', Φ i v' W'))
    (hop : EachOpS P n l Φ a0 w (l.take n) 0)
    (hend : ∀ (X : Nat → Value) W, Below w.heap.size w W → (∀ i d, i < n → slotOf l i = some d → Φ i (X d) W) → wpList P l.toArray Q (l.drop n) { tmps := putAll ((slotsOf n l).map fun d => (d, X d)) a0.tmps, defers := a0.defers } W) :
    (Code.region id l.toArray true).wpIn Fence.wide 0 P Q a0 w :=
  wpIn_wide.2 (wp_region_eachS n m Φ hm hWB hA hG hD hsz hst hg hop hend)

/-- A row of strings made here. -/
def SVs (n : Nat) (ss : List ByteArray) (v : Value) (W : World) : Prop := ∃ a c, v = .slice a n c ∧ IsStrs W a n ss
theorem stays_svs (n : Nat) (ss : List ByteArray) : Stays (SVs n ss) := fun _ _ _ ⟨a, c, h1, h2⟩ hb => ⟨a, c, h1, h2.below hb⟩
theorem stays_true : Stays (fun _ _ => True) := fun _ _ _ _ _ => trivial
end Go.Proofs.YtdjlpmelmhhooaaGreatDoor
