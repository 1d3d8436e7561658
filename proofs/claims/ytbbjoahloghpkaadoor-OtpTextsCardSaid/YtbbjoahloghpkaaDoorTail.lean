/- A region that draws its order: quiet operations, and a tail behind them in one forced order (a build, an append, a call that writes, a store, what hands it on). Over whatever program. -/
import Derived.Test.YtbbjoahloghpkaaDoorLast
namespace Go.Proofs.YtbbjoahloghpkaaDoor
open Go Go.RowKit

/-- The operations from place n on made harmless. -/
def muteFrom : Nat → List Oper → List Oper
  | _, [] => []
  | 0, o :: r => mute o :: muteFrom 0 r
  | n + 1, o :: r => o :: muteFrom n r
theorem muteFrom_len : ∀ (n : Nat) (l : List Oper), (muteFrom n l).length = l.length
  | 0, [] => rfl
  | _ + 1, [] => rfl
  | 0, _ :: r => by simp only [muteFrom, List.length_cons, muteFrom_len 0 r]
  | n + 1, _ :: r => by simp only [muteFrom, List.length_cons, muteFrom_len n r]
theorem muteFrom_get : ∀ (n : Nat) (l : List Oper) (i : Nat), (muteFrom n l)[i]? = if i < n then l[i]? else (l[i]?).map mute
  | 0, [], i => by simp [muteFrom]
  | n + 1, [], i => by simp [muteFrom]
  | 0, o :: r, i => by
    cases i with
    | zero => simp [muteFrom]
    | succ i => have := muteFrom_get 0 r i; simpa [muteFrom] using this
  | n + 1, o :: r, i => by
    cases i with
    | zero => simp [muteFrom]
    | succ i =>
      have := muteFrom_get n r i
      simp only [muteFrom, List.getElem?_cons_succ, this]
      by_cases h : i < n
      · rw [if_pos h, if_pos (by omega)]
      · rw [if_neg h, if_neg (by omega)]

/-- All edges go back; each operation ahead of n is waited for by a later one, up to n; each behind n waits for the one ahead of it; no guard from n on, none looks at what lies there. -/
def tailWaits (n : Nat) (ops : Array Oper) : Bool :=
  decide (n < ops.size) && (List.range ops.size).all fun i => match ops[i]? with
    | none => false
    | some o => (o.after.all fun e => decide (e.on < i)) && (match o.guard with | none => true | some (g, _) => decide (g < n) && decide (i < n)) &&
      (decide (n ≤ i) || (List.range (n + 1)).any fun j => decide (i < j) && match ops[j]? with | none => false | some p => p.after.any fun e => Region.binds .any e && decide (e.on = i)) &&
      (decide (i ≤ n) || o.after.any fun e => Region.binds .any e && decide (e.on + 1 = i))

structure TWaits (n : Nat) (ops : Array Oper) : Prop where
  lt : n < ops.size
  back : ∀ (i : Nat) (o : Oper), ops[i]? = some o → ∀ e ∈ o.after, e.on < i
  guard : ∀ (i : Nat) (o : Oper), ops[i]? = some o → ∀ g b, o.guard = some (g, b) → g < n ∧ i < n
  wait : ∀ i, i < n → ∃ j p, i < j ∧ j ≤ n ∧ ops[j]? = some p ∧ ∃ e ∈ p.after, Region.binds .any e = true ∧ e.on = i
  chain : ∀ (i : Nat) (o : Oper), ops[i]? = some o → n < i → ∃ e ∈ o.after, Region.binds .any e = true ∧ e.on + 1 = i
theorem tailWaits_spec {n : Nat} {ops : Array Oper} (h : tailWaits n ops = true) : TWaits n ops := by
  unfold tailWaits at h
  rw [Bool.and_eq_true, decide_eq_true_iff, List.all_eq_true] at h
  obtain ⟨hn, h⟩ := h
  have key : ∀ (i : Nat) (o : Oper), ops[i]? = some o → ((o.after.all fun e => decide (e.on < i)) && (match o.guard with | none => true | some (g, _) => decide (g < n) && decide (i < n)) &&
      (decide (n ≤ i) || (List.range (n + 1)).any fun j => decide (i < j) && match ops[j]? with | none => false | some p => p.after.any fun e => Region.binds .any e && decide (e.on = i)) &&
      (decide (i ≤ n) || o.after.any fun e => Region.binds .any e && decide (e.on + 1 = i))) = true := by
    intro i o ho
    have hi : i < ops.size := (Array.getElem?_eq_some_iff.1 ho).1
    have := h i (List.mem_range.2 hi)
    rw [ho] at this
    exact this
  constructor
  · exact hn
  · intro i o ho e he
    have := key i o ho
    simp only [Bool.and_eq_true, Array.all_eq_true_iff_forall_mem, decide_eq_true_eq] at this
    exact this.1.1.1 e he
  · intro i o ho g b hg
    have := key i o ho
    rw [hg] at this
    simp only [Bool.and_eq_true, decide_eq_true_eq] at this
    exact this.1.1.2
  · intro i hi
    obtain ⟨o, ho⟩ : ∃ o, ops[i]? = some o := ⟨ops[i], by simp [show i < ops.size by omega]⟩
    have := key i o ho
    simp only [Bool.and_eq_true, Bool.or_eq_true, decide_eq_true_eq] at this
    rcases this.1.2 with h1 | h1
    · omega
    · rw [List.any_eq_true] at h1
      obtain ⟨j, hj0, hj⟩ := h1
      have hjn := List.mem_range.1 hj0
      simp only [Bool.and_eq_true, decide_eq_true_eq] at hj
      obtain ⟨hij, hj⟩ := hj
      cases hp : ops[j]? with
      | none => rw [hp] at hj; cases hj
      | some p =>
        rw [hp] at hj
        simp only [] at hj
        rw [Array.any_eq_true'] at hj
        obtain ⟨e, he, h5⟩ := hj
        simp only [Bool.and_eq_true, decide_eq_true_eq] at h5
        exact ⟨j, p, hij, by omega, hp, e, he, h5⟩
  · intro i o ho hni
    have := key i o ho
    simp only [Bool.and_eq_true, Bool.or_eq_true, decide_eq_true_eq] at this
    rcases this.2 with h1 | h1
    · omega
    · rw [Array.any_eq_true'] at h1
      obtain ⟨e, he, h5⟩ := h1
      simp only [Bool.and_eq_true, decide_eq_true_eq] at h5
      exact ⟨e, he, h5⟩

theorem muteFrom_ready (n : Nat) (md : Region.Mode) (l : List Oper) (listed : Array Bool) : Region.ready md (muteFrom n l).toArray listed = Region.ready md l.toArray listed := by
  unfold Region.ready
  simp only [List.size_toArray, muteFrom_len, List.getElem?_toArray]
  refine List.filter_congr fun i _ => ?_
  rw [muteFrom_get]
  by_cases e : i < n
  · rw [if_pos e]
  · rw [if_neg e]; cases l[i]? <;> simp [mute]
theorem muteFrom_wanted {n : Nat} {l : List Oper} (hW : TWaits n l.toArray) {i : Nat} {o : Oper} (ho : l[i]? = some o) (tmps : Array Value) : Region.wanted o (yielded (muteFrom n l).toArray tmps) = Region.wanted o (yielded l.toArray tmps) := by
  unfold Region.wanted
  cases hg : o.guard with
  | none => rfl
  | some gb =>
    obtain ⟨g, b⟩ := gb
    have hlt := (hW.guard i o (by simpa using ho) g b hg).1
    have : yielded (muteFrom n l).toArray tmps g = yielded l.toArray tmps g := by
      unfold yielded
      simp only [List.getElem?_toArray]
      rw [muteFrom_get, if_pos hlt]
    simp only [this]

/-- Just those ahead of k are listed. -/
def UpTo (listed : Array Bool) (size k : Nat) : Prop := listed.size = size ∧ ∀ j, j < size → listed.getD j true = decide (j < k)
theorem UpTo.next {listed : Array Bool} {size k : Nat} (h : UpTo listed size k) : UpTo (listed.setIfInBounds k true) size (k + 1) := by
  refine ⟨by rw [Array.size_setIfInBounds]; exact h.1, fun j hj => ?_⟩
  by_cases e : k = j
  · subst e
    rw [Array.getD_eq_getD_getElem?, Array.getElem?_setIfInBounds_self_of_lt (by rw [h.1]; exact hj)]
    simp
  · rw [getD_set_ne true e, h.2 j hj]
    by_cases h1 : j < k
    · rw [decide_eq_true h1, decide_eq_true (by omega)]
    · rw [decide_eq_false h1, decide_eq_false (by omega)]
theorem getD_un {listed : Array Bool} {i : Nat} (h : listed.getD i true = false) : listed.getD i false = false := by
  rcases Nat.lt_or_ge i listed.size with h' | h'
  · simp [h'] at h ⊢; exact h
  · simp [Array.getElem?_eq_none h'] at h
theorem UpTo.no {listed : Array Bool} {size k j : Nat} (h : UpTo listed size k) (hj : j < size) (hk : ¬ j < k) : listed.getD j false = false := by
  have h1 := h.2 j hj
  rw [decide_eq_false hk] at h1
  exact getD_un h1
theorem UpTo.yes {listed : Array Bool} {size k j : Nat} (h : UpTo listed size k) (hj : j < size) (hk : j < k) : listed.getD j false = true := by
  have h1 := h.2 j hj
  rw [decide_eq_true hk] at h1
  have h2 : j < listed.size := by rw [h.1]; exact hj
  simp [h2] at h1 ⊢
  exact h1
/-- Behind n just the next one is ready. -/
theorem TWaits.only {n : Nat} {ops : Array Oper} (hW : TWaits n ops) {listed : Array Bool} {k : Nat} (hU : UpTo listed ops.size k) (hk : n ≤ k) {i : Nat} (hi : i ∈ Region.ready .any ops listed) : i = k := by
  obtain ⟨hun, o, ho, hall⟩ := mem_ready.1 hi
  have his : i < ops.size := (Array.getElem?_eq_some_iff.1 ho).1
  have hge : ¬ i < k := fun h => by have := hU.2 i his; rw [decide_eq_true h, hun] at this; cases this
  by_cases e : i = k
  · exact e
  · exfalso
    obtain ⟨x, hx, hb, hon⟩ := hW.chain i o ho (by omega)
    have h1 := hall x hx hb
    rw [hU.no (by omega) (by omega)] at h1
    cases h1
theorem TWaits.next {n : Nat} {ops : Array Oper} (hW : TWaits n ops) {listed : Array Bool} {k : Nat} (hU : UpTo listed ops.size k) (hk : k < ops.size) : k ∈ Region.ready .any ops listed := by
  refine mem_ready.2 ⟨by rw [hU.2 k hk]; simp, ops[k], by simp [hk], fun e he _ => ?_⟩
  have := hW.back k ops[k] (by simp [hk]) e he
  exact hU.yes (by omega) this

/-- The tail is run in its one order. -/
theorem tail_run {P : Program} {n : Nat} {l : List Oper} (hW : TWaits n l.toArray) {Q' : Exit → Act → World → Prop} : ∀ (d fuel k : Nat) (listed : Array Bool) (a : Act) (w : World), l.length - k = d → d ≤ fuel → n ≤ k → k ≤ l.length → UpTo listed l.toArray.size k →
    wpList P l.toArray Q' (l.drop k) a w → wpAny P .any l.toArray Q' fuel listed a w := by
  intro d
  induction d with
  | zero =>
    intro fuel k listed a w hd _ hnk hkl hU h
    obtain rfl : k = l.length := by omega
    refine any_done ?_ ?_ fuel
    · rw [List.eq_nil_iff_forall_not_mem]
      intro j hj
      have := hW.only hU hnk hj
      obtain ⟨_, oj, hj2, _⟩ := mem_ready.1 hj
      have := (Array.getElem?_eq_some_iff.1 hj2).1
      simp at this; omega
    · rw [List.drop_of_length_le (Nat.le_refl _)] at h
      exact h
  | succ d ih =>
    intro fuel k listed a w hd hf hnk hkl hU h
    have hk : k < l.length := by omega
    obtain ⟨fuel, rfl⟩ : ∃ m, fuel = m + 1 := ⟨fuel - 1, by omega⟩
    refine ⟨fun h0 => ?_, fun i hi => ?_⟩
    · have := hW.next hU (by simpa using hk)
      rw [h0] at this; cases this
    · obtain rfl := hW.only hU hnk hi
      rw [List.drop_eq_getElem_cons hk] at h
      have ho : l.toArray[i]? = some l[i] := by simp [hk]
      have hg : l[i].guard = none := by
        cases hg : l[i].guard with
        | none => rfl
        | some gb => obtain ⟨g, b⟩ := gb; have := (hW.guard i _ ho g b hg).2; omega
      have hwant : Region.wanted l[i] (yielded l.toArray a.tmps) = true := by simp [Region.wanted, hg]
      unfold wpList at h
      simp only [hwant, if_true] at h
      unfold wpOp
      rw [ho]
      simp only [hwant, if_true]
      rcases h with h | h
      · refine .inl (Oper.wp_mono (fun a' w' hk' => ?_) h)
        exact ih fuel (i + 1) _ a' w' (by omega) (by omega) (by omega) (by omega) hU.next hk'
      · exact .inr h
/-- What the quiet walk tells where just the tail is left. -/
theorem tail_fuel {P : Program} {n : Nat} {l : List Oper} (hW : TWaits n l.toArray) {C : World → Prop} {Q₁ : Act → Prop} : ∀ (fuel k : Nat) (listed : Array Bool) (a : Act), n ≤ k → k ≤ l.length → UpTo listed l.toArray.size k →
    wpAnyQ P .any (muteFrom n l).toArray C Q₁ fuel listed a → l.length - k ≤ fuel ∧ Q₁ a := by
  have hfull : ∀ (k : Nat) (listed : Array Bool), n ≤ k → k = l.length → UpTo listed l.toArray.size k → Region.ready .any l.toArray listed = [] := by
    intro k listed hnk hkl hU
    rw [List.eq_nil_iff_forall_not_mem]
    intro j hj
    have := hW.only hU hnk hj
    obtain ⟨_, oj, hj2, _⟩ := mem_ready.1 hj
    have := (Array.getElem?_eq_some_iff.1 hj2).1
    simp at this; omega
  intro fuel
  induction fuel with
  | zero =>
    intro k listed a hnk hkl hU h
    have h1 := h.1
    rw [muteFrom_ready] at h1
    by_cases hk : k < l.length
    · have := hW.next hU (by simpa using hk)
      rw [h1] at this; cases this
    · exact ⟨by omega, h.2⟩
  | succ fuel ih =>
    intro k listed a hnk hkl hU h
    by_cases hk : k < l.length
    · have hi := hW.next hU (by simpa using hk)
      have hq := h.2 k (by rw [muteFrom_ready]; exact hi)
      have ho : l.toArray[k]? = some l[k] := by simp [hk]
      have hg : l[k].guard = none := by
        cases hg : l[k].guard with
        | none => rfl
        | some gb => obtain ⟨g, b⟩ := gb; have := (hW.guard k _ ho g b hg).2; omega
      unfold qOp at hq
      have hmg : (muteFrom n l).toArray[k]? = some (mute l[k]) := by rw [List.getElem?_toArray, muteFrom_get, if_neg (by omega)]; simp [hk]
      simp only [hmg] at hq
      have hwt : Region.wanted (mute l[k]) (yielded (muteFrom n l).toArray a.tmps) = true := by simp [Region.wanted, mute, hg]
      rw [if_pos hwt] at hq
      obtain ⟨v, _, h5⟩ := hq
      have := ih (k + 1) _ a (by omega) (by omega) hU.next h5
      exact ⟨by omega, this.2⟩
    · have := hfull k listed hnk (by omega) hU
      exact ⟨by omega, h.1 (by rw [muteFrom_ready]; exact this)⟩
/-- The tail's first one is ready: all ahead of it are listed, none behind. -/
theorem TWaits.upto {n : Nat} {ops : Array Oper} (hW : TWaits n ops) {listed : Array Bool} (hs : listed.size = ops.size) (hS : Shut ops listed) {t : Nat} (hnt : n ≤ t) (hl : listed.getD n true = false) (hi : t ∈ Region.ready .any ops listed) : t = n ∧ UpTo listed ops.size n := by
  have htail : ∀ d j, j = n + d → j < ops.size → listed.getD j false = false := by
    intro d
    induction d with
    | zero => intro j hj _; obtain rfl : j = n := by omega
              exact getD_un hl
    | succ d ih =>
      intro j hj hjs
      obtain ⟨x, hx, hb, hon⟩ := hW.chain j ops[j] (by simp [hjs]) (by omega)
      cases hh : listed.getD j false with
      | false => rfl
      | true =>
        have := hS j ops[j] (by simp [hjs]) hh x hx hb
        rw [ih x.on (by omega) (by omega)] at this
        cases this
  obtain ⟨_, ot, hot, hr⟩ := mem_ready.1 hi
  have hts : t < ops.size := (Array.getElem?_eq_some_iff.1 hot).1
  have htn : t = n := by
    by_cases e : t = n
    · exact e
    · exfalso
      obtain ⟨x, hx, hb, hon⟩ := hW.chain t ot hot (by omega)
      have := hr x hx hb
      rw [htail (x.on - n) x.on (by omega) (by omega)] at this
      cases this
  subst htn
  refine ⟨rfl, hs, ?_⟩
  have key : ∀ m j, t - j ≤ m → j < t → listed.getD j false = true := by
    intro m
    induction m with
    | zero => intro j h1 h2; omega
    | succ m ih =>
      intro j h1 h2
      obtain ⟨k, p, hjk, hkn, hp, e, he, hb, heq⟩ := hW.wait j h2
      by_cases ek : k = t
      · subst ek
        rw [hot] at hp; cases hp
        rw [← heq]; exact hr e he hb
      · have hl2 := ih k (by omega) (by omega)
        rw [← heq]; exact hS k p hp hl2 e he hb
  intro j hj
  have hjs : j < listed.size := by omega
  by_cases h1 : j < t
  · have := key (t - j) j (Nat.le_refl _) h1
    simp [hjs] at this
    rw [decide_eq_true h1]; simp [hjs, this]
  · have := htail (j - t) j (by omega) hj
    simp [hjs] at this
    rw [decide_eq_false h1]; simp [hjs, this]
theorem any_tail {P : Program} {n : Nat} {l : List Oper} (hW : TWaits n l.toArray) {C : World → Prop} {Q' : Exit → Act → World → Prop} :
    ∀ (fuel : Nat) (listed : Array Bool) (a : Act) (w : World), listed.size = l.toArray.size → listed.getD n true = false → Shut l.toArray listed → C w →
      wpAnyQ P .any (muteFrom n l).toArray C (fun a => ∀ w, C w → wpList P l.toArray Q' (l.drop n) a w) fuel listed a → wpAny P .any l.toArray Q' fuel listed a w := by
  have hnl := hW.lt
  have hsome : ∀ (listed : Array Bool), listed.size = l.toArray.size → listed.getD n true = false → Region.ready .any l.toArray listed ≠ [] := by
    intro listed hs hl h0
    -- the least one that is not listed is ready
    obtain ⟨j, hj1, hj2⟩ : ∃ j, listed.getD j true = false ∧ ∀ i, i < j → listed.getD i true = true := by
      have : ∀ d m, m + d = n → (∀ i, i < m → listed.getD i true = true) → ∃ j, listed.getD j true = false ∧ ∀ i, i < j → listed.getD i true = true := by
        intro d
        induction d with
        | zero => intro m hm h; exact ⟨m, by rw [show m = n by omega]; exact hl, h⟩
        | succ d ih =>
          intro m hm h
          cases hx : listed.getD m true with
          | false => exact ⟨m, hx, h⟩
          | true => exact ih (m + 1) (by omega) (fun i hi => by
              by_cases e : i = m
              · rw [e]; exact hx
              · exact h i (by omega))
      exact this n 0 (by omega) (fun i hi => by omega)
    have hjs : j < l.toArray.size := by
      rcases Nat.lt_or_ge j listed.size with h' | h'
      · omega
      · simp [Array.getElem?_eq_none h'] at hj1
    have : j ∈ Region.ready .any l.toArray listed := mem_ready.2 ⟨hj1, l.toArray[j], by simp [hjs], fun e he _ => by
      have hb := hW.back j l.toArray[j] (by simp [hjs]) e he
      have h2 := hj2 e.on hb
      have h3 : e.on < listed.size := by omega
      simp [h3] at h2 ⊢
      exact h2⟩
    rw [h0] at this; cases this
  intro fuel
  induction fuel with
  | zero =>
    intro listed a w hs hl _ _ h
    have h1 := h.1
    rw [muteFrom_ready] at h1
    exact absurd h1 (hsome listed hs hl)
  | succ fuel ih =>
    intro listed a w hs hl hS hC h
    refine ⟨fun h0 => absurd h0 (hsome listed hs hl), fun i hi => ?_⟩
    by_cases e : n ≤ i
    · obtain ⟨rfl, hU⟩ := hW.upto hs hS e hl hi
      have hf := tail_fuel hW (fuel + 1) i listed a (Nat.le_refl _) (by simpa using Nat.le_of_lt hnl) hU h
      have := tail_run hW (l.length - i) (fuel + 1) i listed a w rfl hf.1 (Nat.le_refl _) (by simpa using Nat.le_of_lt hnl) hU (hf.2 w hC)
      exact this.2 i hi
    · have hq := h.2 i (by rw [muteFrom_ready]; exact hi)
      have hsame : qOp P l.toArray C i (wpAnyQ P .any (muteFrom n l).toArray C (fun a => ∀ w, C w → wpList P l.toArray Q' (l.drop n) a w) fuel (listed.setIfInBounds i true)) a := by
        unfold qOp at hq ⊢
        cases hoi : l[i]? with
        | none =>
          simp only [List.getElem?_toArray, muteFrom_get, if_pos (show i < n by omega), hoi] at hq ⊢
          exact hq
        | some oi =>
          simp only [List.getElem?_toArray, muteFrom_get, if_pos (show i < n by omega), hoi] at hq ⊢
          rw [muteFrom_wanted hW hoi] at hq
          exact hq
      refine wpOp_of_qOp hC (fun a' w' hC' hk => ih _ a' w' (by rw [Array.size_setIfInBounds]; exact hs) ?_ (hS.next hi) hC' hk) hsame
      rw [getD_set_ne true (by omega)]; exact hl

theorem wp_region_tail {P : Program} {id : Nat} {Q : Exit → Act → World → Prop} {a : Act} {w : World} {l : List Oper} (n : Nat) (hm : P.follows .mixedOrders = true) (hWB : tailWaits n l.toArray = true) (hB : Region.lexB .any (muteFrom n l).toArray = true)
    (h : wpQuiet P (muteFrom n l).toArray (fun w' => ∃ p : Sub w, w' = p.x) (fun a' => ∀ q : Sub w, wpList P l.toArray Q (l.drop n) a' q.x) (muteFrom n l) a) : (Code.region id l.toArray true).wp P Q a w := by
  simp only [Region.lexB, Bool.and_eq_true] at hB
  have hW := tailWaits_spec hWB
  have e : (fun a' => ∀ w', (∃ p : Sub w, w' = p.x) → wpList P l.toArray Q (l.drop n) a' w') = fun a' => ∀ q : Sub w, wpList P l.toArray Q (l.drop n) a' q.x := by
    funext a'; exact propext ⟨fun h q => h _ ⟨q, rfl⟩, fun h w' ⟨q, hq⟩ => hq ▸ h q⟩
  rw [← e] at h
  have hlt := hW.lt
  refine wp_region_any hm (any_tail hW (C := fun w' => ∃ p : Sub w, w' = p.x) _ _ _ _ (by simp) ?_ ?_ ⟨⟨w.drew, rfl, rfl, rfl, Nat.le_refl _, fun _ _ => rfl⟩, rfl⟩ ?_)
  · have : n < l.length := by simpa using hlt
    simp [this]
  · intro i o' _ hl
    rw [Array.getD_eq_getD_getElem?, Array.getElem?_replicate] at hl
    split at hl <;> cases hl
  · have := wpAnyQ_lex (P := P) (C := fun w' => ∃ p : Sub w, w' = p.x) (md := .any) hB.1 (muteFrom n l) 0 (Array.replicate (muteFrom n l).toArray.size false) a (by simp) (by simpa using hB.2) h
    simpa [muteFrom_len] using this
theorem wpIn_region_tail {P : Program} {id : Nat} {Q : Exit → Act → World → Prop} {a : Act} {w : World} {l : List Oper} (n : Nat) (hm : P.follows .mixedOrders = true) (hWB : tailWaits n l.toArray = true) (hB : Region.lexB .any (muteFrom n l).toArray = true)
    (h : wpQuiet P (muteFrom n l).toArray (fun w' => ∃ p : Sub w, w' = p.x) (fun a' => ∀ q : Sub w, wpList P l.toArray Q (l.drop n) a' q.x) (muteFrom n l) a) : (Code.region id l.toArray true).wpIn Fence.wide 0 P Q a w :=
  wpIn_wide.2 (wp_region_tail n hm hWB hB h)
end Go.Proofs.YtbbjoahloghpkaaDoor
