/- The law of the loop over an iterator that lays a block of its own ahead of its rounds. Over whatever program. -/
import Derived.Test.YtdjlpmelmhhooaaDoorLibA
namespace Go.Proofs.YtdjlpmelmhhooaaDoor
open Go Go.RowKit

/-- As IterOn, the size of the heap told at which the iterator begins (so it may write a block that it lays first). The contract of an iterator (function g, with what it has captured) that hands out the very list xs: it turns no block but its own (S), allocates, and reads between two rounds only what lies in D. -/
def IterAt {α : Type} (P : Program) (c : Nat) (g : Nat) (lb : Array Value) (encs : α → Array Value) (S D : Nat → Prop) (xs : List α) (w : World) : Prop :=
  ∀ (l : Nat) (J Jx : List α → World → Prop) (W : World), Below w.heap.size w W → W.heap.size = w.heap.size + 2 →
    (∀ pre W1 W2, J pre W1 → Kept S W1 W2 → J pre W2) → (∀ pre W1 W2, Jx pre W1 → Kept S W1 W2 → Jx pre W2) →
    (∀ pre x post W1, xs = pre ++ x :: post → W.heap.size + c ≤ W1.heap.size → J pre W1 → YieldAt Fence.wide 0 P l (encs x) W1 fun e W' =>
      (e = .returned (.bool true) ∧ J (pre ++ [x]) W' ∧ Kept (fun k => ¬ D k) W1 W') ∨ (e = .returned (.bool false) ∧ Jx (pre ++ [x]) W' ∧ Kept (fun k => ¬ D k) W1 W')) →
    J [] W →
    CallsIn Fence.wide 0 P g (#[.func (.yield l) #[] #[]] ++ lb) W fun e W' => (∃ v, e = .returned v) ∧ (J xs W' ∨ (∃ pre x post, xs = pre ++ x :: post ∧ Jx (pre ++ [x]) W'))
section
variable {P : Program}

/-- **THE LOOP.** -/
theorem wp_iter_at {α : Type} {g : Operand} {ps : Array Tmp} {assign body : Code} {Q : Exit → Act → World → Prop} {a : Act} {w : World}
    {c₀ gf : Nat} {lb : Array Value} (hg : a.eval g = .func (.func gf) #[] lb) (eg : ∀ args w, (callFunc gf args).run P w = .ok (.enter gf args) w)
    {encs : α → Array Value} {S D : Nat → Prop} {xs : List α} (hit : IterAt P c₀ gf lb encs S D xs w) (hSlt : ∀ k, S k → k ≠ w.heap.size ∧ k ≠ w.heap.size + 1) (hDlt : ∀ k, D k → k ≠ w.heap.size ∧ k ≠ w.heap.size + 1) (hps : ∀ x, (encs x).size = ps.size)
    (I : List α → World → Prop) (Ix : Code → List α → World → Prop)
    (hI : ∀ pre W W', I pre W → Kept (fun k => S k ∨ twoOf w.heap.size k) W W' → I pre W') (hIx : ∀ c pre W W', Ix c pre W → Kept (fun k => S k ∨ twoOf w.heap.size k) W W' → Ix c pre W')
    (h0 : I [] w) (Ax : α → Act → World → Prop) (hAx : ∀ x a' W W', Ax x a' W → Kept (fun k => S k ∨ twoOf w.heap.size k) W W' → Ax x a' W')
    (hassign : ∀ (l : Nat) (pre : List α) (x : α) (W : World) (K : Act → World → Prop), w.heap.size + 2 + c₀ ≤ W.heap.size → I pre W → (∀ a' W', Kept (fun _ => False) W W' → I pre W' → Ax x a' W' → K a' W') →
      assign.wpIn (Fence.wide.inRound l) 0 P (Exit.then K (fun _ _ _ => False)) { tmps := (ps.zip (encs x)).foldl (fun t (p, v) => t.setIfInBounds p v) a.tmps, defers := [] } W)
    (hbody : ∀ (pre : List α) (x : α) (post : List α) (a' : Act) (W : World), xs = pre ++ x :: post → w.heap.size + 2 + c₀ ≤ W.heap.size → (∃ r, W.heap[w.heap.size + 1]? = some (.loop r)) → I pre W → Ax x a' W →
      body.wpIn (Fence.wide.inRound (w.heap.size + 1)) 0 P (roundTo (twoOf w.heap.size) D I Ix (pre ++ [x]) W) a' W)
    (hdone : ∀ W, w.heap.size + 2 ≤ W.heap.size → I xs W → W.heap[w.heap.size]? = some (.deferred (some [])) → Q .normal { a with defers := { target := .collected w.heap.size, args := #[] } :: a.defers } W)
    (hstop : ∀ c pre x post W, w.heap.size + 2 ≤ W.heap.size → xs = pre ++ x :: post → Ix c (pre ++ [x]) W → W.heap[w.heap.size]? = some (.deferred (some [])) → c.wpIn Fence.wide 0 P Q { a with defers := { target := .collected w.heap.size, args := #[] } :: a.defers } W) :
    (Code.rangeFunc g ps assign body).wpIn Fence.wide 0 P Q a w := by
  refine wpIn_rangeFunc ?_
  intro fn hfn'
  rw [show Fence.wide.round = none from rfl]
  obtain ⟨rec, hrec⟩ : ∃ rec : LoopState → Option Code → Loop, rec = fun st pe => { state := st, pending := pe, fn, tmps := a.tmps, params := ps, assign, body, defers := w.heap.size } := ⟨_, rfl⟩
  obtain ⟨B, hB⟩ : ∃ B, B = w.heap.size := ⟨_, rfl⟩
  obtain ⟨W1, hW1⟩ : ∃ W1, (w.alloc (.deferred (some []))).alloc (.loop (rec .ready none)) = W1 := ⟨_, rfl⟩
  have hL1 : W1.heap[B + 1]? = some (.loop (rec .ready none)) := by
    rw [← hW1, hB]; have := World.alloc_heap_new (w.alloc (.deferred (some []))) (.loop (rec .ready none)); rwa [World.size_alloc] at this
  have hK1 : W1.heap[B]? = some (.deferred (some [])) := by
    rw [← hW1, hB]; exact (Below.heap_alloc _ _ _ (by simp)).trans (World.alloc_heap_new w _)
  have hk1 : ∀ T, Kept T w W1 := fun T => by rw [← hW1]; exact ((Kept.refl T w).alloc _).alloc _
  have hI1 : I [] W1 := hI _ _ _ h0 (hk1 _)
  have hsz1 : B + 2 ≤ W1.heap.size := by rw [← hW1, hB]; simp
  have hb1 : Below w.heap.size w W1 := (hk1 (fun _ => False)).to_below _ (Nat.le_refl _) (fun _ h => h.elim)
  have hSB : ∀ k, S k → k ≠ B ∧ k ≠ B + 1 := by rw [hB]; exact hSlt
  have hDB : ∀ k, D k → k ≠ B ∧ k ≠ B + 1 := by rw [hB]; exact hDlt
  -- a step that leaves the two blocks: what it keeps
  have fin : ∀ (jump : Option Code) (W3 : World), W3.heap[B + 1]? = some (.loop { rec .ready none with state := .busy }) → W3.heap[B]? = some (.deferred (some [])) →
      (Instr.endRound (B + 1) jump).run P W3 = .ok (.bool jump.isNone) (W3.putObj (B + 1) (.loop (rec (if jump.isNone then .ready else .done) jump))) ∧
      (W3.putObj (B + 1) (.loop (rec (if jump.isNone then .ready else .done) jump))).heap[B + 1]? = some (.loop (rec (if jump.isNone then .ready else .done) jump)) ∧
      (W3.putObj (B + 1) (.loop (rec (if jump.isNone then .ready else .done) jump))).heap[B]? = some (.deferred (some [])) := fun jump W3 hl3 hd3 => by
    have := run_endRound (P := P) jump hl3
    rw [hrec] at this ⊢
    exact ⟨this, World.putObj_heap_same (Array.getElem?_eq_some_iff.1 hl3).1, (World.putObj_heap_other (by omega)).trans hd3⟩
  refine ⟨B + 1, [{ target := .collected w.heap.size, args := #[] }], W1, { target := .fn (.func gf) lb, args := #[.func (.yield (B + 1)) #[] #[]] }, W1, gf,
    #[.func (.yield (B + 1)) #[] #[]] ++ lb, W1, ?_, ?_, ?_, ?_, (fun h => (by cases h)), ?_⟩
  · rw [← hW1, hrec, hB]; exact run_enterLoop_outer _ _ _ _ _
  · simp only [resolve, hg]
    simp [go_sem]
  · intro f' hf'; exact trivial
  · simp [invoke, go_sem, eg]
  · refine (hit (B + 1)
      (fun pre W => I pre W ∧ W.heap[B + 1]? = some (.loop (rec .ready none)) ∧ W.heap[B]? = some (.deferred (some [])))
      (fun pre W => ∃ c, Ix c pre W ∧ W.heap[B + 1]? = some (.loop (rec .done (some c))) ∧ W.heap[B]? = some (.deferred (some [])))
      W1 hb1 (by rw [← hW1]; simp) ?_ ?_ ?_ ⟨hI1, hL1, hK1⟩).mono ?_
    · rintro pre X Y ⟨hi, hl, hk⟩ hXY
      have n1 := (Array.getElem?_eq_some_iff.1 hl).1
      exact ⟨hI _ _ _ hi (hXY.mono fun k _ hs => .inl hs), (hXY.block _ n1 (fun hs => by have := hSB _ hs; omega)).trans hl, (hXY.block _ (by omega) (fun hs => by have := hSB _ hs; omega)).trans hk⟩
    · rintro pre X Y ⟨c, hi, hl, hk⟩ hXY
      have n1 := (Array.getElem?_eq_some_iff.1 hl).1
      exact ⟨c, hIx _ _ _ _ hi (hXY.mono fun k _ hs => .inl hs), (hXY.block _ n1 (fun hs => by have := hSB _ hs; omega)).trans hl, (hXY.block _ (by omega) (fun hs => by have := hSB _ hs; omega)).trans hk⟩
    · -- ONE ROUND
      rintro pre x post W hx hWs ⟨hi, hl, hk⟩
      have hlt : B + 1 < W.heap.size := (Array.getElem?_eq_some_iff.1 hl).1
      have hy := run_yield (P := P) (args := encs x) hl (by rw [hrec]; exact hps x)
      rw [hrec] at hy
      refine ⟨fn, _, assign, body, hy, roundIn_of_wpIn hfn' (hassign _ pre x W _ (by omega) hi ?_)⟩
      clear hy
      intro a' Wa hka hia hax
      have hla := (hka.block _ hlt (fun h => h)).trans hl
      have hda := (hka.block _ (by omega : B < W.heap.size) (fun h => h)).trans hk
      have hlta : B + 1 < Wa.heap.size := Nat.lt_of_lt_of_le hlt hka.size
      refine ⟨_, run_beginRound hla (by rw [hrec]), ?_⟩
      obtain ⟨Wb, hWb⟩ : ∃ Wb, Wa.putObj (B + 1) (.loop { rec .ready none with state := .busy }) = Wb := ⟨_, rfl⟩
      rw [hWb]
      have hl2 : Wb.heap[B + 1]? = some (.loop { rec .ready none with state := .busy }) := by rw [← hWb]; exact World.putObj_heap_same hlta
      have hd2 : Wb.heap[B]? = some (.deferred (some [])) := by rw [← hWb]; exact (World.putObj_heap_other (by omega)).trans hda
      have hkb : Kept (fun k => k = B + 1) Wa Wb := by rw [← hWb]; exact (Kept.refl _ _).putObj _ _ (.inl rfl)
      have hszb : B + 2 + c₀ ≤ Wb.heap.size := Nat.le_trans (by have := hka.size; omega) hkb.size
      have hib : I pre Wb := hI _ _ _ hia (hkb.mono fun k _ e => .inr (.inr (by rw [e, hB])))
      have haxb : Ax x a' Wb := hAx _ _ _ _ hax (hkb.mono fun k _ e => .inr (.inr (by rw [e, hB])))
      have hbd := hbody pre x post a' Wb hx (by rw [← hB]; exact hszb) ⟨_, by rw [← hB]; exact hl2⟩ hib haxb
      rw [← hB] at hbd
      refine wpIn_mono hbd ?_
      have hWD : ∀ W3, Kept (fun k => ¬ (twoOf B k ∨ D k)) Wb W3 → ∀ o, Kept (fun k => ¬ D k) W (W3.putObj (B + 1) o) := fun W3 h3 o => by
        have nD : ∀ k, k = B + 1 → ¬ D k := fun k e hd => by have := hDB _ hd; omega
        refine ((((hka.mono (T := fun k => ¬ D k) (fun _ _ h => h.elim)).trans (hkb.mono fun k _ e => nD k e)).trans (h3.mono fun k _ h hd => h (.inr hd)))).trans ((Kept.refl _ _).putObj _ _ (.inl (nD _ rfl)))
      have h3l : ∀ W3, Kept (fun k => ¬ (twoOf B k ∨ D k)) Wb W3 → W3.heap[B + 1]? = some (.loop { rec .ready none with state := .busy }) ∧ W3.heap[B]? = some (.deferred (some [])) ∧ ∀ o, Kept (fun k => S k ∨ twoOf w.heap.size k) W3 (W3.putObj (B + 1) o) := fun W3 h3 =>
        ⟨(h3.block _ (by omega) (fun h => h (.inl (.inr rfl)))).trans hl2, (h3.block _ (by omega) (fun h => h (.inl (.inl rfl)))).trans hd2, fun o => (Kept.refl _ _).putObj _ _ (.inl (.inr (.inr (by rw [hB]))))⟩
      rintro e a3 W3 hp
      cases e with
      | normal =>
        obtain ⟨hk3, hi3⟩ := hp
        obtain ⟨q1, q2, q3⟩ := h3l W3 hk3
        obtain ⟨hr, hl4, hk4⟩ := fin none W3 q1 q2
        exact ⟨_, _, hr, .inl ⟨rfl, ⟨hI _ _ _ hi3 (q3 _), hl4, hk4⟩, hWD W3 hk3 _⟩⟩
      | ret =>
        obtain ⟨hk3, hi3⟩ := hp
        obtain ⟨q1, q2, q3⟩ := h3l W3 hk3
        obtain ⟨hr, hl4, hk4⟩ := fin (some .ret) W3 q1 q2
        exact ⟨_, _, hr, .inr ⟨rfl, ⟨.ret, hIx _ _ _ _ hi3 (q3 _), hl4, hk4⟩, hWD W3 hk3 _⟩⟩
      | exit id =>
        obtain ⟨hk3, hi3⟩ := hp
        obtain ⟨q1, q2, q3⟩ := h3l W3 hk3
        obtain ⟨hr, hl4, hk4⟩ := fin (some (.exit id)) W3 q1 q2
        exact ⟨_, _, hr, .inr ⟨rfl, ⟨.exit id, hIx _ _ _ _ hi3 (q3 _), hl4, hk4⟩, hWD W3 hk3 _⟩⟩
      | goto t =>
        obtain ⟨hk3, hi3⟩ := hp
        obtain ⟨q1, q2, q3⟩ := h3l W3 hk3
        obtain ⟨hr, hl4, hk4⟩ := fin (some (.goto t)) W3 q1 q2
        exact ⟨_, _, hr, .inr ⟨rfl, ⟨.goto t, hIx _ _ _ _ hi3 (q3 _), hl4, hk4⟩, hWD W3 hk3 _⟩⟩
      | panic ch => exact hp.elim
      | outgrown => exact hp.elim
    · rintro e W2 ⟨⟨v, rfl⟩, (⟨hi, hl, hk⟩ | ⟨pre, x, post, hx, c, hi, hl, hk⟩)⟩
      · have n1 := (Array.getElem?_eq_some_iff.1 hl).1
        refine ⟨none, _, by have := run_endLoop (P := P) hl (by rw [hrec]; simp); rw [hrec] at this; exact this, ?_⟩
        refine hdone _ (by rw [← hB]; simp [World.putObj]; omega) (hI _ _ _ hi ((Kept.refl _ _).putObj _ _ (.inl (.inr (.inr (by rw [hB])))))) ?_
        rw [← hB]; exact (World.putObj_heap_other (by omega)).trans hk
      · have n1 := (Array.getElem?_eq_some_iff.1 hl).1
        refine ⟨some c, _, by have := run_endLoop (P := P) hl (by rw [hrec]; simp); rw [hrec] at this; exact this, ?_⟩
        refine hstop c pre x post _ (by rw [← hB]; simp [World.putObj]; omega) hx (hIx _ _ _ _ hi ((Kept.refl _ _).putObj _ _ (.inl (.inr (.inr (by rw [hB])))))) ?_
        rw [← hB]; exact (World.putObj_heap_other (by omega)).trans hk
end
theorem wp_iter_put_at {P : Program} {α : Type} {g : Operand} {ps : Array Tmp} {assign body : Code} {Q : Exit → Act → World → Prop} {a : Act} {w : World}
    {c₀ gf : Nat} {lb : Array Value} (hg : a.eval g = .func (.func gf) #[] lb) (eg : ∀ args w, (callFunc gf args).run P w = .ok (.enter gf args) w)
    {encs : α → Array Value} {S D : Nat → Prop} {xs : List α} (hit : IterAt P c₀ gf lb encs S D xs w) (hSlt : ∀ k, S k → k ≠ w.heap.size ∧ k ≠ w.heap.size + 1) (hDlt : ∀ k, D k → k ≠ w.heap.size ∧ k ≠ w.heap.size + 1) (hps : ∀ x, (encs x).size = ps.size)
    (us : α → List (Nat × Value)) (I : List α → World → Prop) (Ix : Code → List α → World → Prop)
    (hI : ∀ pre W W', I pre W → Kept (fun k => S k ∨ twoOf w.heap.size k) W W' → I pre W') (hIx : ∀ c pre W W', Ix c pre W → Kept (fun k => S k ∨ twoOf w.heap.size k) W W' → Ix c pre W')
    (h0 : I [] w)
    (hassign : ∀ (l : Nat) (x : α) (W : World) (K : Act → World → Prop), K { tmps := putAll (us x) ((ps.zip (encs x)).foldl (fun t (p, v) => t.setIfInBounds p v) a.tmps), defers := [] } W →
      assign.wpIn (Fence.wide.inRound l) 0 P (Exit.then K (fun _ _ _ => False)) { tmps := (ps.zip (encs x)).foldl (fun t (p, v) => t.setIfInBounds p v) a.tmps, defers := [] } W)
    (hbody : ∀ (pre : List α) (x : α) (post : List α) (W : World), xs = pre ++ x :: post → w.heap.size + 2 + c₀ ≤ W.heap.size → (∃ r, W.heap[w.heap.size + 1]? = some (.loop r)) → I pre W →
      body.wpIn (Fence.wide.inRound (w.heap.size + 1)) 0 P (roundTo (twoOf w.heap.size) D I Ix (pre ++ [x]) W) { tmps := putAll (us x) ((ps.zip (encs x)).foldl (fun t (p, v) => t.setIfInBounds p v) a.tmps), defers := [] } W)
    (hdone : ∀ W, w.heap.size + 2 ≤ W.heap.size → I xs W → W.heap[w.heap.size]? = some (.deferred (some [])) → Q .normal { a with defers := { target := .collected w.heap.size, args := #[] } :: a.defers } W)
    (hstop : ∀ c pre x post W, w.heap.size + 2 ≤ W.heap.size → xs = pre ++ x :: post → Ix c (pre ++ [x]) W → W.heap[w.heap.size]? = some (.deferred (some [])) → c.wpIn Fence.wide 0 P Q { a with defers := { target := .collected w.heap.size, args := #[] } :: a.defers } W) :
    (Code.rangeFunc g ps assign body).wpIn Fence.wide 0 P Q a w :=
  wp_iter_at hg eg hit hSlt hDlt hps I Ix hI hIx h0 (fun x a' _ => a' = { tmps := putAll (us x) ((ps.zip (encs x)).foldl (fun t (p, v) => t.setIfInBounds p v) a.tmps), defers := [] }) (fun _ _ _ _ h _ => h)
    (fun l _ x W K _ hi hK => hassign l x W K (hK _ _ (Kept.refl _ _) hi rfl)) (fun pre x post a' W hx hsz hr hi ha => by subst ha; exact hbody pre x post W hx hsz hr hi) hdone hstop
/-- The same where the round's outset lays a box. -/
theorem wp_iter_box_at {P : Program} {α : Type} {g : Operand} {ps : Array Tmp} {assign body : Code} {Q : Exit → Act → World → Prop} {a : Act} {w : World}
    {c₀ gf : Nat} {lb : Array Value} (hg : a.eval g = .func (.func gf) #[] lb) (eg : ∀ args w, (callFunc gf args).run P w = .ok (.enter gf args) w)
    {encs : α → Array Value} {S D : Nat → Prop} {xs : List α} (hit : IterAt P c₀ gf lb encs S D xs w) (hSlt : ∀ k, S k → k ≠ w.heap.size ∧ k ≠ w.heap.size + 1) (hDlt : ∀ k, D k → k ≠ w.heap.size ∧ k ≠ w.heap.size + 1) (hps : ∀ x, (encs x).size = ps.size)
    (us : α → Nat → List (Nat × Value)) (R : α → Nat → World → Prop) (hR : ∀ x g W W', R x g W → Kept (fun k => S k ∨ twoOf w.heap.size k) W W' → R x g W') (I : List α → World → Prop) (Ix : Code → List α → World → Prop)
    (hI : ∀ pre W W', I pre W → Kept (fun k => S k ∨ twoOf w.heap.size k) W W' → I pre W') (hIx : ∀ c pre W W', Ix c pre W → Kept (fun k => S k ∨ twoOf w.heap.size k) W W' → Ix c pre W')
    (h0 : I [] w)
    (hassign : ∀ (l : Nat) (pre : List α) (x : α) (W : World) (K : Act → World → Prop), w.heap.size + 2 + c₀ ≤ W.heap.size → I pre W → (∀ g W', Kept (fun _ => False) W W' → I pre W' → R x g W' → K { tmps := putAll (us x g) ((ps.zip (encs x)).foldl (fun t (p, v) => t.setIfInBounds p v) a.tmps), defers := [] } W') →
      assign.wpIn (Fence.wide.inRound l) 0 P (Exit.then K (fun _ _ _ => False)) { tmps := (ps.zip (encs x)).foldl (fun t (p, v) => t.setIfInBounds p v) a.tmps, defers := [] } W)
    (hbody : ∀ (pre : List α) (x : α) (post : List α) (g : Nat) (W : World), xs = pre ++ x :: post → w.heap.size + 2 + c₀ ≤ W.heap.size → (∃ r, W.heap[w.heap.size + 1]? = some (.loop r)) → I pre W → R x g W →
      body.wpIn (Fence.wide.inRound (w.heap.size + 1)) 0 P (roundTo (twoOf w.heap.size) D I Ix (pre ++ [x]) W) { tmps := putAll (us x g) ((ps.zip (encs x)).foldl (fun t (p, v) => t.setIfInBounds p v) a.tmps), defers := [] } W)
    (hdone : ∀ W, w.heap.size + 2 ≤ W.heap.size → I xs W → W.heap[w.heap.size]? = some (.deferred (some [])) → Q .normal { a with defers := { target := .collected w.heap.size, args := #[] } :: a.defers } W)
    (hstop : ∀ c pre x post W, w.heap.size + 2 ≤ W.heap.size → xs = pre ++ x :: post → Ix c (pre ++ [x]) W → W.heap[w.heap.size]? = some (.deferred (some [])) → c.wpIn Fence.wide 0 P Q { a with defers := { target := .collected w.heap.size, args := #[] } :: a.defers } W) :
    (Code.rangeFunc g ps assign body).wpIn Fence.wide 0 P Q a w :=
  wp_iter_at hg eg hit hSlt hDlt hps I Ix hI hIx h0 (fun x a' W => ∃ g, a' = { tmps := putAll (us x g) ((ps.zip (encs x)).foldl (fun t (p, v) => t.setIfInBounds p v) a.tmps), defers := [] } ∧ R x g W) (fun x a' W W' ⟨g, h1, h2⟩ hk => ⟨g, h1, hR x g W W' h2 hk⟩)
    (fun l pre x W K hs hi hK => hassign l pre x W K hs hi fun g W' hk hi' hr => hK _ _ hk hi' ⟨g, rfl, hr⟩) (fun pre x post a' W hx hsz hr hi ⟨g, ha, hg⟩ => by subst ha; exact hbody pre x post g W hx hsz hr hi hg) hdone hstop
end Go.Proofs.YtdjlpmelmhhooaaDoor
