/- Laws over whatever program: an iterator's own blocks, rounds that draw, an arm's guard, rows in a quiet walk; rows of strings. -/
import Derived.Test.YtaofpeajfgcjcaaLibA
import Derived.Test.YtaofpeajfgcjcaaKit
import Derived.TacticsIn
import Derived.Deep.QuietTactic
import Derived.Deep.MidRow
import Derived.BigQuiet
import Derived.BigFrame
import Derived.Test.YtaofpeajfgcjcaaProg
import Derived.Maps.AppendAt
import Derived.Maps.OwnIn
import Derived.OneCell
namespace Go.Proofs.Ytaofpeajfgcjcaa
section
open Go Go.RowKit

/-- As IterOn, the size of the heap told at which the iterator begins (so it may write a block that it lays first). The contract of an iterator (function g, with what it has captured) that hands out the very list xs: it turns no block but its own (S), allocates, and reads between two rounds only what lies in D. -/
def IterAt {α : Type} (P : Program) (c : Nat) (g : Nat) (lb : Array Value) (encs : α → Array Value) (S D : Nat → Prop) (xs : List α) (w : World) : Prop :=
  ∀ (l : Nat) (J Jx : List α → World → Prop) (W : World), Below w.heap.size w W → W.heap.size = w.heap.size + 2 →
    (∀ pre W1 W2, J pre W1 → Kept S W1 W2 → J pre W2) → (∀ pre W1 W2, Jx pre W1 → Kept S W1 W2 → Jx pre W2) →
    (∀ pre x post W1, xs = pre ++ x :: post → W.heap.size + c ≤ W1.heap.size → J pre W1 → YieldAt Fence.wide 0 P l (encs x) W1 fun e W' =>
      (e = .returned (.bool true) ∧ J (pre ++ [x]) W' ∧ Kept (fun k => ¬ D k) W1 W') ∨ (e = .returned (.bool false) ∧ Jx (pre ++ [x]) W' ∧ Kept (fun k => ¬ D k) W1 W')) →
    J [] W →
    CallsIn Fence.wide 0 P g (#[.func (.yield l) #[] #[]] ++ lb) W fun e W' => (∃ v, e = .returned v) ∧ (J xs W' ∨ (∃ pre x post, xs = pre ++ x :: post ∧ Jx (pre ++ [x]) W'))
section
variable {P : Program}

/-- **THE LOOP.** -/
theorem wp_iter_at {α : Type} {g : Operand} {ps : Array Tmp} {assign body : Code} {Q : Exit → Act → World → Prop} {a : Act} {w : World}
    {c₀ gf : Nat} {lb : Array Value} (hg : a.eval g = .func (.func gf) #[] lb) (eg : ∀ args w, (callFunc gf args).run P w = .ok (.enter gf args) w)
    {encs : α → Array Value} {S D : Nat → Prop} {xs : List α} (hit : IterAt P c₀ gf lb encs S D xs w) (hSlt : ∀ k, S k → k ≠ w.heap.size ∧ k ≠ w.heap.size + 1) (hDlt : ∀ k, D k → k ≠ w.heap.size ∧ k ≠ w.heap.size + 1) (hps : ∀ x, (encs x).size = ps.size)
    (I : List α → World → Prop) (Ix : Code → List α → World → Prop)
    (hI : ∀ pre W W', I pre W → Kept (fun k => S k ∨ twoOf w.heap.size k) W W' → I pre W') (hIx : ∀ c pre W W', Ix c pre W → Kept (fun k => S k ∨ twoOf w.heap.size k) W W' → Ix c pre W')
    (h0 : I [] w) (Ax : α → Act → World → Prop) (hAx : ∀ x a' W W', Ax x a' W → Kept (fun k => S k ∨ twoOf w.heap.size k) W W' → Ax x a' W')
    (hassign : ∀ (l : Nat) (pre : List α) (x : α) (W : World) (K : Act → World → Prop), w.heap.size + 2 + c₀ ≤ W.heap.size → I pre W → (∀ a' W', Kept (fun _ => False) W W' → I pre W' → Ax x a' W' → K a' W') →
      assign.wpIn (Fence.wide.inRound l) 0 P (Exit.then K (fun _ _ _ => False)) { tmps := (ps.zip (encs x)).foldl (fun t (p, v) => t.setIfInBounds p v) a.tmps, defers := [] } W)
    (hbody : ∀ (pre : List α) (x : α) (post : List α) (a' : Act) (W : World), xs = pre ++ x :: post → w.heap.size + 2 + c₀ ≤ W.heap.size → (∃ r, W.heap[w.heap.size + 1]? = some (.loop r)) → I pre W → Ax x a' W →
      body.wpIn (Fence.wide.inRound (w.heap.size + 1)) 0 P (roundTo (twoOf w.heap.size) D I Ix (pre ++ [x]) W) a' W)
    (hdone : ∀ W, w.heap.size + 2 ≤ W.heap.size → I xs W → W.heap[w.heap.size]? = some (.deferred (some [])) → Q .normal { a with defers := { target := .collected w.heap.size, args := #[] } :: a.defers } W)
    (hstop : ∀ c pre x post W, w.heap.size + 2 ≤ W.heap.size → xs = pre ++ x :: post → Ix c (pre ++ [x]) W → W.heap[w.heap.size]? = some (.deferred (some [])) → c.wpIn Fence.wide 0 P Q { a with defers := { target := .collected w.heap.size, args := #[] } :: a.defers } W) :
    (Code.rangeFunc g ps assign body).wpIn Fence.wide 0 P Q a w := by
  refine wpIn_rangeFunc ?_
  intro fn hfn'
  rw [show Fence.wide.round = none from rfl]
  obtain ⟨rec, hrec⟩ : ∃ rec : LoopState → Option Code → Loop, rec = fun st pe => { state := st, pending := pe, fn, tmps := a.tmps, params := ps, assign, body, defers := w.heap.size } := ⟨_, rfl⟩
  obtain ⟨B, hB⟩ : ∃ B, B = w.heap.size := ⟨_, rfl⟩
  obtain ⟨W1, hW1⟩ : ∃ W1, (w.alloc (.deferred (some []))).alloc (.loop (rec .ready none)) = W1 := ⟨_, rfl⟩
  have hL1 : W1.heap[B + 1]? = some (.loop (rec .ready none)) := by
    rw [← hW1, hB]; have := World.alloc_heap_new (w.alloc (.deferred (some []))) (.loop (rec .ready none)); rwa [World.size_alloc] at this
  have hK1 : W1.heap[B]? = some (.deferred (some [])) := by
    rw [← hW1, hB]; exact (Below.heap_alloc _ _ _ (by simp)).trans (World.alloc_heap_new w _)
  have hk1 : ∀ T, Kept T w W1 := fun T => by rw [← hW1]; exact ((Kept.refl T w).alloc _).alloc _
  have hI1 : I [] W1 := hI _ _ _ h0 (hk1 _)
  have hsz1 : B + 2 ≤ W1.heap.size := by rw [← hW1, hB]; simp
  have hb1 : Below w.heap.size w W1 := (hk1 (fun _ => False)).to_below _ (Nat.le_refl _) (fun _ h => h.elim)
  have hSB : ∀ k, S k → k ≠ B ∧ k ≠ B + 1 := by rw [hB]; exact hSlt
  have hDB : ∀ k, D k → k ≠ B ∧ k ≠ B + 1 := by rw [hB]; exact hDlt
  -- a step that leaves the two blocks: what it keeps
  have fin : ∀ (jump : Option Code) (W3 : World), W3.heap[B + 1]? = some (.loop { rec .ready none with state := .busy }) → W3.heap[B]? = some (.deferred (some [])) →
      (Instr.endRound (B + 1) jump).run P W3 = .ok (.bool jump.isNone) (W3.putObj (B + 1) (.loop (rec (if jump.isNone then .ready else .done) jump))) ∧
      (W3.putObj (B + 1) (.loop (rec (if jump.isNone then .ready else .done) jump))).heap[B + 1]? = some (.loop (rec (if jump.isNone then .ready else .done) jump)) ∧
      (W3.putObj (B + 1) (.loop (rec (if jump.isNone then .ready else .done) jump))).heap[B]? = some (.deferred (some [])) := fun jump W3 hl3 hd3 => by
    have := run_endRound (P := P) jump hl3
    rw [hrec] at this ⊢
    exact ⟨this, World.putObj_heap_same (Array.getElem?_eq_some_iff.1 hl3).1, (World.putObj_heap_other (by omega)).trans hd3⟩
  refine ⟨B + 1, [{ target := .collected w.heap.size, args := #[] }], W1, { target := .fn (.func gf) lb, args := #[.func (.yield (B + 1)) #[] #[]] }, W1, gf,
    #[.func (.yield (B + 1)) #[] #[]] ++ lb, W1, ?_, ?_, ?_, ?_, (fun h => (by cases h)), ?_⟩
  · rw [← hW1, hrec, hB]; exact run_enterLoop_outer _ _ _ _ _
  · simp only [resolve, hg]
    simp [go_sem]
  · intro f' hf'; exact trivial
  · simp [invoke, go_sem, eg]
  · refine (hit (B + 1)
      (fun pre W => I pre W ∧ W.heap[B + 1]? = some (.loop (rec .ready none)) ∧ W.heap[B]? = some (.deferred (some [])))
      (fun pre W => ∃ c, Ix c pre W ∧ W.heap[B + 1]? = some (.loop (rec .done (some c))) ∧ W.heap[B]? = some (.deferred (some [])))
      W1 hb1 (by rw [← hW1]; simp) ?_ ?_ ?_ ⟨hI1, hL1, hK1⟩).mono ?_
    · rintro pre X Y ⟨hi, hl, hk⟩ hXY
      have n1 := (Array.getElem?_eq_some_iff.1 hl).1
      exact ⟨hI _ _ _ hi (hXY.mono fun k _ hs => .inl hs), (hXY.block _ n1 (fun hs => by have := hSB _ hs; omega)).trans hl, (hXY.block _ (by omega) (fun hs => by have := hSB _ hs; omega)).trans hk⟩
    · rintro pre X Y ⟨c, hi, hl, hk⟩ hXY
      have n1 := (Array.getElem?_eq_some_iff.1 hl).1
      exact ⟨c, hIx _ _ _ _ hi (hXY.mono fun k _ hs => .inl hs), (hXY.block _ n1 (fun hs => by have := hSB _ hs; omega)).trans hl, (hXY.block _ (by omega) (fun hs => by have := hSB _ hs; omega)).trans hk⟩
    · -- ONE ROUND
      rintro pre x post W hx hWs ⟨hi, hl, hk⟩
      have hlt : B + 1 < W.heap.size := (Array.getElem?_eq_some_iff.1 hl).1
      have hy := run_yield (P := P) (args := encs x) hl (by rw [hrec]; exact hps x)
      rw [hrec] at hy
      refine ⟨fn, _, assign, body, hy, roundIn_of_wpIn hfn' (hassign _ pre x W _ (by omega) hi ?_)⟩
      clear hy
      intro a' Wa hka hia hax
      have hla := (hka.block _ hlt (fun h => h)).trans hl
      have hda := (hka.block _ (by omega : B < W.heap.size) (fun h => h)).trans hk
      have hlta : B + 1 < Wa.heap.size := Nat.lt_of_lt_of_le hlt hka.size
      refine ⟨_, run_beginRound hla (by rw [hrec]), ?_⟩
      obtain ⟨Wb, hWb⟩ : ∃ Wb, Wa.putObj (B + 1) (.loop { rec .ready none with state := .busy }) = Wb := ⟨_, rfl⟩
      rw [hWb]
      have hl2 : Wb.heap[B + 1]? = some (.loop { rec .ready none with state := .busy }) := by rw [← hWb]; exact World.putObj_heap_same hlta
      have hd2 : Wb.heap[B]? = some (.deferred (some [])) := by rw [← hWb]; exact (World.putObj_heap_other (by omega)).trans hda
      have hkb : Kept (fun k => k = B + 1) Wa Wb := by rw [← hWb]; exact (Kept.refl _ _).putObj _ _ (.inl rfl)
      have hszb : B + 2 + c₀ ≤ Wb.heap.size := Nat.le_trans (by have := hka.size; omega) hkb.size
      have hib : I pre Wb := hI _ _ _ hia (hkb.mono fun k _ e => .inr (.inr (by rw [e, hB])))
      have haxb : Ax x a' Wb := hAx _ _ _ _ hax (hkb.mono fun k _ e => .inr (.inr (by rw [e, hB])))
      have hbd := hbody pre x post a' Wb hx (by rw [← hB]; exact hszb) ⟨_, by rw [← hB]; exact hl2⟩ hib haxb
      rw [← hB] at hbd
      refine wpIn_mono hbd ?_
      have hWD : ∀ W3, Kept (fun k => ¬ (twoOf B k ∨ D k)) Wb W3 → ∀ o, Kept (fun k => ¬ D k) W (W3.putObj (B + 1) o) := fun W3 h3 o => by
        have nD : ∀ k, k = B + 1 → ¬ D k := fun k e hd => by have := hDB _ hd; omega
        refine ((((hka.mono (T := fun k => ¬ D k) (fun _ _ h => h.elim)).trans (hkb.mono fun k _ e => nD k e)).trans (h3.mono fun k _ h hd => h (.inr hd)))).trans ((Kept.refl _ _).putObj _ _ (.inl (nD _ rfl)))
      have h3l : ∀ W3, Kept (fun k => ¬ (twoOf B k ∨ D k)) Wb W3 → W3.heap[B + 1]? = some (.loop { rec .ready none with state := .busy }) ∧ W3.heap[B]? = some (.deferred (some [])) ∧ ∀ o, Kept (fun k => S k ∨ twoOf w.heap.size k) W3 (W3.putObj (B + 1) o) := fun W3 h3 =>
        ⟨(h3.block _ (by omega) (fun h => h (.inl (.inr rfl)))).trans hl2, (h3.block _ (by omega) (fun h => h (.inl (.inl rfl)))).trans hd2, fun o => (Kept.refl _ _).putObj _ _ (.inl (.inr (.inr (by rw [hB]))))⟩
      rintro e a3 W3 hp
      cases e with
      | normal =>
        obtain ⟨hk3, hi3⟩ := hp
        obtain ⟨q1, q2, q3⟩ := h3l W3 hk3
        obtain ⟨hr, hl4, hk4⟩ := fin none W3 q1 q2
        exact ⟨_, _, hr, .inl ⟨rfl, ⟨hI _ _ _ hi3 (q3 _), hl4, hk4⟩, hWD W3 hk3 _⟩⟩
      | ret =>
        obtain ⟨hk3, hi3⟩ := hp
        obtain ⟨q1, q2, q3⟩ := h3l W3 hk3
        obtain ⟨hr, hl4, hk4⟩ := fin (some .ret) W3 q1 q2
        exact ⟨_, _, hr, .inr ⟨rfl, ⟨.ret, hIx _ _ _ _ hi3 (q3 _), hl4, hk4⟩, hWD W3 hk3 _⟩⟩
      | exit id =>
        obtain ⟨hk3, hi3⟩ := hp
        obtain ⟨q1, q2, q3⟩ := h3l W3 hk3
        obtain ⟨hr, hl4, hk4⟩ := fin (some (.exit id)) W3 q1 q2
        exact ⟨_, _, hr, .inr ⟨rfl, ⟨.exit id, hIx _ _ _ _ hi3 (q3 _), hl4, hk4⟩, hWD W3 hk3 _⟩⟩
      | goto t =>
        obtain ⟨hk3, hi3⟩ := hp
        obtain ⟨q1, q2, q3⟩ := h3l W3 hk3
        obtain ⟨hr, hl4, hk4⟩ := fin (some (.goto t)) W3 q1 q2
        exact ⟨_, _, hr, .inr ⟨rfl, ⟨.goto t, hIx _ _ _ _ hi3 (q3 _), hl4, hk4⟩, hWD W3 hk3 _⟩⟩
      | panic ch => exact hp.elim
      | outgrown => exact hp.elim
    · rintro e W2 ⟨⟨v, rfl⟩, (⟨hi, hl, hk⟩ | ⟨pre, x, post, hx, c, hi, hl, hk⟩)⟩
      · have n1 := (Array.getElem?_eq_some_iff.1 hl).1
        refine ⟨none, _, by have := run_endLoop (P := P) hl (by rw [hrec]; simp); rw [hrec] at this; exact this, ?_⟩
        refine hdone _ (by rw [← hB]; simp [World.putObj]; omega) (hI _ _ _ hi ((Kept.refl _ _).putObj _ _ (.inl (.inr (.inr (by rw [hB])))))) ?_
        rw [← hB]; exact (World.putObj_heap_other (by omega)).trans hk
      · have n1 := (Array.getElem?_eq_some_iff.1 hl).1
        refine ⟨some c, _, by have := run_endLoop (P := P) hl (by rw [hrec]; simp); rw [hrec] at this; exact this, ?_⟩
        refine hstop c pre x post _ (by rw [← hB]; simp [World.putObj]; omega) hx (hIx _ _ _ _ hi ((Kept.refl _ _).putObj _ _ (.inl (.inr (.inr (by rw [hB])))))) ?_
        rw [← hB]; exact (World.putObj_heap_other (by omega)).trans hk
end
theorem wp_iter_put_at {P : Program} {α : Type} {g : Operand} {ps : Array Tmp} {assign body : Code} {Q : Exit → Act → World → Prop} {a : Act} {w : World}
    {c₀ gf : Nat} {lb : Array Value} (hg : a.eval g = .func (.func gf) #[] lb) (eg : ∀ args w, (callFunc gf args).run P w = .ok (.enter gf args) w)
    {encs : α → Array Value} {S D : Nat → Prop} {xs : List α} (hit : IterAt P c₀ gf lb encs S D xs w) (hSlt : ∀ k, S k → k ≠ w.heap.size ∧ k ≠ w.heap.size + 1) (hDlt : ∀ k, D k → k ≠ w.heap.size ∧ k ≠ w.heap.size + 1) (hps : ∀ x, (encs x).size = ps.size)
    (us : α → List (Nat × Value)) (I : List α → World → Prop) (Ix : Code → List α → World → Prop)
    (hI : ∀ pre W W', I pre W → Kept (fun k => S k ∨ twoOf w.heap.size k) W W' → I pre W') (hIx : ∀ c pre W W', Ix c pre W → Kept (fun k => S k ∨ twoOf w.heap.size k) W W' → Ix c pre W')
    (h0 : I [] w)
    (hassign : ∀ (l : Nat) (x : α) (W : World) (K : Act → World → Prop), K { tmps := putAll (us x) ((ps.zip (encs x)).foldl (fun t (p, v) => t.setIfInBounds p v) a.tmps), defers := [] } W →
      assign.wpIn (Fence.wide.inRound l) 0 P (Exit.then K (fun _ _ _ => False)) { tmps := (ps.zip (encs x)).foldl (fun t (p, v) => t.setIfInBounds p v) a.tmps, defers := [] } W)
    (hbody : ∀ (pre : List α) (x : α) (post : List α) (W : World), xs = pre ++ x :: post → w.heap.size + 2 + c₀ ≤ W.heap.size → (∃ r, W.heap[w.heap.size + 1]? = some (.loop r)) → I pre W →
      body.wpIn (Fence.wide.inRound (w.heap.size + 1)) 0 P (roundTo (twoOf w.heap.size) D I Ix (pre ++ [x]) W) { tmps := putAll (us x) ((ps.zip (encs x)).foldl (fun t (p, v) => t.setIfInBounds p v) a.tmps), defers := [] } W)
    (hdone : ∀ W, w.heap.size + 2 ≤ W.heap.size → I xs W → W.heap[w.heap.size]? = some (.deferred (some [])) → Q .normal { a with defers := { target := .collected w.heap.size, args := #[] } :: a.defers } W)
    (hstop : ∀ c pre x post W, w.heap.size + 2 ≤ W.heap.size → xs = pre ++ x :: post → Ix c (pre ++ [x]) W → W.heap[w.heap.size]? = some (.deferred (some [])) → c.wpIn Fence.wide 0 P Q { a with defers := { target := .collected w.heap.size, args := #[] } :: a.defers } W) :
    (Code.rangeFunc g ps assign body).wpIn Fence.wide 0 P Q a w :=
  wp_iter_at hg eg hit hSlt hDlt hps I Ix hI hIx h0 (fun x a' _ => a' = { tmps := putAll (us x) ((ps.zip (encs x)).foldl (fun t (p, v) => t.setIfInBounds p v) a.tmps), defers := [] }) (fun _ _ _ _ h _ => h)
    (fun l _ x W K _ hi hK => hassign l x W K (hK _ _ (Kept.refl _ _) hi rfl)) (fun pre x post a' W hx hsz hr hi ha => by subst ha; exact hbody pre x post W hx hsz hr hi) hdone hstop
/-- The same where the round's outset lays a box. -/
theorem wp_iter_box_at {P : Program} {α : Type} {g : Operand} {ps : Array Tmp} {assign body : Code} {Q : Exit → Act → World → Prop} {a : Act} {w : World}
    {c₀ gf : Nat} {lb : Array Value} (hg : a.eval g = .func (.func gf) #[] lb) (eg : ∀ args w, (callFunc gf args).run P w = .ok (.enter gf args) w)
    {encs : α → Array Value} {S D : Nat → Prop} {xs : List α} (hit : IterAt P c₀ gf lb encs S D xs w) (hSlt : ∀ k, S k → k ≠ w.heap.size ∧ k ≠ w.heap.size + 1) (hDlt : ∀ k, D k → k ≠ w.heap.size ∧ k ≠ w.heap.size + 1) (hps : ∀ x, (encs x).size = ps.size)
    (us : α → Nat → List (Nat × Value)) (R : α → Nat → World → Prop) (hR : ∀ x g W W', R x g W → Kept (fun k => S k ∨ twoOf w.heap.size k) W W' → R x g W') (I : List α → World → Prop) (Ix : Code → List α → World → Prop)
    (hI : ∀ pre W W', I pre W → Kept (fun k => S k ∨ twoOf w.heap.size k) W W' → I pre W') (hIx : ∀ c pre W W', Ix c pre W → Kept (fun k => S k ∨ twoOf w.heap.size k) W W' → Ix c pre W')
    (h0 : I [] w)
    (hassign : ∀ (l : Nat) (pre : List α) (x : α) (W : World) (K : Act → World → Prop), w.heap.size + 2 + c₀ ≤ W.heap.size → I pre W → (∀ g W', Kept (fun _ => False) W W' → I pre W' → R x g W' → K { tmps := putAll (us x g) ((ps.zip (encs x)).foldl (fun t (p, v) => t.setIfInBounds p v) a.tmps), defers := [] } W') →
      assign.wpIn (Fence.wide.inRound l) 0 P (Exit.then K (fun _ _ _ => False)) { tmps := (ps.zip (encs x)).foldl (fun t (p, v) => t.setIfInBounds p v) a.tmps, defers := [] } W)
    (hbody : ∀ (pre : List α) (x : α) (post : List α) (g : Nat) (W : World), xs = pre ++ x :: post → w.heap.size + 2 + c₀ ≤ W.heap.size → (∃ r, W.heap[w.heap.size + 1]? = some (.loop r)) → I pre W → R x g W →
      body.wpIn (Fence.wide.inRound (w.heap.size + 1)) 0 P (roundTo (twoOf w.heap.size) D I Ix (pre ++ [x]) W) { tmps := putAll (us x g) ((ps.zip (encs x)).foldl (fun t (p, v) => t.setIfInBounds p v) a.tmps), defers := [] } W)
    (hdone : ∀ W, w.heap.size + 2 ≤ W.heap.size → I xs W → W.heap[w.heap.size]? = some (.deferred (some [])) → Q .normal { a with defers := { target := .collected w.heap.size, args := #[] } :: a.defers } W)
    (hstop : ∀ c pre x post W, w.heap.size + 2 ≤ W.heap.size → xs = pre ++ x :: post → Ix c (pre ++ [x]) W → W.heap[w.heap.size]? = some (.deferred (some [])) → c.wpIn Fence.wide 0 P Q { a with defers := { target := .collected w.heap.size, args := #[] } :: a.defers } W) :
    (Code.rangeFunc g ps assign body).wpIn Fence.wide 0 P Q a w :=
  wp_iter_at hg eg hit hSlt hDlt hps I Ix hI hIx h0 (fun x a' W => ∃ g, a' = { tmps := putAll (us x g) ((ps.zip (encs x)).foldl (fun t (p, v) => t.setIfInBounds p v) a.tmps), defers := [] } ∧ R x g W) (fun x a' W W' ⟨g, h1, h2⟩ hk => ⟨g, h1, hR x g W W' h2 hk⟩)
    (fun l pre x W K hs hi hK => hassign l pre x W K hs hi fun g W' hk hi' hr => hK _ _ hk hi' ⟨g, rfl, hr⟩) (fun pre x post a' W hx hsz hr hi ⟨g, ha, hg⟩ => by subst ha; exact hbody pre x post g W hx hsz hr hi hg) hdone hstop
end
section
open Go Go.RowKit

/-- Only by its end. -/
def onlyN (R : Act → World → Prop) (e : Exit) (a : Act) (w : World) : Prop := e = .normal ∧ R a w
theorem onlyN_out {R : Act → World → Prop} (h : LetsOut (onlyN R)) : False := by
  unfold LetsOut at h
  first | exact absurd h.1 (by simp) | simp [onlyN] at h
section
variable {P : Program} {ops : Array Oper} {md : Region.Mode} {l : Nat}
theorem roundOper_of_wp {o : Oper} {a : Act} {K K' : Act → World → Prop} {Q' : Exit → Act → World → Prop} {R : Act → World → Prop} {w : World} (hnd : ∀ c, o.op ≠ .defer c) (h : ∀ a w', K a w' → K' a w')
    (hh : o.wp P a w K (onlyN R)) : o.wpIn (Fence.wide.inRound l) 0 P a w K' Q' := by
  refine ⟨fun _ _ => trivial, ?_⟩
  rw [Oper.semAt_plain _ _ _ hnd]
  unfold Oper.wp at hh
  generalize (execOp a.eval o).run P w = r at *
  cases r with
  | ok n w' =>
    cases n <;> simp only [Oper.upon] at hh
    case value u => exact h _ _ hh
    case skip => exact h _ _ hh
    case defer d => exact h _ _ hh
    case row row args => exact ⟨fun hd => (by cases hd), (show RowsIn Fence.wide _ _ _ _ _ _ from fun c cs _ => let ⟨v, w', r, s⟩ := hh c cs; ⟨v, w', h _ _ r, stepsIn_wide.2 s⟩)⟩
    case enter f args =>
      exact ⟨fun hd => (by cases hd), CallsIn.inRound l (callsIn_wide.2 (hh.mono fun e w'' he => by
        cases e with
        | returned v => exact h _ _ he
        | panicked c => exact absurd he.1 (by simp)
        | outgrown => exact (onlyN_out he).elim))⟩
  | halt x w' =>
    cases x <;> simp only [Oper.upon] at hh
    exact absurd hh.1 (by simp)
theorem roundOp_of_wp {i : Nat} {a : Act} {K K' : Act → World → Prop} {Q' : Exit → Act → World → Prop} {R : Act → World → Prop} {w : World} (hnd : noDefer ops = true) (h : ∀ a w', K a w' → K' a w')
    (hh : wpOp P ops (onlyN R) i K a w) : wpOpIn (Fence.wide.inRound l) 0 P ops Q' i K' a w := by
  unfold wpOp at hh
  unfold wpOpIn
  split
  · rename_i ho; simp only [ho] at hh; exact h _ _ hh
  · rename_i o ho
    simp only [ho] at hh
    split
    · rename_i hw
      simp only [hw, if_true] at hh
      rcases hh with hh | hh
      · exact roundOper_of_wp (noDefer_spec hnd ho) h hh
      · exact (onlyN_out hh.2).elim
    · rename_i hw; simp only [hw] at hh; exact ⟨fun _ _ => trivial, h _ _ hh⟩
theorem roundAny_of_any {Q' : Exit → Act → World → Prop} {R : Act → World → Prop} (hnd : noDefer ops = true) (hQ : ∀ a w, R a w → Q' .normal a w) : ∀ (fuel : Nat) (listed : Array Bool) (a : Act) (w : World),
    wpAny P md ops (onlyN R) fuel listed a w → wpAnyIn (Fence.wide.inRound l) 0 P md ops Q' fuel listed a w
  | 0, _, _, _, h => ⟨h.1, hQ _ _ h.2.2⟩
  | fuel + 1, _, _, _, h => ⟨fun h0 => hQ _ _ (h.1 h0).2, fun i hi => roundOp_of_wp hnd (fun a' w' => roundAny_of_any hnd hQ fuel _ a' w') (h.2 i hi)⟩
end
theorem wpIn_region_slots_round {P : Program} {id : Nat} {Q : Exit → Act → World → Prop} {r : Nat} {a0 : Act} {w : World} {l : List Oper} (n m : Nat) (Φ : Nat → Value → World → Prop) (hm : P.follows .mixedOrders = true) (hnd : noDefer l.toArray = true) (hWB : tailWaits n l.toArray = true) (hA : slotsApart n l = true)
    (hG : guardsIn n l = true) (hD : dstIn n m l = true) (hsz : a0.tmps.size = m)
    (hst : ∀ i v W W', i < n → Φ i v W → Below W.heap.size W W' → Φ i v W') (hg : ∀ p ∈ guardsOf n l, ∀ v W, Φ p.1 v W → v = .bool p.2)
    (hop : EachOp P n l Φ a0 w (l.take n) 0)
    (hend : ∀ a W, Below w.heap.size w W → a.tmps.size = m → a.defers = a0.defers → (∀ k, outB' n l k = true → a.tmps.getD k undef = a0.tmps.getD k undef) → (∀ i d, i < n → slotOf l i = some d → Φ i (a.tmps.getD d undef) W) → wpList P l.toArray (onlyN fun a w => Q .normal a w) (l.drop n) a W) :
    (Code.region id l.toArray true).wpIn (Fence.wide.inRound r) 0 P Q a0 w := by
  have hW := tailWaits_spec hWB
  have hnl : n < l.length := by simpa using hW.lt
  refine wpIn_region_any hm (roundAny_of_any (R := fun a w => Q .normal a w) hnd (fun _ _ h => h) _ _ _ _ (any_slots hW hA (Φ := Φ) (a0 := a0) (w := w) hst ?_ ?_ ?_ ?_ _ _ _ _ (by simp) ?_ ?_ ?_ ⟨⟨rfl, rfl, rfl, Nat.le_refl _, fun _ _ => rfl⟩, rfl, rfl, fun _ _ => rfl, ?_⟩))
  · intro i d hi hd
    unfold dstIn at hD
    rw [List.all_eq_true] at hD
    have := hD i (List.mem_range.2 hi)
    rw [hd] at this
    rw [hsz]
    simpa using this
  · intro i o g b hi ho hgd
    unfold guardsIn at hG
    rw [List.all_eq_true] at hG
    have := hG i (List.mem_range.2 hi)
    simp only [ho, hgd, Bool.and_eq_true] at this
    obtain ⟨h1, h2⟩ := this
    refine ⟨Option.isSome_iff_exists.1 h1, depB_of h2, hg (g, b) ?_⟩
    unfold guardsOf
    rw [List.mem_eraseDups, List.mem_filterMap]
    refine ⟨o, ?_, hgd⟩
    have : (l.take n)[i]? = some o := by rw [List.getElem?_take, if_pos hi]; exact ho
    exact List.mem_of_getElem? this
  · intro i o hi ho a W hb _ hold hdep
    have h1 : (l.take n)[i]? = some o := by rw [List.getElem?_take, if_pos hi]; exact ho
    have := hop.get i o h1 a W hb (fun k hk => hold k (outB'_of hk)) (fun j d hj hd => hdep j d (depB_of hj) hd)
    rwa [Nat.zero_add] at this
  · intro a W hSt
    exact hend a W hSt.bel (by rw [hSt.size, hsz]) hSt.defers (fun k hk => hSt.old k (outB'_of hk)) (fun i d hi hd => hSt.new i d hi (by
      have : i < l.length := by omega
      simp [this]) hd)
  · simp [hnl]
  · intro i o' _ hl
    rw [Array.getD_eq_getD_getElem?, Array.getElem?_replicate] at hl
    split at hl <;> cases hl
  · unfold unl
    have := List.countP_le_length (p := fun i => !((Array.replicate l.toArray.size false).getD i true)) (l := List.range l.length)
    simpa using this
  · intro i d hi hl _
    have h1 : i < l.length := by omega
    simp [h1] at hl
theorem wpIn_region_each_round {P : Program} {id : Nat} {Q : Exit → Act → World → Prop} {r : Nat} {a0 : Act} {w : World} {l : List Oper} (n m : Nat) (Φ : Nat → Value → World → Prop) (hm : P.follows .mixedOrders = true) (hnd : noDefer l.toArray = true) (hWB : tailWaits n l.toArray = true) (hA : slotsApart n l = true)
    (hG : guardsIn n l = true) (hD : dstIn n m l = true) (hsz : a0.tmps.size = m)
    (hst : ∀ i v W W', i < n → Φ i v W → Below W.heap.size W W' → Φ i v W') (hg : ∀ p ∈ guardsOf n l, ∀ v W, Φ p.1 v W → v = .bool p.2)
    (hop : EachOp P n l Φ a0 w (l.take n) 0)
    (hend : ∀ (X : Nat → Value) W, Below w.heap.size w W → (∀ i d, i < n → slotOf l i = some d → Φ i (X d) W) → wpList P l.toArray (onlyN fun a w => Q .normal a w) (l.drop n) { tmps := putAll ((slotsOf n l).map fun d => (d, X d)) a0.tmps, defers := a0.defers } W) :
    (Code.region id l.toArray true).wpIn (Fence.wide.inRound r) 0 P Q a0 w :=
  wpIn_region_slots_round n m Φ hm hnd hWB hA hG hD hsz hst hg hop fun a W hb hs hd hold hnew => by
    rw [frame_of (a0 := a0) (n := n) (l := l) (by rw [hs, hsz]) hd hold]
    exact hend (fun d => a.tmps.getD d undef) W hb hnew
end
section
open Go Go.RowKit
theorem at_op {P : Program} {ops : Array Oper} {Q : Exit → Act → World → Prop} {rest : List Oper} {a : Act} {w : World} (d : Option Tmp) (o : Op) {t : TypeId} {p : String} {af : Array Edge} {g : Option (Nat × Bool)}
    (h : wpList P ops Q (⟨d, o, t, p, af, g⟩ :: rest) a w) : wpList P ops Q (⟨d, o, t, p, af, g⟩ :: rest) a w := h
theorem at_opIn {F : Fence} {n : Nat} {P : Program} {ops : Array Oper} {Q : Exit → Act → World → Prop} {rest : List Oper} {a : Act} {w : World} (d : Option Tmp) (o : Op) {t : TypeId} {p : String} {af : Array Edge} {g : Option (Nat × Bool)}
    (h : wpListIn F n P ops Q (⟨d, o, t, p, af, g⟩ :: rest) a w) : wpListIn F n P ops Q (⟨d, o, t, p, af, g⟩ :: rest) a w := h
end
section
open Go Go.RowKit
theorem quiet_load {P : Program} {w0 : World} {o : Oper} {a : Act} {K : Act → Prop} {v p : Value} (ty : TypeId) (x : Operand) (ho : o.op = .load ty x) (hx : a.eval x = p)
    (hr : ∀ q : Sub w0, (Instr.loadAt ty p).run P q.x = .ok v q.x) (hk : K (a.put o.dst v)) : o.quiet P a (fun w' => ∃ q : Sub w0, w' = q.x) K :=
  ⟨v, fun w ⟨q, hq⟩ => by
    subst hq
    unfold Oper.quietAt execOp
    rw [ho]
    simp only [hx, Sem.run_bind, hr q, Result.andThen_ok, Sem.run_pure]
    exact ⟨rfl, rfl⟩, hk⟩
theorem loadAt_row {P : Program} {W : World} {b : Nat} {t : TypeId} {A : Array Value} (r : RowAt W b t A) (ty : TypeId) (d : TypeDesc) (hu : P.underlying ty = some d) (hd : d.isRow = true) (hi : (P.info? ty).map (·.size) = some A.size) :
    (Instr.loadAt ty (.pointer (some ⟨b, 0, none⟩))).run P W = .ok (.agg A) W := by
  have := run_loadAt_mid (P := P) W b 0 ty A.toList d (fun j v hj => by rw [Nat.zero_add]; exact r.cell (by rw [Array.getElem?_toList] at hj; exact hj)) hu hd (by rw [hi, Array.length_toList])
  simpa using this
theorem wpList_load_rowG {P : Program} {ops : Array Oper} {rest : List Oper} {o : Oper} {a : Act} {w : World} {Q : Exit → Act → World → Prop} (hw : Region.wanted o (yielded ops a.tmps) = true) (ty : TypeId) (x : Operand) (ho : o.op = .load ty x)
    (b : Nat) (hx : a.eval x = .pointer (some ⟨b, 0, none⟩)) (t : TypeId) (A : Array Value) (d : TypeDesc) (r : RowAt w b t A) (hu : P.underlying ty = some d) (hd : d.isRow = true) (hi : (P.info? ty).map (·.size) = some A.size)
    (h : wpList P ops Q rest (a.put o.dst (.agg A)) w) : wpList P ops Q (o :: rest) a w :=
  BigFrame.wpList_want hw fun _ hK => by
    have := wp_load_mid (P := P) (K := _) (Q := Q) (op := o) (a := a) (w := w) ty x ho b 0 hx A.toList d (fun j v hj => by rw [Nat.zero_add]; exact r.cell (by rw [Array.getElem?_toList] at hj; exact hj)) hu hd (by rw [hi, Array.length_toList]) (hK _ _ (by simpa using h))
    exact this
end
section
open Go Go.RowKit

/-! ### Rows of strings -/
/-- A slice of strings, read. -/
def IsStrs (w : World) (a : Option Addr) (len : Nat) (ss : List ByteArray) : Prop :=
  (a = none ∧ len = 0 ∧ ss = []) ∨ ∃ x : Addr, a = some x ∧ ss.length = len ∧ (∀ (i : Nat) (s : ByteArray), ss[i]? = some s → w.cell? (x.add i) = some (.string s)) ∧ ∀ s ∈ ss, s.size ≤ maxLen
theorem isStrs_mk {w : World} {x : Addr} {len cap : Nat} {sp : Bool} {ss : List ByteArray} (hl : len ≤ cap) (hz : ss.length = (if sp then cap else len)) (hc : ∀ i, i < ss.length → w.cell? (x.add i) = some (.string (ss.getD i ByteArray.empty))) (hs : ∀ s ∈ ss, s.size ≤ maxLen) :
    ∃ ss', IsStrs w (some x) len ss' := by
  have hge : len ≤ ss.length := by rw [hz]; split <;> omega
  refine ⟨ss.take len, .inr ⟨x, rfl, by simp; omega, fun i s hi => ?_, fun s h => hs s (List.mem_of_mem_take h)⟩⟩
  rw [List.getElem?_take] at hi
  split at hi
  · have hlt := (List.getElem?_eq_some_iff.1 hi).1
    have := hc i hlt
    rw [List.getD_eq_getElem?_getD, hi] at this
    exact this
  · cases hi
theorem IsStrs.len {w : World} {a : Option Addr} {len : Nat} {ss : List ByteArray} (h : IsStrs w a len ss) : ss.length = len := by
  rcases h with ⟨_, rfl, rfl⟩ | ⟨x, _, h, _⟩
  · rfl
  · exact h
theorem IsStrs.at {w : World} {a : Option Addr} {len : Nat} {ss : List ByteArray} (h : IsStrs w a len ss) {i : Nat} {s : ByteArray} (hi : ss[i]? = some s) : ∃ x, a = some x ∧ w.cell? (x.add i) = some (.string s) := by
  rcases h with ⟨_, _, rfl⟩ | ⟨x, hx, _, h, _⟩
  · simp at hi
  · exact ⟨x, hx, h i s hi⟩
theorem IsStrs.below {w w' : World} {a : Option Addr} {len : Nat} {ss : List ByteArray} (h : IsStrs w a len ss) (hB : Below w.heap.size w w') : IsStrs w' a len ss := by
  rcases h with h | ⟨x, hx, hl, hc, hs⟩
  · exact .inl h
  · exact .inr ⟨x, hx, hl, fun i s hi => by
      have h1 := hc i s hi
      exact (hB.cell (World.block_lt_of_cell? w _ h1)).trans h1, hs⟩
end
section
open Go Go.RowKit
set_option linter.unusedSimpArgs false

theorem info_str : (Try.prog.info? 9).map (fun i => (i.zero, i.size, i.bytes)) = some (some (.string ⟨#[]⟩), 1, 16) := by kernel_rfl
/-- A row of strings of the function's own. -/
def Strs (w : World) (base : Nat) (v : Value) (ss : List ByteArray) : Prop := w.ownsRow base 9 1 v ss.length (ss.map Value.string)
theorem Strs.read {w : World} {base : Nat} {v : Value} {ss : List ByteArray} (h : Strs w base v ss) {n : Nat} (hn : ss.length = n) (hz : ∀ s ∈ ss, s.size ≤ maxLen) : ∃ a c, v = .slice a n c ∧ IsStrs w a n ss := by
  subst hn
  rcases h.2 with ⟨hv, h0⟩ | ⟨g, cap, cur, hv, r⟩
  · exact ⟨none, 0, by rw [hv, h0], .inl ⟨rfl, h0, List.eq_nil_of_length_eq_zero h0⟩⟩
  · refine ⟨some ⟨g, 0, none⟩, cap, hv, .inr ⟨_, rfl, rfl, fun i s hi => ?_, hz⟩⟩
    exact World.ownsRow.cells h (g := g) (by rw [hv]; rfl) i (.string s) (by rw [List.getElem?_map, hi]; rfl)
theorem Strs.kept {T : Nat → Prop} {base : Nat} {v : Value} {ns : List ByteArray} {W W' : World} (h : Strs W base v ns) (hk : Kept T W W') (hT : ∀ g, v.ownBlock = some g → ¬ T g) : Strs W' base v ns := by
  refine ⟨h.1, h.2.imp id ?_⟩
  rintro ⟨g, cap, cur, hv, hb, hg, r⟩
  have hlt : g < W.heap.size := (Array.getElem?_eq_some_iff.1 hg).1
  exact ⟨g, cap, cur, hv, hb, (hk.block g hlt (hT g (by rw [hv]; rfl))).trans hg, r⟩
theorem Strs.shape {w : World} {base : Nat} {v : Value} {ss : List ByteArray} (h : Strs w base v ss) : ∃ a c, v = .slice a ss.length c := by
  rcases h.2 with ⟨hv, h0⟩ | ⟨g, cap, cur, hv, _⟩
  · exact ⟨none, 0, by rw [hv, h0]⟩
  · exact ⟨_, cap, hv⟩
theorem Strs.lt {w : World} {base : Nat} {v : Value} {ss : List ByteArray} (h : Strs w base v ss) : ∀ g, v.ownBlock = some g → base ≤ g ∧ g < w.heap.size := fun g hg => World.ownsRow.lt h g hg

theorem own_shape {w : World} {base n : Nat} {e : TypeId} {v : Value} {xs : List Value} (h : w.ownsRow base e 1 v n xs) : ∃ a c, v = .slice a n c := by
  rcases h.2 with ⟨hv, h0⟩ | ⟨g, cap, cur, hv, _⟩
  · exact ⟨none, 0, by rw [hv, h0]⟩
  · exact ⟨_, cap, hv⟩
theorem grown_row {w w' : World} {row : Option Nat} {b : Nat} {t : TypeId} {A : Array Value} (h : RowAt w b t A) (hg : w.grownBy w' row) (hne : some b ≠ row) : RowAt w' b t A := (hg.block b h.lt hne).trans h

theorem Kept.after {S T : Nat → Prop} {A B C : World} (h : Kept S A B) (k : Kept T B C) (hT : ∀ i, i < A.heap.size → T i → S i) : Kept S A C :=
  ⟨k.os.trans h.os, k.tape.trans h.tape, k.output.trans h.output, Nat.le_trans h.size k.size, fun i hi hs => (k.block i (Nat.lt_of_lt_of_le hi h.size) (fun ht => hs (hT i hi ht))).trans (h.block i hi hs)⟩

end
end Go.Proofs.Ytaofpeajfgcjcaa
