/- Catalog: loops over iterators known only once begun; the iterators of Fields, Of. -/
import Derived.Test.YtdjlpmelmhhooaaGreatDoorWkX
import Derived.Test.YtdjlpmelmhhooaaGreatDoorCtX1
import Derived.OwnWalkIn
import Derived.TacticsInMore
import Derived.LoopNIn
import Derived.LoopIn
import Derived.BigFrameIn
import Derived.Shelf.Abstract
import Derived.Shelf.RegionOpen
namespace Go.Proofs.YtdjlpmelmhhooaaGreatDoor
section
open Go Go.RowKit
set_option linter.unusedSimpArgs false
set_option linter.unusedVariables false

/-- What no consumer's round may turn: D, and what has been laid from lo up to m. -/
def heldD (D : Nat → Prop) (lo m : Nat) (k : Nat) : Prop := D k ∨ (lo ≤ k ∧ k < m)
def oneOf (B k : Nat) : Prop := k = B
/-- The contract of an iterator whose list (xs γ) is known only once it has begun; what it has laid by then ends at m γ, and V is true of it as long as this lies there. -/
def IterDyn {α Γ : Type} (P : Program) (g : Nat) (lb : Array Value) (encs : α → Array Value) (S D : Nat → Prop) (xs : Γ → List α) (m : Γ → Nat) (V : Nat → Γ → World → Prop) (w : World) : Prop :=
  ∀ (l : Nat) (J Jx : Γ → List α → World → Prop) (W : World), Below w.heap.size w W →
    (∀ γ pre W1 W2, J γ pre W1 → V W.heap.size γ W2 → Kept (fun k => S k ∨ (W.heap.size ≤ k ∧ k < m γ)) W1 W2 → J γ pre W2) → (∀ γ pre W1 W2, Jx γ pre W1 → V W.heap.size γ W2 → Kept (fun k => S k ∨ (W.heap.size ≤ k ∧ k < m γ)) W1 W2 → Jx γ pre W2) →
    (∀ γ W1, Kept S W W1 → V W.heap.size γ W1 → m γ = W1.heap.size → J γ [] W1) →
    (∀ γ pre x post W1, xs γ = pre ++ x :: post → W.heap.size ≤ m γ → m γ ≤ W1.heap.size → V W.heap.size γ W1 → J γ pre W1 → YieldAt Fence.wide 0 P l (encs x) W1 fun e W' =>
      (e = .returned (.bool true) ∧ J γ (pre ++ [x]) W' ∧ Kept (fun k => ¬ heldD D W.heap.size (m γ) k) W1 W') ∨ (e = .returned (.bool false) ∧ Jx γ (pre ++ [x]) W' ∧ Kept (fun k => ¬ heldD D W.heap.size (m γ) k) W1 W')) →
    CallsIn Fence.wide 0 P g (#[.func (.yield l) #[] #[]] ++ lb) W fun e W' => (∃ v, e = .returned v) ∧ ∃ γ, J γ (xs γ) W' ∨ (∃ pre x post, xs γ = pre ++ x :: post ∧ Jx γ (pre ++ [x]) W')
section
variable {P : Program}
/-- **THE LOOP.** -/
theorem wp_dyn {α Γ : Type} {g : Operand} {ps : Array Tmp} {assign body : Code} {Q : Exit → Act → World → Prop} {a : Act} {w : World}
    {gf : Nat} {lb : Array Value} (hg : a.eval g = .func (.func gf) #[] lb) (eg : ∀ args w, (callFunc gf args).run P w = .ok (.enter gf args) w)
    {encs : α → Array Value} {S D : Nat → Prop} {xs : Γ → List α} {m : Γ → Nat} {V : Nat → Γ → World → Prop} (hit : IterDyn P gf lb encs S D xs m V w) (hSlt : ∀ k, S k → k < w.heap.size) (hDlt : ∀ k, D k → k < w.heap.size) (hps : ∀ x, (encs x).size = ps.size)
    (hV : ∀ γ W W', V (w.heap.size + 2) γ W → Kept (fun k => ¬ heldD D (w.heap.size + 2) (m γ) k) W W' → V (w.heap.size + 2) γ W')
    (I : Γ → List α → World → Prop) (Ix : Code → Γ → List α → World → Prop)
    (hI : ∀ γ pre W W', I γ pre W → V (w.heap.size + 2) γ W' → Kept (fun k => S k ∨ twoOf w.heap.size k ∨ ((w.heap.size + 2) ≤ k ∧ k < m γ)) W W' → I γ pre W') (hIx : ∀ c γ pre W W', Ix c γ pre W → V (w.heap.size + 2) γ W' → Kept (fun k => S k ∨ twoOf w.heap.size k ∨ ((w.heap.size + 2) ≤ k ∧ k < m γ)) W W' → Ix c γ pre W')
    (h0 : ∀ γ W, Kept S w W → w.heap.size + 2 ≤ W.heap.size → m γ = W.heap.size → V (w.heap.size + 2) γ W → I γ [] W) (Ax : α → Act → World → Prop) (hAx : ∀ x a' W W', Ax x a' W → Kept (fun k => twoOf w.heap.size k) W W' → Ax x a' W')
    (hassign : ∀ (l : Nat) (γ : Γ) (pre : List α) (x : α) (W : World) (K : Act → World → Prop), w.heap.size + 2 ≤ m γ → m γ ≤ W.heap.size → I γ pre W → (∀ a' W', Kept (fun _ => False) W W' → I γ pre W' → Ax x a' W' → K a' W') →
      assign.wpIn (Fence.wide.inRound l) 0 P (Exit.then K (fun _ _ _ => False)) { tmps := (ps.zip (encs x)).foldl (fun t (p, v) => t.setIfInBounds p v) a.tmps, defers := [] } W)
    (hbody : ∀ (γ : Γ) (pre : List α) (x : α) (post : List α) (a' : Act) (W : World), xs γ = pre ++ x :: post → w.heap.size + 2 ≤ m γ → m γ ≤ W.heap.size → V (w.heap.size + 2) γ W → (∃ r, W.heap[(w.heap.size + 1)]? = some (.loop r)) → I γ pre W → Ax x a' W →
      body.wpIn (Fence.wide.inRound (w.heap.size + 1)) 0 P (roundTo (twoOf w.heap.size) (heldD D (w.heap.size + 2) (m γ)) (I γ) (fun c => Ix c γ) (pre ++ [x]) W) a' W)
    (hdone : ∀ γ W, w.heap.size + 2 ≤ W.heap.size → I γ (xs γ) W → W.heap[w.heap.size]? = some (.deferred (some [])) → Q .normal { a with defers := { target := .collected w.heap.size, args := #[] } :: a.defers } W)
    (hstop : ∀ c γ pre x post W, w.heap.size + 2 ≤ W.heap.size → xs γ = pre ++ x :: post → Ix c γ (pre ++ [x]) W → W.heap[w.heap.size]? = some (.deferred (some [])) → c.wpIn Fence.wide 0 P Q { a with defers := { target := .collected w.heap.size, args := #[] } :: a.defers } W) :
    (Code.rangeFunc g ps assign body).wpIn Fence.wide 0 P Q a w := by
  refine wpIn_rangeFunc ?_
  intro fn hfn'
  rw [show Fence.wide.round = none from rfl]
  obtain ⟨rec, hrec⟩ : ∃ rec : LoopState → Option Code → Loop, rec = fun st pe => { state := st, pending := pe, fn, tmps := a.tmps, params := ps, assign, body, defers := w.heap.size } := ⟨_, rfl⟩
  obtain ⟨B, hB⟩ : ∃ B, B = w.heap.size := ⟨_, rfl⟩
  obtain ⟨W1, hW1⟩ : ∃ W1, (w.alloc (.deferred (some []))).alloc (.loop (rec .ready none)) = W1 := ⟨_, rfl⟩
  have hL1 : W1.heap[B + 1]? = some (.loop (rec .ready none)) := by
    rw [← hW1, hB]; have := World.alloc_heap_new (w.alloc (.deferred (some []))) (.loop (rec .ready none)); rwa [World.size_alloc] at this
  have hK1 : W1.heap[B]? = some (.deferred (some [])) := by
    rw [← hW1, hB]; exact (Below.heap_alloc _ _ _ (by simp)).trans (World.alloc_heap_new w _)
  have hk1 : ∀ T, Kept T w W1 := fun T => by rw [← hW1]; exact ((Kept.refl T w).alloc _).alloc _
  have hsz1 : W1.heap.size = B + 2 := by rw [← hW1, hB]; simp
  have hb1 : Below w.heap.size w W1 := (hk1 (fun _ => False)).to_below _ (Nat.le_refl _) (fun _ h => h.elim)
  have hSB : ∀ k, S k → k < B := by rw [hB]; exact hSlt
  have hDB : ∀ k, D k → k < B := by rw [hB]; exact hDlt
  rw [← hB] at hV h0 hassign hbody hI hIx
  have nH : ∀ γ k, k = (B + 1) → ¬ heldD D (B + 2) (m γ) k := fun γ k e hd => by
    rcases hd with hd | ⟨hd, _⟩
    · have := hDB _ hd; omega
    · omega
  have fin : ∀ (jump : Option Code) (W3 : World), W3.heap[(B + 1)]? = some (.loop { rec .ready none with state := .busy }) → W3.heap[B]? = some (.deferred (some [])) →
      (Instr.endRound (B + 1) jump).run P W3 = .ok (.bool jump.isNone) (W3.putObj (B + 1) (.loop (rec (if jump.isNone then .ready else .done) jump))) ∧
      (W3.putObj (B + 1) (.loop (rec (if jump.isNone then .ready else .done) jump))).heap[(B + 1)]? = some (.loop (rec (if jump.isNone then .ready else .done) jump)) ∧ (W3.putObj (B + 1) (.loop (rec (if jump.isNone then .ready else .done) jump))).heap[B]? = some (.deferred (some [])) := fun jump W3 hl3 hd3 => by
    have := run_endRound (P := P) jump hl3
    rw [hrec] at this ⊢
    exact ⟨this, World.putObj_heap_same (Array.getElem?_eq_some_iff.1 hl3).1, (World.putObj_heap_other (by omega)).trans hd3⟩
  refine ⟨(B + 1), [{ target := .collected w.heap.size, args := #[] }], W1, { target := .fn (.func gf) lb, args := #[.func (.yield (B + 1)) #[] #[]] }, W1, gf,
    #[.func (.yield (B + 1)) #[] #[]] ++ lb, W1, ?_, ?_, ?_, ?_, (fun h => (by cases h)), ?_⟩
  · rw [← hW1, hrec, hB]; exact run_enterLoop_outer _ _ _ _ _
  · simp only [resolve, hg]
    simp [go_sem]
  · intro f' hf'; exact trivial
  · simp [invoke, go_sem, eg]
  · have hcall := hit (B + 1)
      (fun γ pre W => I γ pre W ∧ V (B + 2) γ W ∧ W.heap[(B + 1)]? = some (.loop (rec .ready none)) ∧ W.heap[B]? = some (.deferred (some [])))
      (fun γ pre W => ∃ c, Ix c γ pre W ∧ V (B + 2) γ W ∧ W.heap[(B + 1)]? = some (.loop (rec .done (some c))) ∧ W.heap[B]? = some (.deferred (some [])))
      W1 hb1
    rw [hsz1] at hcall
    refine CallsIn.mono (F := Fence.wide) (hcall ?_ ?_ ?_ ?_) ?_
    · rintro γ pre X Y ⟨hi, _, hl, hk⟩ hvY hXY
      have n1 := (Array.getElem?_eq_some_iff.1 hl).1
      exact ⟨hI _ _ _ _ hi hvY (hXY.mono fun k _ hs => hs.elim .inl fun h => .inr (.inr h)), hvY, (hXY.block _ n1 (fun hs => by rcases hs with hs | hs; (have := hSB _ hs; omega); omega)).trans hl, (hXY.block _ (by omega) (fun hs => by rcases hs with hs | hs; (have := hSB _ hs; omega); omega)).trans hk⟩
    · rintro γ pre X Y ⟨c, hi, _, hl, hk⟩ hvY hXY
      have n1 := (Array.getElem?_eq_some_iff.1 hl).1
      exact ⟨c, hIx _ _ _ _ _ hi hvY (hXY.mono fun k _ hs => hs.elim .inl fun h => .inr (.inr h)), hvY, (hXY.block _ n1 (fun hs => by rcases hs with hs | hs; (have := hSB _ hs; omega); omega)).trans hl, (hXY.block _ (by omega) (fun hs => by rcases hs with hs | hs; (have := hSB _ hs; omega); omega)).trans hk⟩
    · intro γ Z hZ hv hm
      have hs := hZ.size
      exact ⟨h0 _ _ ((hk1 _).trans hZ) (by omega) hm hv, hv, (hZ.block _ (by omega) (fun hs => by have := hSB _ hs; omega)).trans hL1, (hZ.block _ (by omega) (fun hs => by have := hSB _ hs; omega)).trans hK1⟩
    · rintro γ pre x post W hx hm1 hm2 hv ⟨hi, _, hl, hk⟩
      have hlt : (B + 1) < W.heap.size := (Array.getElem?_eq_some_iff.1 hl).1
      have hy := run_yield (P := P) (args := encs x) hl (by rw [hrec]; exact hps x)
      rw [hrec] at hy
      refine ⟨fn, _, assign, body, hy, roundIn_of_wpIn hfn' (hassign _ γ pre x W _ (by omega) (by omega) hi ?_)⟩
      clear hy
      intro a' Wa hka hia hax
      have hla := (hka.block _ hlt (fun h => h)).trans hl
      have hda := (hka.block _ (by omega : B < W.heap.size) (fun h => h)).trans hk
      have hlta : (B + 1) < Wa.heap.size := Nat.lt_of_lt_of_le hlt hka.size
      refine ⟨_, run_beginRound hla (by rw [hrec]), ?_⟩
      obtain ⟨Wb, hWb⟩ : ∃ Wb, Wa.putObj (B + 1) (.loop { rec .ready none with state := .busy }) = Wb := ⟨_, rfl⟩
      rw [hWb]
      have hl2 : Wb.heap[(B + 1)]? = some (.loop { rec .ready none with state := .busy }) := by rw [← hWb]; exact World.putObj_heap_same hlta
      have hd2 : Wb.heap[B]? = some (.deferred (some [])) := by rw [← hWb]; exact (World.putObj_heap_other (by omega)).trans hda
      have hkb : Kept (fun k => k = (B + 1)) Wa Wb := by rw [← hWb]; exact (Kept.refl _ _).putObj _ _ (.inl rfl)
      have hszb : m γ ≤ Wb.heap.size := Nat.le_trans hm2 (Nat.le_trans hka.size hkb.size)
      have hrB : ∀ k, k = (B + 1) → twoOf B k := fun k e => .inr e
      have haxb : Ax x a' Wb := hAx _ _ _ _ hax (hkb.mono fun k _ e => (hB ▸ hrB k e))
      have hvb : V (B + 2) γ Wb := hV _ _ _ hv ((hka.mono (T := fun k => ¬ heldD D (B + 2) (m γ) k) (fun _ _ h => h.elim)).trans (hkb.mono fun k _ e => nH γ k e))
      have hib : I γ pre Wb := hI _ _ _ _ hia hvb (hkb.mono fun k _ e => .inr (.inl (hrB k e)))
      have hv4 : ∀ W3, Kept (fun k => ¬ (twoOf B k ∨ heldD D (B + 2) (m γ) k)) Wb W3 → ∀ o, V (B + 2) γ (W3.putObj (B + 1) o) := fun W3 h3 o => hV _ _ _ hvb ((h3.mono fun k _ h hd => h (.inr hd)).trans ((Kept.refl _ _).putObj _ _ (.inl (nH γ _ rfl))))
      have hbd := hbody γ pre x post a' Wb hx (by omega) hszb hvb ⟨_, hl2⟩ hib haxb
      refine wpIn_mono hbd ?_
      have hWD : ∀ W3, Kept (fun k => ¬ (twoOf B k ∨ heldD D (B + 2) (m γ) k)) Wb W3 → ∀ o, Kept (fun k => ¬ heldD D (B + 2) (m γ) k) W (W3.putObj (B + 1) o) := fun W3 h3 o => by
        refine ((((hka.mono (T := fun k => ¬ heldD D (B + 2) (m γ) k) (fun _ _ h => h.elim)).trans (hkb.mono fun k _ e => nH γ k e)).trans (h3.mono fun k _ h hd => h (.inr hd)))).trans ((Kept.refl _ _).putObj _ _ (.inl (nH γ _ rfl)))
      have h3l : ∀ W3, Kept (fun k => ¬ (twoOf B k ∨ heldD D (B + 2) (m γ) k)) Wb W3 → W3.heap[(B + 1)]? = some (.loop { rec .ready none with state := .busy }) ∧ W3.heap[B]? = some (.deferred (some [])) ∧ ∀ o, Kept (fun k => S k ∨ twoOf B k ∨ (B + 2 ≤ k ∧ k < m γ)) W3 (W3.putObj (B + 1) o) := fun W3 h3 =>
        ⟨(h3.block _ (by omega) (fun h => h (.inl (hrB _ rfl)))).trans hl2, (h3.block _ (by omega) (fun h => h (.inl (.inl rfl)))).trans hd2, fun o => (Kept.refl _ _).putObj _ _ (.inl (.inr (.inl (hrB _ rfl))))⟩
      rintro e a3 W3 hp
      cases e with
      | normal =>
        obtain ⟨hk3, hi3⟩ := hp
        obtain ⟨q1, q2, q3⟩ := h3l W3 hk3
        obtain ⟨hr, hl4, hk4⟩ := fin none W3 q1 q2
        exact ⟨_, _, hr, .inl ⟨rfl, ⟨hI _ _ _ _ hi3 (hv4 W3 hk3 _) (q3 _), hv4 W3 hk3 _, hl4, hk4⟩, hWD W3 hk3 _⟩⟩
      | ret =>
        obtain ⟨hk3, hi3⟩ := hp
        obtain ⟨q1, q2, q3⟩ := h3l W3 hk3
        obtain ⟨hr, hl4, hk4⟩ := fin (some .ret) W3 q1 q2
        exact ⟨_, _, hr, .inr ⟨rfl, ⟨.ret, hIx _ _ _ _ _ hi3 (hv4 W3 hk3 _) (q3 _), hv4 W3 hk3 _, hl4, hk4⟩, hWD W3 hk3 _⟩⟩
      | exit id =>
        obtain ⟨hk3, hi3⟩ := hp
        obtain ⟨q1, q2, q3⟩ := h3l W3 hk3
        obtain ⟨hr, hl4, hk4⟩ := fin (some (.exit id)) W3 q1 q2
        exact ⟨_, _, hr, .inr ⟨rfl, ⟨.exit id, hIx _ _ _ _ _ hi3 (hv4 W3 hk3 _) (q3 _), hv4 W3 hk3 _, hl4, hk4⟩, hWD W3 hk3 _⟩⟩
      | goto t =>
        obtain ⟨hk3, hi3⟩ := hp
        obtain ⟨q1, q2, q3⟩ := h3l W3 hk3
        obtain ⟨hr, hl4, hk4⟩ := fin (some (.goto t)) W3 q1 q2
        exact ⟨_, _, hr, .inr ⟨rfl, ⟨.goto t, hIx _ _ _ _ _ hi3 (hv4 W3 hk3 _) (q3 _), hv4 W3 hk3 _, hl4, hk4⟩, hWD W3 hk3 _⟩⟩
      | panic ch => exact hp.elim
      | outgrown => exact hp.elim
    · rintro e W2 ⟨⟨v, rfl⟩, γ, (⟨hi, hv, hl, hk⟩ | ⟨pre, x, post, hx, c, hi, hv, hl, hk⟩)⟩
      · have n1 := (Array.getElem?_eq_some_iff.1 hl).1
        refine ⟨none, _, by have := run_endLoop (P := P) hl (by rw [hrec]; simp); rw [hrec] at this; exact this, ?_⟩
        refine hdone γ _ (by rw [← hB]; simp [World.putObj]; omega) (hI _ _ _ _ hi (hV _ _ _ hv ((Kept.refl _ _).putObj _ _ (.inl (nH γ _ rfl)))) ((Kept.refl _ _).putObj _ _ (.inl (.inr (.inl (.inr rfl)))))) ?_
        rw [← hB]; exact (World.putObj_heap_other (by omega)).trans hk
      · have n1 := (Array.getElem?_eq_some_iff.1 hl).1
        refine ⟨some c, _, by have := run_endLoop (P := P) hl (by rw [hrec]; simp); rw [hrec] at this; exact this, ?_⟩
        refine hstop c γ pre x post _ (by rw [← hB]; simp [World.putObj]; omega) hx (hIx _ _ _ _ _ hi (hV _ _ _ hv ((Kept.refl _ _).putObj _ _ (.inl (nH γ _ rfl)))) ((Kept.refl _ _).putObj _ _ (.inl (.inr (.inl (.inr rfl)))))) ?_
        rw [← hB]; exact (World.putObj_heap_other (by omega)).trans hk
/-- **THE LOOP, WITHIN A ROUND.** -/
theorem wp_dynN {α Γ : Type} {g : Operand} {ps : Array Tmp} {assign body : Code} {Q : Exit → Act → World → Prop} {a : Act} {w : World} {l₀ : Nat} {r₀ : Loop} (hl₀ : w.heap[l₀]? = some (.loop r₀))
    {gf : Nat} {lb : Array Value} (hg : a.eval g = .func (.func gf) #[] lb) (eg : ∀ args w, (callFunc gf args).run P w = .ok (.enter gf args) w)
    {encs : α → Array Value} {S D : Nat → Prop} {xs : Γ → List α} {m : Γ → Nat} {V : Nat → Γ → World → Prop} (hit : IterDyn P gf lb encs S D xs m V w) (hSlt : ∀ k, S k → k < w.heap.size) (hDlt : ∀ k, D k → k < w.heap.size) (hps : ∀ x, (encs x).size = ps.size)
    (hV : ∀ γ W W', V (w.heap.size + 1) γ W → Kept (fun k => ¬ heldD D (w.heap.size + 1) (m γ) k) W W' → V (w.heap.size + 1) γ W')
    (I : Γ → List α → World → Prop) (Ix : Code → Γ → List α → World → Prop)
    (hI : ∀ γ pre W W', I γ pre W → V (w.heap.size + 1) γ W' → Kept (fun k => S k ∨ oneOf w.heap.size k ∨ ((w.heap.size + 1) ≤ k ∧ k < m γ)) W W' → I γ pre W') (hIx : ∀ c γ pre W W', Ix c γ pre W → V (w.heap.size + 1) γ W' → Kept (fun k => S k ∨ oneOf w.heap.size k ∨ ((w.heap.size + 1) ≤ k ∧ k < m γ)) W W' → Ix c γ pre W')
    (h0 : ∀ γ W, Kept S w W → w.heap.size + 1 ≤ W.heap.size → m γ = W.heap.size → V (w.heap.size + 1) γ W → I γ [] W) (Ax : α → Act → World → Prop) (hAx : ∀ x a' W W', Ax x a' W → Kept (fun k => oneOf w.heap.size k) W W' → Ax x a' W')
    (hassign : ∀ (l : Nat) (γ : Γ) (pre : List α) (x : α) (W : World) (K : Act → World → Prop), w.heap.size + 1 ≤ m γ → m γ ≤ W.heap.size → I γ pre W → (∀ a' W', Kept (fun _ => False) W W' → I γ pre W' → Ax x a' W' → K a' W') →
      assign.wpIn (Fence.wide.inRound l) 0 P (Exit.then K (fun _ _ _ => False)) { tmps := (ps.zip (encs x)).foldl (fun t (p, v) => t.setIfInBounds p v) a.tmps, defers := [] } W)
    (hbody : ∀ (γ : Γ) (pre : List α) (x : α) (post : List α) (a' : Act) (W : World), xs γ = pre ++ x :: post → w.heap.size + 1 ≤ m γ → m γ ≤ W.heap.size → V (w.heap.size + 1) γ W → (∃ r, W.heap[w.heap.size]? = some (.loop r)) → I γ pre W → Ax x a' W →
      body.wpIn (Fence.wide.inRound w.heap.size) 0 P (roundTo (oneOf w.heap.size) (heldD D (w.heap.size + 1) (m γ)) (I γ) (fun c => Ix c γ) (pre ++ [x]) W) a' W)
    (hdone : ∀ γ W, w.heap.size + 1 ≤ W.heap.size → I γ (xs γ) W → Q .normal a W)
    (hstop : ∀ c γ pre x post W, w.heap.size + 1 ≤ W.heap.size → xs γ = pre ++ x :: post → Ix c γ (pre ++ [x]) W → c.wpIn (Fence.wide.inRound l₀) 0 P Q a W) :
    (Code.rangeFunc g ps assign body).wpIn (Fence.wide.inRound l₀) 0 P Q a w := by
  refine wpIn_rangeFunc ?_
  intro fn hfn'
  rw [show (Fence.wide.inRound l₀).round = some l₀ from rfl]
  obtain ⟨rec, hrec⟩ : ∃ rec : LoopState → Option Code → Loop, rec = fun st pe => { state := st, pending := pe, fn, tmps := a.tmps, params := ps, assign, body, defers := r₀.defers } := ⟨_, rfl⟩
  obtain ⟨B, hB⟩ : ∃ B, B = w.heap.size := ⟨_, rfl⟩
  obtain ⟨W1, hW1⟩ : ∃ W1, w.alloc (.loop (rec .ready none)) = W1 := ⟨_, rfl⟩
  have hL1 : W1.heap[B]? = some (.loop (rec .ready none)) := by
    rw [← hW1, hB]; exact World.alloc_heap_new w _
  have hk1 : ∀ T, Kept T w W1 := fun T => by rw [← hW1]; exact (Kept.refl T w).alloc _
  have hsz1 : W1.heap.size = B + 1 := by rw [← hW1, hB]; simp
  have hb1 : Below w.heap.size w W1 := (hk1 (fun _ => False)).to_below _ (Nat.le_refl _) (fun _ h => h.elim)
  have hSB : ∀ k, S k → k < B := by rw [hB]; exact hSlt
  have hDB : ∀ k, D k → k < B := by rw [hB]; exact hDlt
  rw [← hB] at hV h0 hassign hbody hI hIx
  have nH : ∀ γ k, k = B → ¬ heldD D (B + 1) (m γ) k := fun γ k e hd => by
    rcases hd with hd | ⟨hd, _⟩
    · have := hDB _ hd; omega
    · omega
  have fin : ∀ (jump : Option Code) (W3 : World), W3.heap[B]? = some (.loop { rec .ready none with state := .busy }) →
      (Instr.endRound B jump).run P W3 = .ok (.bool jump.isNone) (W3.putObj B (.loop (rec (if jump.isNone then .ready else .done) jump))) ∧
      (W3.putObj B (.loop (rec (if jump.isNone then .ready else .done) jump))).heap[B]? = some (.loop (rec (if jump.isNone then .ready else .done) jump)) := fun jump W3 hl3 => by
    have := run_endRound (P := P) jump hl3
    rw [hrec] at this ⊢
    exact ⟨this, World.putObj_heap_same (Array.getElem?_eq_some_iff.1 hl3).1⟩
  refine ⟨B, [], W1, { target := .fn (.func gf) lb, args := #[.func (.yield B) #[] #[]] }, W1, gf,
    #[.func (.yield B) #[] #[]] ++ lb, W1, ?_, ?_, ?_, ?_, (fun h => (by cases h)), ?_⟩
  · rw [← hW1, hrec, hB]; exact run_enterLoop_inner hl₀ _ _ _ _ _
  · simp only [resolve, hg]
    simp [go_sem]
  · intro f' hf'; exact trivial
  · simp [invoke, go_sem, eg]
  · have hcall := hit B
      (fun γ pre W => I γ pre W ∧ V (B + 1) γ W ∧ W.heap[B]? = some (.loop (rec .ready none)))
      (fun γ pre W => ∃ c, Ix c γ pre W ∧ V (B + 1) γ W ∧ W.heap[B]? = some (.loop (rec .done (some c))))
      W1 hb1
    rw [hsz1] at hcall
    refine CallsIn.mono (F := Fence.wide) (hcall ?_ ?_ ?_ ?_) ?_
    · rintro γ pre X Y ⟨hi, _, hl⟩ hvY hXY
      have n1 := (Array.getElem?_eq_some_iff.1 hl).1
      exact ⟨hI _ _ _ _ hi hvY (hXY.mono fun k _ hs => hs.elim .inl fun h => .inr (.inr h)), hvY, (hXY.block _ n1 (fun hs => by rcases hs with hs | hs; (have := hSB _ hs; omega); omega)).trans hl⟩
    · rintro γ pre X Y ⟨c, hi, _, hl⟩ hvY hXY
      have n1 := (Array.getElem?_eq_some_iff.1 hl).1
      exact ⟨c, hIx _ _ _ _ _ hi hvY (hXY.mono fun k _ hs => hs.elim .inl fun h => .inr (.inr h)), hvY, (hXY.block _ n1 (fun hs => by rcases hs with hs | hs; (have := hSB _ hs; omega); omega)).trans hl⟩
    · intro γ Z hZ hv hm
      have hs := hZ.size
      exact ⟨h0 _ _ ((hk1 _).trans hZ) (by omega) hm hv, hv, (hZ.block _ (by omega) (fun hs => by have := hSB _ hs; omega)).trans hL1⟩
    · rintro γ pre x post W hx hm1 hm2 hv ⟨hi, _, hl⟩
      have hlt : B < W.heap.size := (Array.getElem?_eq_some_iff.1 hl).1
      have hy := run_yield (P := P) (args := encs x) hl (by rw [hrec]; exact hps x)
      rw [hrec] at hy
      refine ⟨fn, _, assign, body, hy, roundIn_of_wpIn hfn' (hassign _ γ pre x W _ (by omega) (by omega) hi ?_)⟩
      clear hy
      intro a' Wa hka hia hax
      have hla := (hka.block _ hlt (fun h => h)).trans hl

      have hlta : B < Wa.heap.size := Nat.lt_of_lt_of_le hlt hka.size
      refine ⟨_, run_beginRound hla (by rw [hrec]), ?_⟩
      obtain ⟨Wb, hWb⟩ : ∃ Wb, Wa.putObj B (.loop { rec .ready none with state := .busy }) = Wb := ⟨_, rfl⟩
      rw [hWb]
      have hl2 : Wb.heap[B]? = some (.loop { rec .ready none with state := .busy }) := by rw [← hWb]; exact World.putObj_heap_same hlta

      have hkb : Kept (fun k => k = B) Wa Wb := by rw [← hWb]; exact (Kept.refl _ _).putObj _ _ (.inl rfl)
      have hszb : m γ ≤ Wb.heap.size := Nat.le_trans hm2 (Nat.le_trans hka.size hkb.size)
      have hrB : ∀ k, k = B → oneOf B k := fun k e => e
      have haxb : Ax x a' Wb := hAx _ _ _ _ hax (hkb.mono fun k _ e => (hB ▸ hrB k e))
      have hvb : V (B + 1) γ Wb := hV _ _ _ hv ((hka.mono (T := fun k => ¬ heldD D (B + 1) (m γ) k) (fun _ _ h => h.elim)).trans (hkb.mono fun k _ e => nH γ k e))
      have hib : I γ pre Wb := hI _ _ _ _ hia hvb (hkb.mono fun k _ e => .inr (.inl (hrB k e)))
      have hv4 : ∀ W3, Kept (fun k => ¬ (oneOf B k ∨ heldD D (B + 1) (m γ) k)) Wb W3 → ∀ o, V (B + 1) γ (W3.putObj B o) := fun W3 h3 o => hV _ _ _ hvb ((h3.mono fun k _ h hd => h (.inr hd)).trans ((Kept.refl _ _).putObj _ _ (.inl (nH γ _ rfl))))
      have hbd := hbody γ pre x post a' Wb hx (by omega) hszb hvb ⟨_, hl2⟩ hib haxb
      refine wpIn_mono hbd ?_
      have hWD : ∀ W3, Kept (fun k => ¬ (oneOf B k ∨ heldD D (B + 1) (m γ) k)) Wb W3 → ∀ o, Kept (fun k => ¬ heldD D (B + 1) (m γ) k) W (W3.putObj B o) := fun W3 h3 o => by
        refine ((((hka.mono (T := fun k => ¬ heldD D (B + 1) (m γ) k) (fun _ _ h => h.elim)).trans (hkb.mono fun k _ e => nH γ k e)).trans (h3.mono fun k _ h hd => h (.inr hd)))).trans ((Kept.refl _ _).putObj _ _ (.inl (nH γ _ rfl)))
      have h3l : ∀ W3, Kept (fun k => ¬ (oneOf B k ∨ heldD D (B + 1) (m γ) k)) Wb W3 → W3.heap[B]? = some (.loop { rec .ready none with state := .busy }) ∧ ∀ o, Kept (fun k => S k ∨ oneOf B k ∨ (B + 1 ≤ k ∧ k < m γ)) W3 (W3.putObj B o) := fun W3 h3 =>
        ⟨(h3.block _ (by omega) (fun h => h (.inl (hrB _ rfl)))).trans hl2, fun o => (Kept.refl _ _).putObj _ _ (.inl (.inr (.inl (hrB _ rfl))))⟩
      rintro e a3 W3 hp
      cases e with
      | normal =>
        obtain ⟨hk3, hi3⟩ := hp
        obtain ⟨q1, q3⟩ := h3l W3 hk3
        obtain ⟨hr, hl4⟩ := fin none W3 q1
        exact ⟨_, _, hr, .inl ⟨rfl, ⟨hI _ _ _ _ hi3 (hv4 W3 hk3 _) (q3 _), hv4 W3 hk3 _, hl4⟩, hWD W3 hk3 _⟩⟩
      | ret =>
        obtain ⟨hk3, hi3⟩ := hp
        obtain ⟨q1, q3⟩ := h3l W3 hk3
        obtain ⟨hr, hl4⟩ := fin (some .ret) W3 q1
        exact ⟨_, _, hr, .inr ⟨rfl, ⟨.ret, hIx _ _ _ _ _ hi3 (hv4 W3 hk3 _) (q3 _), hv4 W3 hk3 _, hl4⟩, hWD W3 hk3 _⟩⟩
      | exit id =>
        obtain ⟨hk3, hi3⟩ := hp
        obtain ⟨q1, q3⟩ := h3l W3 hk3
        obtain ⟨hr, hl4⟩ := fin (some (.exit id)) W3 q1
        exact ⟨_, _, hr, .inr ⟨rfl, ⟨.exit id, hIx _ _ _ _ _ hi3 (hv4 W3 hk3 _) (q3 _), hv4 W3 hk3 _, hl4⟩, hWD W3 hk3 _⟩⟩
      | goto t =>
        obtain ⟨hk3, hi3⟩ := hp
        obtain ⟨q1, q3⟩ := h3l W3 hk3
        obtain ⟨hr, hl4⟩ := fin (some (.goto t)) W3 q1
        exact ⟨_, _, hr, .inr ⟨rfl, ⟨.goto t, hIx _ _ _ _ _ hi3 (hv4 W3 hk3 _) (q3 _), hv4 W3 hk3 _, hl4⟩, hWD W3 hk3 _⟩⟩
      | panic ch => exact hp.elim
      | outgrown => exact hp.elim
    · rintro e W2 ⟨⟨v, rfl⟩, γ, (⟨hi, hv, hl⟩ | ⟨pre, x, post, hx, c, hi, hv, hl⟩)⟩
      · have n1 := (Array.getElem?_eq_some_iff.1 hl).1
        refine ⟨none, _, by have := run_endLoop (P := P) hl (by rw [hrec]; simp); rw [hrec] at this; exact this, ?_⟩
        refine hdone γ _ (by rw [← hB]; simp [World.putObj]; omega) (hI _ _ _ _ hi (hV _ _ _ hv ((Kept.refl _ _).putObj _ _ (.inl (nH γ _ rfl)))) ((Kept.refl _ _).putObj _ _ (.inl (.inr (.inl (rfl))))))
      · have n1 := (Array.getElem?_eq_some_iff.1 hl).1
        refine ⟨some c, _, by have := run_endLoop (P := P) hl (by rw [hrec]; simp); rw [hrec] at this; exact this, ?_⟩
        refine hstop c γ pre x post _ (by rw [← hB]; simp [World.putObj]; omega) hx (hIx _ _ _ _ _ hi (hV _ _ _ hv ((Kept.refl _ _).putObj _ _ (.inl (nH γ _ rfl)))) ((Kept.refl _ _).putObj _ _ (.inl (.inr (.inl (rfl))))))
theorem wp_dyn_put {α Γ : Type} {g : Operand} {ps : Array Tmp} {assign body : Code} {Q : Exit → Act → World → Prop} {a : Act} {w : World}
    {gf : Nat} {lb : Array Value} (hg : a.eval g = .func (.func gf) #[] lb) (eg : ∀ args w, (callFunc gf args).run P w = .ok (.enter gf args) w)
    {encs : α → Array Value} {S D : Nat → Prop} {xs : Γ → List α} {m : Γ → Nat} {V : Nat → Γ → World → Prop} (hit : IterDyn P gf lb encs S D xs m V w) (hSlt : ∀ k, S k → k < w.heap.size) (hDlt : ∀ k, D k → k < w.heap.size) (hps : ∀ x, (encs x).size = ps.size)
    (hV : ∀ γ W W', V (w.heap.size + 2) γ W → Kept (fun k => ¬ heldD D (w.heap.size + 2) (m γ) k) W W' → V (w.heap.size + 2) γ W') (us : α → List (Nat × Value)) (I : Γ → List α → World → Prop) (Ix : Code → Γ → List α → World → Prop)
    (hI : ∀ γ pre W W', I γ pre W → V (w.heap.size + 2) γ W' → Kept (fun k => S k ∨ twoOf w.heap.size k ∨ ((w.heap.size + 2) ≤ k ∧ k < m γ)) W W' → I γ pre W') (hIx : ∀ c γ pre W W', Ix c γ pre W → V (w.heap.size + 2) γ W' → Kept (fun k => S k ∨ twoOf w.heap.size k ∨ ((w.heap.size + 2) ≤ k ∧ k < m γ)) W W' → Ix c γ pre W')
    (h0 : ∀ γ W, Kept S w W → w.heap.size + 2 ≤ W.heap.size → m γ = W.heap.size → V (w.heap.size + 2) γ W → I γ [] W)
    (hassign : ∀ (l : Nat) (x : α) (W : World) (K : Act → World → Prop), K { tmps := putAll (us x) ((ps.zip (encs x)).foldl (fun t (p, v) => t.setIfInBounds p v) a.tmps), defers := [] } W → assign.wpIn (Fence.wide.inRound l) 0 P (Exit.then K (fun _ _ _ => False)) { tmps := (ps.zip (encs x)).foldl (fun t (p, v) => t.setIfInBounds p v) a.tmps, defers := [] } W)
    (hbody : ∀ (γ : Γ) (pre : List α) (x : α) (post : List α) (W : World), xs γ = pre ++ x :: post → w.heap.size + 2 ≤ m γ → m γ ≤ W.heap.size → V (w.heap.size + 2) γ W → (∃ r, W.heap[(w.heap.size + 1)]? = some (.loop r)) → I γ pre W →
      body.wpIn (Fence.wide.inRound (w.heap.size + 1)) 0 P (roundTo (twoOf w.heap.size) (heldD D (w.heap.size + 2) (m γ)) (I γ) (fun c => Ix c γ) (pre ++ [x]) W) { tmps := putAll (us x) ((ps.zip (encs x)).foldl (fun t (p, v) => t.setIfInBounds p v) a.tmps), defers := [] } W)
    (hdone : ∀ γ W, w.heap.size + 2 ≤ W.heap.size → I γ (xs γ) W → W.heap[w.heap.size]? = some (.deferred (some [])) → Q .normal { a with defers := { target := .collected w.heap.size, args := #[] } :: a.defers } W)
    (hstop : ∀ c γ pre x post W, w.heap.size + 2 ≤ W.heap.size → xs γ = pre ++ x :: post → Ix c γ (pre ++ [x]) W → W.heap[w.heap.size]? = some (.deferred (some [])) → c.wpIn Fence.wide 0 P Q { a with defers := { target := .collected w.heap.size, args := #[] } :: a.defers } W) :
    (Code.rangeFunc g ps assign body).wpIn Fence.wide 0 P Q a w :=
  wp_dyn hg eg hit hSlt hDlt hps hV I Ix hI hIx h0 (fun x a' _ => a' = { tmps := putAll (us x) ((ps.zip (encs x)).foldl (fun t (p, v) => t.setIfInBounds p v) a.tmps), defers := [] }) (fun _ _ _ _ h _ => h)
    (fun l γ _ x W K _ _ hi hK => hassign l x W K (hK _ _ (Kept.refl _ _) hi rfl)) (fun γ pre x post a' W hx h1 h2 h3 hr hi ha => by subst ha; exact hbody γ pre x post W hx h1 h2 h3 hr hi) hdone hstop
/-- The same where the round's outset lays a box. -/
theorem wp_dyn_box {α Γ : Type} {g : Operand} {ps : Array Tmp} {assign body : Code} {Q : Exit → Act → World → Prop} {a : Act} {w : World}
    {gf : Nat} {lb : Array Value} (hg : a.eval g = .func (.func gf) #[] lb) (eg : ∀ args w, (callFunc gf args).run P w = .ok (.enter gf args) w)
    {encs : α → Array Value} {S D : Nat → Prop} {xs : Γ → List α} {m : Γ → Nat} {V : Nat → Γ → World → Prop} (hit : IterDyn P gf lb encs S D xs m V w) (hSlt : ∀ k, S k → k < w.heap.size) (hDlt : ∀ k, D k → k < w.heap.size) (hps : ∀ x, (encs x).size = ps.size)
    (hV : ∀ γ W W', V (w.heap.size + 2) γ W → Kept (fun k => ¬ heldD D (w.heap.size + 2) (m γ) k) W W' → V (w.heap.size + 2) γ W') (us : α → Nat → List (Nat × Value)) (R : α → Nat → World → Prop) (hR : ∀ x g W W', R x g W → Kept (fun k => twoOf w.heap.size k) W W' → R x g W') (I : Γ → List α → World → Prop) (Ix : Code → Γ → List α → World → Prop)
    (hI : ∀ γ pre W W', I γ pre W → V (w.heap.size + 2) γ W' → Kept (fun k => S k ∨ twoOf w.heap.size k ∨ ((w.heap.size + 2) ≤ k ∧ k < m γ)) W W' → I γ pre W') (hIx : ∀ c γ pre W W', Ix c γ pre W → V (w.heap.size + 2) γ W' → Kept (fun k => S k ∨ twoOf w.heap.size k ∨ ((w.heap.size + 2) ≤ k ∧ k < m γ)) W W' → Ix c γ pre W')
    (h0 : ∀ γ W, Kept S w W → w.heap.size + 2 ≤ W.heap.size → m γ = W.heap.size → V (w.heap.size + 2) γ W → I γ [] W)
    (hassign : ∀ (l : Nat) (γ : Γ) (pre : List α) (x : α) (W : World) (K : Act → World → Prop), w.heap.size + 2 ≤ m γ → m γ ≤ W.heap.size → I γ pre W → (∀ g W', Kept (fun _ => False) W W' → I γ pre W' → R x g W' → W.heap.size ≤ g → K { tmps := putAll (us x g) ((ps.zip (encs x)).foldl (fun t (p, v) => t.setIfInBounds p v) a.tmps), defers := [] } W') →
      assign.wpIn (Fence.wide.inRound l) 0 P (Exit.then K (fun _ _ _ => False)) { tmps := (ps.zip (encs x)).foldl (fun t (p, v) => t.setIfInBounds p v) a.tmps, defers := [] } W)
    (hbody : ∀ (γ : Γ) (pre : List α) (x : α) (post : List α) (g : Nat) (W : World), xs γ = pre ++ x :: post → w.heap.size + 2 ≤ m γ → m γ ≤ W.heap.size → V (w.heap.size + 2) γ W → (∃ r, W.heap[(w.heap.size + 1)]? = some (.loop r)) → I γ pre W → R x g W →
      body.wpIn (Fence.wide.inRound (w.heap.size + 1)) 0 P (roundTo (twoOf w.heap.size) (heldD D (w.heap.size + 2) (m γ)) (I γ) (fun c => Ix c γ) (pre ++ [x]) W) { tmps := putAll (us x g) ((ps.zip (encs x)).foldl (fun t (p, v) => t.setIfInBounds p v) a.tmps), defers := [] } W)
    (hdone : ∀ γ W, w.heap.size + 2 ≤ W.heap.size → I γ (xs γ) W → W.heap[w.heap.size]? = some (.deferred (some [])) → Q .normal { a with defers := { target := .collected w.heap.size, args := #[] } :: a.defers } W)
    (hstop : ∀ c γ pre x post W, w.heap.size + 2 ≤ W.heap.size → xs γ = pre ++ x :: post → Ix c γ (pre ++ [x]) W → W.heap[w.heap.size]? = some (.deferred (some [])) → c.wpIn Fence.wide 0 P Q { a with defers := { target := .collected w.heap.size, args := #[] } :: a.defers } W) :
    (Code.rangeFunc g ps assign body).wpIn Fence.wide 0 P Q a w :=
  wp_dyn hg eg hit hSlt hDlt hps hV I Ix hI hIx h0 (fun x a' W => ∃ g, a' = { tmps := putAll (us x g) ((ps.zip (encs x)).foldl (fun t (p, v) => t.setIfInBounds p v) a.tmps), defers := [] } ∧ R x g W) (fun x a' W W' ⟨g, h1, h2⟩ hk => ⟨g, h1, hR x g W W' h2 hk⟩)
    (fun l γ pre x W K h1 h2 hi hK => hassign l γ pre x W K h1 h2 hi fun g W' hk hi' hr _ => hK _ _ hk hi' ⟨g, rfl, hr⟩) (fun γ pre x post a' W hx h1 h2 h3 hr hi ⟨g, ha, hg⟩ => by subst ha; exact hbody γ pre x post g W hx h1 h2 h3 hr hi hg) hdone hstop
theorem wp_dynN_put {α Γ : Type} {g : Operand} {ps : Array Tmp} {assign body : Code} {Q : Exit → Act → World → Prop} {a : Act} {w : World} {l₀ : Nat} {r₀ : Loop} (hl₀ : w.heap[l₀]? = some (.loop r₀))
    {gf : Nat} {lb : Array Value} (hg : a.eval g = .func (.func gf) #[] lb) (eg : ∀ args w, (callFunc gf args).run P w = .ok (.enter gf args) w)
    {encs : α → Array Value} {S D : Nat → Prop} {xs : Γ → List α} {m : Γ → Nat} {V : Nat → Γ → World → Prop} (hit : IterDyn P gf lb encs S D xs m V w) (hSlt : ∀ k, S k → k < w.heap.size) (hDlt : ∀ k, D k → k < w.heap.size) (hps : ∀ x, (encs x).size = ps.size)
    (hV : ∀ γ W W', V (w.heap.size + 1) γ W → Kept (fun k => ¬ heldD D (w.heap.size + 1) (m γ) k) W W' → V (w.heap.size + 1) γ W') (us : α → List (Nat × Value)) (I : Γ → List α → World → Prop) (Ix : Code → Γ → List α → World → Prop)
    (hI : ∀ γ pre W W', I γ pre W → V (w.heap.size + 1) γ W' → Kept (fun k => S k ∨ oneOf w.heap.size k ∨ ((w.heap.size + 1) ≤ k ∧ k < m γ)) W W' → I γ pre W') (hIx : ∀ c γ pre W W', Ix c γ pre W → V (w.heap.size + 1) γ W' → Kept (fun k => S k ∨ oneOf w.heap.size k ∨ ((w.heap.size + 1) ≤ k ∧ k < m γ)) W W' → Ix c γ pre W')
    (h0 : ∀ γ W, Kept S w W → w.heap.size + 1 ≤ W.heap.size → m γ = W.heap.size → V (w.heap.size + 1) γ W → I γ [] W)
    (hassign : ∀ (l : Nat) (x : α) (W : World) (K : Act → World → Prop), K { tmps := putAll (us x) ((ps.zip (encs x)).foldl (fun t (p, v) => t.setIfInBounds p v) a.tmps), defers := [] } W → assign.wpIn (Fence.wide.inRound l) 0 P (Exit.then K (fun _ _ _ => False)) { tmps := (ps.zip (encs x)).foldl (fun t (p, v) => t.setIfInBounds p v) a.tmps, defers := [] } W)
    (hbody : ∀ (γ : Γ) (pre : List α) (x : α) (post : List α) (W : World), xs γ = pre ++ x :: post → w.heap.size + 1 ≤ m γ → m γ ≤ W.heap.size → V (w.heap.size + 1) γ W → (∃ r, W.heap[w.heap.size]? = some (.loop r)) → I γ pre W →
      body.wpIn (Fence.wide.inRound w.heap.size) 0 P (roundTo (oneOf w.heap.size) (heldD D (w.heap.size + 1) (m γ)) (I γ) (fun c => Ix c γ) (pre ++ [x]) W) { tmps := putAll (us x) ((ps.zip (encs x)).foldl (fun t (p, v) => t.setIfInBounds p v) a.tmps), defers := [] } W)
    (hdone : ∀ γ W, w.heap.size + 1 ≤ W.heap.size → I γ (xs γ) W → Q .normal a W)
    (hstop : ∀ c γ pre x post W, w.heap.size + 1 ≤ W.heap.size → xs γ = pre ++ x :: post → Ix c γ (pre ++ [x]) W → c.wpIn (Fence.wide.inRound l₀) 0 P Q a W) :
    (Code.rangeFunc g ps assign body).wpIn (Fence.wide.inRound l₀) 0 P Q a w :=
  wp_dynN hl₀ hg eg hit hSlt hDlt hps hV I Ix hI hIx h0 (fun x a' _ => a' = { tmps := putAll (us x) ((ps.zip (encs x)).foldl (fun t (p, v) => t.setIfInBounds p v) a.tmps), defers := [] }) (fun _ _ _ _ h _ => h)
    (fun l γ _ x W K _ _ hi hK => hassign l x W K (hK _ _ (Kept.refl _ _) hi rfl)) (fun γ pre x post a' W hx h1 h2 h3 hr hi ha => by subst ha; exact hbody γ pre x post W hx h1 h2 h3 hr hi) hdone hstop
/-- The same where the round's outset lays a box. -/
theorem wp_dynN_box {α Γ : Type} {g : Operand} {ps : Array Tmp} {assign body : Code} {Q : Exit → Act → World → Prop} {a : Act} {w : World} {l₀ : Nat} {r₀ : Loop} (hl₀ : w.heap[l₀]? = some (.loop r₀))
    {gf : Nat} {lb : Array Value} (hg : a.eval g = .func (.func gf) #[] lb) (eg : ∀ args w, (callFunc gf args).run P w = .ok (.enter gf args) w)
    {encs : α → Array Value} {S D : Nat → Prop} {xs : Γ → List α} {m : Γ → Nat} {V : Nat → Γ → World → Prop} (hit : IterDyn P gf lb encs S D xs m V w) (hSlt : ∀ k, S k → k < w.heap.size) (hDlt : ∀ k, D k → k < w.heap.size) (hps : ∀ x, (encs x).size = ps.size)
    (hV : ∀ γ W W', V (w.heap.size + 1) γ W → Kept (fun k => ¬ heldD D (w.heap.size + 1) (m γ) k) W W' → V (w.heap.size + 1) γ W') (us : α → Nat → List (Nat × Value)) (R : α → Nat → World → Prop) (hR : ∀ x g W W', R x g W → Kept (fun k => oneOf w.heap.size k) W W' → R x g W') (I : Γ → List α → World → Prop) (Ix : Code → Γ → List α → World → Prop)
    (hI : ∀ γ pre W W', I γ pre W → V (w.heap.size + 1) γ W' → Kept (fun k => S k ∨ oneOf w.heap.size k ∨ ((w.heap.size + 1) ≤ k ∧ k < m γ)) W W' → I γ pre W') (hIx : ∀ c γ pre W W', Ix c γ pre W → V (w.heap.size + 1) γ W' → Kept (fun k => S k ∨ oneOf w.heap.size k ∨ ((w.heap.size + 1) ≤ k ∧ k < m γ)) W W' → Ix c γ pre W')
    (h0 : ∀ γ W, Kept S w W → w.heap.size + 1 ≤ W.heap.size → m γ = W.heap.size → V (w.heap.size + 1) γ W → I γ [] W)
    (hassign : ∀ (l : Nat) (γ : Γ) (pre : List α) (x : α) (W : World) (K : Act → World → Prop), w.heap.size + 1 ≤ m γ → m γ ≤ W.heap.size → I γ pre W → (∀ g W', Kept (fun _ => False) W W' → I γ pre W' → R x g W' → W.heap.size ≤ g → K { tmps := putAll (us x g) ((ps.zip (encs x)).foldl (fun t (p, v) => t.setIfInBounds p v) a.tmps), defers := [] } W') →
      assign.wpIn (Fence.wide.inRound l) 0 P (Exit.then K (fun _ _ _ => False)) { tmps := (ps.zip (encs x)).foldl (fun t (p, v) => t.setIfInBounds p v) a.tmps, defers := [] } W)
    (hbody : ∀ (γ : Γ) (pre : List α) (x : α) (post : List α) (g : Nat) (W : World), xs γ = pre ++ x :: post → w.heap.size + 1 ≤ m γ → m γ ≤ W.heap.size → V (w.heap.size + 1) γ W → (∃ r, W.heap[w.heap.size]? = some (.loop r)) → I γ pre W → R x g W →
      body.wpIn (Fence.wide.inRound w.heap.size) 0 P (roundTo (oneOf w.heap.size) (heldD D (w.heap.size + 1) (m γ)) (I γ) (fun c => Ix c γ) (pre ++ [x]) W) { tmps := putAll (us x g) ((ps.zip (encs x)).foldl (fun t (p, v) => t.setIfInBounds p v) a.tmps), defers := [] } W)
    (hdone : ∀ γ W, w.heap.size + 1 ≤ W.heap.size → I γ (xs γ) W → Q .normal a W)
    (hstop : ∀ c γ pre x post W, w.heap.size + 1 ≤ W.heap.size → xs γ = pre ++ x :: post → Ix c γ (pre ++ [x]) W → c.wpIn (Fence.wide.inRound l₀) 0 P Q a W) :
    (Code.rangeFunc g ps assign body).wpIn (Fence.wide.inRound l₀) 0 P Q a w :=
  wp_dynN hl₀ hg eg hit hSlt hDlt hps hV I Ix hI hIx h0 (fun x a' W => ∃ g, a' = { tmps := putAll (us x g) ((ps.zip (encs x)).foldl (fun t (p, v) => t.setIfInBounds p v) a.tmps), defers := [] } ∧ R x g W) (fun x a' W W' ⟨g, h1, h2⟩ hk => ⟨g, h1, hR x g W W' h2 hk⟩)
    (fun l γ pre x W K h1 h2 hi hK => hassign l γ pre x W K h1 h2 hi fun g W' hk hi' hr _ => hK _ _ hk hi' ⟨g, rfl, hr⟩) (fun γ pre x post a' W hx h1 h2 h3 hr hi ⟨g, ha, hg⟩ => by subst ha; exact hbody γ pre x post g W hx h1 h2 h3 hr hi hg) hdone hstop
end
/-- Leaving behind many loops. -/
theorem leave_many {P : Program} {fn : Func} {tmps : Array Value} {R : Ending → World → Prop} : ∀ (Ds : List Nat) (W : World), (∀ d ∈ Ds, W.heap[d]? = some (.deferred (some []))) → Ds.Nodup →
    (∀ W', Kept (fun k => k ∈ Ds) W W' → ∃ v, (results fn tmps).run P W' = .ok v W' ∧ R (.returned v) W') →
    LeavesInM Fence.wide 0 P fn tmps R (Ds.map fun d => { target := .collected d, args := #[] }) .returning W
  | [], W, _, _, h => leave_none (h W (Kept.refl _ _))
  | d :: Ds, W, hd, hn, h => by
    have h1 := List.nodup_cons.1 hn
    refine ⟨by simp, .inl ⟨d, W.putObj d (.deferred none), rfl, run_takeDeferred (hd d (by simp)), leave_many Ds _ (fun x hx => ?_) h1.2 fun W' hk => h W' ?_⟩⟩
    · exact (World.putObj_heap_other (by rintro rfl; exact h1.1 hx)).trans (hd x (by simp [hx]))
    · exact ((Kept.refl (fun k => k ∈ d :: Ds) W).putObj d _ (.inl (by simp))).trans (hk.mono fun k _ hk => by simp [hk])
end
section
open Go Go.RowKit
set_option linter.unusedSimpArgs false
set_option linter.unusedVariables false

theorem wpListIn_load_mid {F : Fence} {n : Nat} {P : Program} {ops : Array Oper} {rest : List Oper} {o : Oper} {a : Act} {w : World} {Q : Exit → Act → World → Prop} (hgd : o.guard = none) (ty : TypeId) (x : Operand) (ho : o.op = .load ty x)
    (b f : Nat) (hx : a.eval x = .pointer (some ⟨b, f, none⟩)) (cs : List Value) (d : TypeDesc) (hc : w.rangeAt b f cs)
    (hu : P.underlying ty = some d) (hd : d.isRow = true) (hi : (P.info? ty).map (·.size) = some cs.length)
    (h : wpListIn F n P ops Q rest (a.put o.dst (.agg cs.toArray)) w) : wpListIn F n P ops Q (o :: rest) a w := by
  refine wpListIn_plain hgd fun K hK => ?_
  unfold Oper.wpIn
  refine ⟨by simp [Oper.about, ho], ?_⟩
  rw [Oper.semAt_plain F _ _ (by rw [ho]; intro c hc'; cases hc')]
  unfold execOp
  simp only [ho, hx, Instr.loadAt, Instr.sureAddr, Sem.run_bind, Sem.run_pure, Result.andThen_ok, run_loadVar_mid w b f ty cs d hc hu hd hi]
  exact hK _ _ h

abbrev CtP := Option Addr × Nat
def ctR (i : Nat) : CtRow := ctTab.getD i ⟨⟨#[]⟩, 0, 0, 0, [], ⟨#[]⟩⟩
abbrev CtX := Nat × CtP
/-- What is handed out: the number, the field. -/
def encF (x : CtX) : Array Value := #[.int .i64 (x.1 : Nat), .agg ((ctR x.1).cells x.2)]
abbrev CtG := Nat × List CtP
def ctAtP (γ : CtG) (i : Nat) : CtP := γ.2.getD i (none, 0)
def ctXs (γ : CtG) : List CtX := (List.range 32).map fun i => (i, ctAtP γ i)
def ctM (γ : CtG) : Nat := γ.1
/-- The texts of all fields lie where the list says, in what has been laid. -/
def CtV (lo : Nat) (γ : CtG) (W : World) : Prop := ∀ i, i < 32 → IsStrs W (ctAtP γ i).1 (ctR i).texts.length (ctR i).texts ∧ ((ctR i).texts ≠ [] → ∀ x, (ctAtP γ i).1 = some x → lo ≤ x.block ∧ x.block < γ.1)
theorem ctXs_split (γ : CtG) (i : Nat) (h : i < 32) : ctXs γ = (ctXs γ).take i ++ (i, ctAtP γ i) :: (ctXs γ).drop (i + 1) ∧ (ctXs γ).take (i + 1) = (ctXs γ).take i ++ [(i, ctAtP γ i)] := by
  have hl : i < (ctXs γ).length := by simp [ctXs]; exact h
  have e : (ctXs γ)[i] = (i, ctAtP γ i) := by simp [ctXs]
  constructor
  · conv => lhs; rw [← List.take_append_drop i (ctXs γ), List.drop_eq_getElem_cons hl, e]
  · rw [List.take_succ_eq_append_getElem hl, e]
theorem ctXs_pre {γ : CtG} {pre post : List CtX} {x : CtX} (h : ctXs γ = pre ++ x :: post) : pre.length < 32 ∧ x = (pre.length, ctAtP γ pre.length) ∧ pre = (ctXs γ).take pre.length := by
  have h1 : pre.length < 32 := by
    have := congrArg List.length h
    simp [ctXs] at this; omega
  refine ⟨h1, ?_, by rw [h]; simp⟩
  have h2 : (ctXs γ)[pre.length]? = some x := by rw [h]; simp
  have h3 : (ctXs γ)[pre.length]? = some (pre.length, ctAtP γ pre.length) := by simp [ctXs, h1]
  rw [h3] at h2
  exact (Option.some.inj h2).symm
theorem ctXs_all (γ : CtG) : (ctXs γ).take 32 = ctXs γ := List.take_of_length_le (by simp [ctXs])
theorem ctAt_get {B : Nat} {W : World} : ∀ {rs : List CtRow} {ps : List CtP}, CtAt B W rs ps → ∀ (i : Nat) (r : CtRow), rs[i]? = some r → FrStrs B W (ps.getD i (none, 0)).1 r.texts.length r.texts ∧ ∀ (j : Nat) (v : Value), (r.cells (ps.getD i (none, 0)))[j]? = some v → (ctCells rs ps)[i * 6 + j]? = some v
  | [], _, _, i, r, h => by simp at h
  | r0 :: rs, [], h, _, _, _ => h.elim
  | r0 :: rs, p :: ps, h, 0, r, hi => by
    obtain rfl : r0 = r := by simpa using hi
    refine ⟨h.1, fun j v hv => ?_⟩
    have hj : j < 6 := by have := (Array.getElem?_eq_some_iff.1 hv).1; simpa [CtRow.cells, fieldA] using this
    have hv' : ((r0.cells p).toList)[j]? = some v := by rw [Array.getElem?_toList]; simpa using hv
    simp only [ctCells]
    rw [Nat.zero_mul, Nat.zero_add, List.getElem?_append_left (by simp [CtRow.cells, fieldA]; exact hj)]
    exact hv'
  | r0 :: rs, p :: ps, h, i + 1, r, hi => by
    have := ctAt_get h.2 i r (by simpa using hi)
    refine ⟨by simpa using this.1, fun j v hv => ?_⟩
    have h2 := this.2 j v (by simpa using hv)
    simp only [ctCells]
    rw [List.getElem?_append_right (by simp [CtRow.cells, fieldA]; omega)]
    rw [show (i + 1) * 6 + j - (r0.cells p).toList.length = i * 6 + j by simp [CtRow.cells, fieldA]; omega]
    exact h2
theorem ctTab_at (i : Nat) (h : i < 32) : ctTab[i]? = some (ctR i) := by
  have hl : i < ctTab.length := h
  rw [ctR, List.getD_eq_getElem?_getD, List.getElem?_eq_getElem hl]; rfl
theorem IsStrs.keptF {S : Nat → Prop} {w w' : World} {a : Option Addr} {len : Nat} {ss : List ByteArray} (h : IsStrs w a len ss) (hk : Kept S w w') (hS : ss ≠ [] → ∀ x, a = some x → ¬ S x.block) : IsStrs w' a len ss := by
  rcases h with h | ⟨x, hx, hl, hc, hs⟩
  · exact .inl h
  · refine .inr ⟨x, hx, hl, fun i s hi => ?_, hs⟩
    have h1 := hc i s hi
    have hb : (x.add i).block = x.block := by unfold Addr.add; split <;> rfl
    have hne : ss ≠ [] := fun e => by rw [e] at hi; simp at hi
    have h2 := hk.block (x.add i).block (World.block_lt_of_cell? w _ h1) (by rw [hb]; exact hS hne x hx)
    unfold World.cell? at h1 ⊢
    rw [h2]; exact h1
theorem CtV.kept {lo : Nat} {γ : CtG} {S : Nat → Prop} {W W' : World} (h : CtV lo γ W) (hk : Kept S W W') (hS : ∀ k, S k → ¬ (lo ≤ k ∧ k < γ.1)) : CtV lo γ W' := fun i hi =>
  ⟨(h i hi).1.keptF hk (fun hne x hx hs => hS _ hs ((h i hi).2 hne x hx)), (h i hi).2⟩
theorem ctV_of {B m : Nat} {W : World} {ps : List CtP} (h : CtAt B W ctTab ps) (hm : W.heap.size ≤ m) : CtV B (m, ps) W := fun i hi => by
  have := (ctAt_get h i _ (ctTab_at i hi)).1
  refine ⟨this.1, fun hne x hx => ⟨this.2 x hx hne, ?_⟩⟩
  obtain ⟨s, hs⟩ : ∃ s, (ctR i).texts[0]? = some s := by
    cases ht : (ctR i).texts with
    | nil => exact absurd ht hne
    | cons s l => exact ⟨s, rfl⟩
  obtain ⟨y, hy, hc⟩ := this.1.at hs
  obtain rfl : x = y := Option.some.inj (hx.symm.trans hy)
  have := World.block_lt_of_cell? W _ hc
  simp [Addr.add] at this
  exact Nat.lt_of_lt_of_le this hm
theorem ctCells_size (r : CtRow) (p : CtP) : (r.cells p).size = 6 := rfl
theorem ctCells_one (r : CtRow) (p : CtP) : (r.cells p).all (·.oneCell') = true := fieldA_one _ _ _ _ _ _ _ _

attribute [local go_sem] Oper.semAt_some
set_option maxRecDepth 100000 in
set_option maxHeartbeats 8000000 in
theorem fields_on (w : World) : IterDyn Tryz.prog 76 #[] encF (fun _ => False) (fun _ => False) ctXs ctM CtV w := by
  intro l J Jx W hb hJ hJx h0 hY
  have LA := hid (ctAll_any W)
  refine callsIn_of_wp Tryz.func76 rfl trivial ?_
  simp only [Tryz.ntmps76, List.size_toArray, List.length_cons, List.length_nil, Nat.reduceAdd, Nat.reduceSub, Array.replicate_succ, Array.replicate_zero, List.push_toArray, List.append_toArray, List.nil_append, List.cons_append]
  replace h0 := hid h0
  replace hY := hid hY
  replace hJ := hid hJ
  gi_wp2_with (refine ⟨trivial, rfl, ?_⟩; gi_at_call 77; with_reducible refine (callsIn_wide.2 LA.out).mono ?_; rintro e w1 ⟨g, ps, rfl, hR, hA, hgs, hB⟩
               have hK1 := hid (Kept.of_below (S := fun _ => False) hB)
               replace hR := hid hR
               replace hA := hid hA
               replace hB := hid hB)
  obtain ⟨γ, hγ⟩ : ∃ γ : CtG, γ = (w1.heap.size, ps) := ⟨_, rfl⟩
  have hv0 : CtV W.heap.size γ w1 := by rw [hγ]; exact ctV_of hA.out (Nat.le_refl _)
  have hm0 : ctM γ = w1.heap.size := by rw [hγ]; rfl
  have hj0 := h0.out γ w1 hK1.out hv0 hm0
  have hsz0 := hB.out.size
  have hcell : ∀ i j v, i < 32 → ((ctR i).cells (ctAtP γ i))[j]? = some v → (ctCells ctTab ps)[i * 6 + j]? = some v := fun i j v hi hv => by
    rw [hγ] at hv
    exact (ctAt_get hA.out i _ (ctTab_at i hi)).2 j v hv
  have hglt : g < ctM γ := by rw [hm0]; exact hR.out.lt
  have hmW : W.heap.size ≤ ctM γ := by rw [hm0]; exact hsz0
  replace hv0 := hid hv0
  replace hj0 := hid hj0
  have hm1 := hid (Nat.le_of_eq hm0)
  replace hcell := hid hcell
  gi_loopw [6] (fun p wr => ∃ i : Nat, p = .int .i64 (i : Nat) ∧ i ≤ 32 ∧ Hid (J γ ((ctXs γ).take i) wr) ∧ Hid (RowAt wr g 58 (ctCells ctTab ps).toArray) ∧ Hid (CtV W.heap.size γ wr) ∧ Hid (ctM γ ≤ wr.heap.size)) (fun p _ => 33 - (intOf p).toNat)
  case atStart => exact ⟨0, rfl, by omega, hid (by simpa using hj0.out), hR, hv0, hm1⟩
  case round =>
    clear hv0 hj0 hm1 hR hA hB hK1 LA h0
    obtain ⟨i, rfl, hi, hj, hR, hv, hm⟩ := hrel
    by_cases hlt : i < 32
    · obtain ⟨hs1, hs2⟩ := ctXs_split γ i hlt
      have hrng : wr.rangeAt g (i * 6) ((ctR i).cells (ctAtP γ i)).toList := fun j v hj => by
        rw [Array.getElem?_toList] at hj
        exact hR.out.cell (by rw [List.getElem?_toArray]; exact hcell.out i j v hlt hj)
      obtain ⟨C, hC⟩ : ∃ C, C = (ctR i).cells (ctAtP γ i) := ⟨_, rfl⟩
      have hC1 : C.size = 6 := by rw [hC]; rfl
      have hC2 : C.all (·.oneCell') = true := by rw [hC]; exact ctCells_one _ _
      rw [← hC] at hrng
      have hC3 := hid hC
      clear hC
      have g1 : (i : Int) < 32 := by omega
      have g1' : decide ((i : Int) < 32) = true := decide_eq_true g1
      replace hs1 := hid hs1
      replace hs2 := hid hs2
      replace hrng := hid hrng
      replace hC1 := hid hC1
      replace hC2 := hid hC2
      gi_wp2_with (first
        | (with_reducible refine at_opIn (some 10) (.load 58 (.tmp 9)) ?_
           refine wpListIn_load_mid (o := ⟨some 10, .load _ (.tmp 9), _, _, _, _⟩) rfl 58 (.tmp 9) rfl g (i * 6) rfl C.toList _ hrng.out Tryz.underlying58 rfl (by rw [Array.length_toList, hC1.out]; exact infoField) ?_
           clear hrng)
        | (with_reducible refine at_opIn none (.store 58 (.tmp 3) (.tmp 10)) ?_
           refine wpListIn_store_row (o := ⟨none, .store _ (.tmp 3) (.tmp 10), _, _, _, _⟩) rfl 58 (.tmp 3) (.tmp 10) rfl wr.heap.size C rfl (by rfl) 58 _ (RowAt.new wr _ _) (by rw [hC1.out]; exact infoField) (by rw [hC1.out]; rfl) hC2.out ?_
           generalize hYd : World.setRow _ _ _ = Y
           have hkY : Kept (fun _ => False) wr Y := by rw [← hYd]; exact Kept.of_below (below_setRow (below_al (Below.refl _ _) _) (Nat.le_refl _) _)
           have rY : RowAt Y wr.heap.size 58 C := by rw [← hYd]; exact (RowAt.new wr _ _).setRow _
           have hvY := hv.out.kept hkY (fun _ h => h.elim)
           have hjY := hJ.out _ _ _ _ hj.out hvY (hkY.mono fun _ _ h => h.elim)
           have hRY := hkY.row hR.out (fun h => h)
           have hmY := Nat.le_trans hm.out hkY.size
           obtain ⟨fn, tmps, assign, body, hy, hRd⟩ := hY.out γ _ (i, ctAtP γ i) _ Y hs1.out hmW hmY hvY hjY
           simp only [encF, ← hC3.out] at hy
           replace rY := hid rY
           replace hjY := hid hjY
           replace hvY := hid hvY
           replace hRY := hid hRY
           replace hmY := hid hmY
           clear hYd hkY hj hv hR hm)
        | (with_reducible refine at_opIn (some 13) (.load 58 (.tmp 3)) ?_
           refine wpListIn_load_row (o := ⟨some 13, .load _ (.tmp 3), _, _, _, _⟩) rfl 58 (.tmp 3) rfl wr.heap.size rfl 58 C (0, 0) _ rY.out Tryz.underlying58 rfl (by rw [hC1.out]; exact infoField) ?_))
      refine ⟨rfl, hRd.mono ?_⟩
      have hD : ∀ k, W.heap.size ≤ k → k < ctM γ → ¬ ¬ heldD (fun _ => False) W.heap.size (ctM γ) k := fun k h1 h2 h => h (.inr ⟨h1, h2⟩)
      rintro e W2 (⟨rfl, hj4, hk4⟩ | ⟨rfl, hj4, hk4⟩)
      · have hR4 := hid (hk4.row hRY.out (hD g hgs hglt))
        have hv4 := hid (hvY.out.kept hk4 (fun k h1 h2 => h1 (.inr h2)))
        have hm4 := hid (Nat.le_trans hmY.out hk4.size)
        replace hj4 := hid hj4
        clear hk4 hy hRd hjY hvY hRY hmY rY hD
        gi_wp2
        go_roundw
        case rel => exact ⟨i + 1, by go_num, by omega, hid (by rw [hs2.out]; exact hj4.out), hR4, hv4, hm4⟩
        case measure => simp [intOf]; omega
      · gi_wp2
        refine bodyPost_ret (results_none rfl _ _ _) rfl ?_
        exact ⟨⟨_, rfl⟩, γ, .inr ⟨_, _, _, hs1.out, hj4⟩⟩
    · obtain rfl : i = 32 := by omega
      have g1' : decide (((32 : Nat) : Int) < 32) = false := by decide
      gi_wp2
      go_end0
      exact ⟨⟨_, rfl⟩, γ, .inl (by have := hj.out; rwa [ctXs_all] at this)⟩
end
section
open Go Go.RowKit
set_option linter.unusedSimpArgs false
set_option linter.unusedVariables false

theorem wpListIn_load_midG {F : Fence} {n : Nat} {P : Program} {ops : Array Oper} {rest : List Oper} {o : Oper} {a : Act} {w : World} {Q : Exit → Act → World → Prop} (hw : Region.wanted o (yielded ops a.tmps) = true) (ty : TypeId) (x : Operand) (ho : o.op = .load ty x)
    (b f : Nat) (hx : a.eval x = .pointer (some ⟨b, f, none⟩)) (cs : List Value) (d : TypeDesc) (hc : w.rangeAt b f cs)
    (hu : P.underlying ty = some d) (hd : d.isRow = true) (hi : (P.info? ty).map (·.size) = some cs.length)
    (h : wpListIn F n P ops Q rest (a.put o.dst (.agg cs.toArray)) w) : wpListIn F n P ops Q (o :: rest) a w := by
  refine BigFrame.wpListIn_want hw fun K hK => ?_
  unfold Oper.wpIn
  refine ⟨by simp [Oper.about, ho], ?_⟩
  rw [Oper.semAt_plain F _ _ (by rw [ho]; intro c hc'; cases hc')]
  unfold execOp
  simp only [ho, hx, Instr.loadAt, Instr.sureAddr, Sem.run_bind, Sem.run_pure, Result.andThen_ok, run_loadVar_mid w b f ty cs d hc hu hd hi]
  exact hK _ _ h

theorem fields_make (w : World) : Calls Tryz.prog 31 #[] w fun e w' => e = .returned (.func (.func 76) #[] #[]) ∧ w = w' := by
  go_enter Tryz.func31, Tryz.ntmps31
  go_wp2
  go_ret
  exact ⟨rfl, rfl⟩
theorem of_make (m : Int) (w : World) : Calls Tryz.prog 40 #[.int .i64 m] w fun e w' => e = .returned (.func (.func 80) #[] #[.pointer (some ⟨w.heap.size, 0, none⟩)]) ∧ w.alloc (.cells #[.int .i64 m] 3) = w' := by
  go_enter Tryz.func40, Tryz.ntmps40
  go_wp2
  go_ret
  exact ⟨rfl, rfl⟩
/-- How a field stands in a message (numbered from 1). -/
def ctIn (i m : Nat) : UInt8 := (ctR i).inn.data.getD (m - 1) 0
def ctHas (m : Nat) (x : CtX) : Bool := (ctIn x.1 m).toNat != 45
def ctNeed (i m : Nat) : Bool := (ctIn i m).toNat == 82
def ofXs (m : Nat) (γ : CtG) : List CtX := (ctXs γ).filter (ctHas m)
def encO (m : Nat) (x : CtX) : Array Value := #[.agg ((ctR x.1).cells x.2), .bool (ctNeed x.1 m)]
theorem CtV.lo {lo lo' : Nat} {γ : CtG} {W : World} (h : CtV lo γ W) (hl : lo' ≤ lo) : CtV lo' γ W := fun i hi => ⟨(h i hi).1, fun hne x hx => ⟨Nat.le_trans hl ((h i hi).2 hne x hx).1, ((h i hi).2 hne x hx).2⟩⟩
theorem inn_size : ∀ i, i < 32 → (ctR i).inn.size = 9 := by decide
theorem inn_at (i m : Nat) (hi : i < 32) (h1 : 1 ≤ m) (h9 : m ≤ 9) : (ctR i).inn.data[m - 1]? = some (ctIn i m) := by
  have hs : (ctR i).inn.data.size = 9 := inn_size i hi
  rw [ctIn, Array.getD_eq_getD_getElem?, Array.getElem?_eq_getElem (by omega)]; rfl

theorem ofXs_has {m : Nat} {γ : CtG} {pre post : List CtX} {x : CtX} (h : ctXs γ = pre ++ x :: post) (hx : ctHas m x = true) :
    ofXs m γ = pre.filter (ctHas m) ++ x :: post.filter (ctHas m) ∧ (pre ++ [x]).filter (ctHas m) = pre.filter (ctHas m) ++ [x] := by
  constructor
  · rw [ofXs, h, List.filter_append, List.filter_cons_of_pos hx]
  · rw [List.filter_append, List.filter_cons_of_pos hx, List.filter_nil]
theorem ofXs_not {m : Nat} {pre : List CtX} {x : CtX} (hx : ctHas m x = false) : (pre ++ [x]).filter (ctHas m) = pre.filter (ctHas m) := by
  rw [List.filter_append, List.filter_cons_of_neg (by simp [hx]), List.filter_nil, List.append_nil]
/-- What lies beside Of's own loop. -/
structure OfI (J : CtG → List CtX → World → Prop) (m l bm b s : Nat) (γ : CtG) (pre : List CtX) (W : World) : Prop where
  j : J γ (pre.filter (ctHas m)) W
  rm : RowAt W bm 3 #[.int .i64 (m : Nat)]
  ry : RowAt W b 108 #[.func (.yield l) #[] #[]]
  hm : s ≤ ctM γ
  v : CtV s γ W

attribute [local go_sem] Oper.semAt_some
set_option maxRecDepth 100000 in
set_option maxHeartbeats 8000000 in
theorem of_on (m : Nat) (h1 : 1 ≤ m) (h9 : m ≤ 9) (bm : Nat) (w : World) (hbm : RowAt w bm 3 #[.int .i64 (m : Nat)]) :
    IterDyn Tryz.prog 80 #[.pointer (some ⟨bm, 0, none⟩)] (encO m) (fun _ => False) (fun k => k = bm) (ofXs m) ctM CtV w := by
  intro l J Jx W hb hJ hJx h0 hY
  have rm := hbm.below hb hbm.lt
  have hbw := hbm.lt
  have hbW := hb.size
  refine callsIn_of_wp_marks Tryz.func80 rfl trivial ?_
  simp only [Tryz.ntmps80, List.size_toArray, List.length_cons, List.length_nil, Nat.reduceAdd, Nat.reduceSub, Array.replicate_succ, Array.replicate_zero, List.push_toArray, List.append_toArray, List.nil_append, List.cons_append]
  have cm : ∀ o, (W.alloc o).cell? ⟨bm, 0, none⟩ = some (.int .i64 (m : Nat)) := fun o => (rm.alloc o).cell rfl
  have g1 : decide ((m : Int) < 1) = false := decide_eq_false (by omega)
  have g1' : ¬ (m : Int) < 1 := by omega
  have g2 : decide ((9 : Int) < (m : Int)) = false := decide_eq_false (by omega)
  have g2' : ¬ (9 : Int) < (m : Int) := by omega
  replace h0 := hid h0
  replace hY := hid hY
  replace hJ := hid hJ
  replace hJx := hid hJx
  gi_wp2_with (refine ⟨trivial, rfl, ?_⟩; gi_at_call 31; refine (callsIn_wide.2 (fields_make _)).mono ?_; rintro e w2 ⟨rfl, rfl⟩)
  obtain ⟨W0, hW0⟩ : ∃ W0, W0 = W.alloc (.cells #[.func (.yield l) #[] #[]] 108) := ⟨_, rfl⟩
  have ry0 : RowAt W0 W.heap.size 108 #[.func (.yield l) #[] #[]] := by rw [hW0]; exact RowAt.new _ _ _
  have rm0 : RowAt W0 bm 3 #[.int .i64 (m : Nat)] := by rw [hW0]; exact rm.alloc _
  have hk0 : Kept (fun _ => False) W W0 := by rw [hW0]; exact (Kept.refl _ _).alloc _
  have hs0 : W0.heap.size = W.heap.size + 1 := by rw [hW0]; simp
  rw [← hW0]
  clear hW0 cm
  have hT : ∀ γ, W0.heap.size + 2 ≤ ctM γ → ∀ k, (False ∨ twoOf W0.heap.size k ∨ (W0.heap.size + 2 ≤ k ∧ k < ctM γ)) → (False ∨ (W.heap.size ≤ k ∧ k < ctM γ)) := by
    intro γ hm k hk
    rcases hk with hk | hk | hk
    · exact hk.elim
    · rcases hk with hk | hk <;> exact .inr ⟨by omega, by omega⟩
    · exact .inr ⟨by omega, by omega⟩
  refine wp_dyn_box (gf := 76) (lb := #[]) rfl (enters_of Tryz.func76 (by kernel_rfl) rfl) (fields_on W0)
    (fun _ h => h.elim) (fun _ h => h.elim) (fun _ => rfl) (fun γ X Y hv hk => hv.kept hk (fun k h1 h2 => h1 (.inr h2)))
    (fun x g => [(4, .pointer (some ⟨g, 0, none⟩))]) (fun x g X => RowAt X g 58 ((ctR x.1).cells x.2) ∧ W0.heap.size + 2 ≤ g)
    (fun x g X Y h hk => ⟨hk.row h.1 (fun h2 => by have := h.2; rcases h2 with h2 | h2 <;> omega), h.2⟩)
    (fun γ pre X => OfI J m l bm W.heap.size (W0.heap.size + 2) γ pre X)
    (fun c γ pre X => c = .ret ∧ Jx γ (pre.filter (ctHas m)) X ∧ CtV (W0.heap.size + 2) γ X ∧ W0.heap.size + 2 ≤ ctM γ ∧ ∃ pre0 x post, ofXs m γ = pre0 ++ x :: post ∧ pre.filter (ctHas m) = pre0 ++ [x]) ?hI ?hIx ?h0 ?assign ?body ?done ?stop
  case hI =>
    rintro γ pre X Y ⟨h1, h2, h3, h4, h5⟩ hv hk
    exact ⟨hJ.out _ _ _ _ h1 (hv.lo (by omega)) (hk.mono fun k _ h => hT γ h4 k h), hk.row h2 (fun h => by rcases h with h | (h | h) | h; exact h.elim; all_goals omega), hk.row h3 (fun h => by rcases h with h | (h | h) | h; exact h.elim; all_goals omega), h4, hv⟩
  case hIx =>
    rintro c γ pre X Y ⟨hc, h1, _, h2, h3⟩ hv hk
    exact ⟨hc, hJx.out _ _ _ _ h1 (hv.lo (by omega)) (hk.mono fun k _ h => hT γ h2 k h), hv, h2, h3⟩
  case h0 =>
    intro γ X hk hs hm hv
    exact ⟨h0.out γ X (hk0.trans hk) (hv.lo (by omega)) hm, hk.row rm0 (fun h => h), hk.row ry0 (fun h => h), by rw [hm]; exact hs, hv⟩
  case assign =>
    intro l' γ pre x X K hm1 hm2 hi hK
    obtain ⟨C, hC⟩ : ∃ C, C = (ctR x.1).cells x.2 := ⟨_, rfl⟩
    have hC1 : C.size = 6 := by rw [hC]; rfl
    have hC2 : C.all (·.oneCell') = true := by rw [hC]; exact ctCells_one _ _
    simp only [encF]
    rw [fold2]
    rw [← hC] at hK
    replace hi := hid hi
    replace hK := hid hK
    simp only [← hC]
    replace hC1 := hid hC1
    replace hC2 := hid hC2
    have hC3 := hid hC
    clear hC
    simp only [List.zip_toArray, List.foldl_toArray', List.foldl_toArray, List.zip_cons_cons, List.zip_nil_left, List.foldl_cons, List.foldl_nil, List.setIfInBounds_toArray, List.set_cons_zero, List.set_cons_succ]
    gi_wp2_with (with_reducible refine at_opIn none (.store 58 (.tmp 4) (.tmp 14)) ?_
                 refine wpListIn_store_row (o := ⟨none, .store _ (.tmp 4) (.tmp 14), _, _, _, _⟩) rfl 58 (.tmp 4) (.tmp 14) rfl X.heap.size C rfl (by rfl) 58 _ (RowAt.new X _ _) (by rw [hC1.out]; exact infoField) (by rw [hC1.out]; rfl) hC2.out ?_
                 generalize hYd : World.setRow _ _ _ = Y
                 have hkY : Kept (fun _ => False) X Y := by rw [← hYd]; exact Kept.of_below (below_setRow (below_al (Below.refl _ _) _) (Nat.le_refl _) _)
                 have rY : RowAt Y X.heap.size 58 C := by rw [← hYd]; exact (RowAt.new X _ _).setRow _
                 have hfin := hid (hK.out X.heap.size Y hkY ⟨hJ.out _ _ _ _ hi.out.j ((hi.out.v.kept hkY (fun _ h => h.elim)).lo (by omega)) (hkY.mono fun _ _ h => h.elim), hkY.row hi.out.rm (fun h => h), hkY.row hi.out.ry (fun h => h), hi.out.hm, hi.out.v.kept hkY (fun _ h => h.elim)⟩ ⟨rY, by omega⟩ (Nat.le_refl _))
                 clear hYd rY hkY)
    have hh := hfin.out
    simp only [encF, ← hC3.out] at hh
    simpa [putAll] using hh
  case done =>
    rintro γ X hs h hd
    refine leave_one hd ⟨_, results_none rfl _ _ _, ⟨_, rfl⟩, γ, .inl ?_⟩
    refine hJ.out _ _ _ _ h.j ((h.v.kept ((Kept.refl (fun k => k = W0.heap.size) X).putObj _ _ (.inl rfl)) (fun k hk hh => by omega)).lo (by omega)) (((Kept.refl (fun k => k = W0.heap.size) X).putObj _ _ (.inl rfl)).mono fun k _ e => .inr ?_)
    have := h.hm
    exact ⟨by omega, by omega⟩
  case stop =>
    rintro c γ pre x post X hs hx ⟨rfl, h1, hv, h2, pre0, x0, post0, h3, h4⟩ hd
    gi_wp2
    refine leave_one hd ⟨_, results_none rfl _ _ _, ⟨_, rfl⟩, γ, .inr ⟨pre0, x0, post0, h3, ?_⟩⟩
    rw [← h4]
    refine hJx.out _ _ _ _ h1 ((hv.kept ((Kept.refl (fun k => k = W0.heap.size) X).putObj _ _ (.inl rfl)) (fun k hk hh => by omega)).lo (by omega)) (((Kept.refl (fun k => k = W0.heap.size) X).putObj _ _ (.inl rfl)).mono fun k _ e => .inr ⟨by omega, by omega⟩)
  case body =>
    rintro γ pre x post g X hx hm1 hm2 hv hr hi ⟨rg, hg⟩
    obtain ⟨hp32, hxe, hpre⟩ := ctXs_pre hx
    obtain ⟨n, p⟩ := x
    obtain ⟨rfl, rfl⟩ : n = pre.length ∧ p = ctAtP γ pre.length := by simpa using hxe
    obtain ⟨I, hI⟩ : ∃ I, I = (ctR pre.length).inn := ⟨_, rfl⟩
    obtain ⟨c, hc⟩ : ∃ c, c = ctIn pre.length m := ⟨_, rfl⟩
    have hIs : I.size = 9 := by rw [hI]; exact inn_size _ hp32
    have hIc : I.data[m - 1]? = some c := by rw [hI, hc]; exact inn_at _ _ hp32 h1 h9
    obtain ⟨C, hC⟩ : ∃ C, C = (ctR pre.length).cells (ctAtP γ pre.length) := ⟨_, rfl⟩
    have hC1 : C.size = 6 := by rw [hC]; rfl
    have hC5 : C[5]? = some (.string I) := by rw [hC, hI]; rfl
    simp only [encF] at rg ⊢
    rw [fold2]
    rw [← hC] at rg ⊢
    simp only [putAll, List.zip_toArray, List.foldl_toArray', List.foldl_toArray, List.zip_cons_cons, List.zip_nil_left, List.foldl_cons, List.foldl_nil, List.setIfInBounds_toArray, List.set_cons_zero, List.set_cons_succ]
    have c5 : X.cell? ⟨g, 5, none⟩ = some (.string I) := rg.cell hC5
    have cm : X.cell? ⟨bm, 0, none⟩ = some (.int .i64 (m : Nat)) := hi.rm.cell rfl
    have cy : X.cell? ⟨W.heap.size, 0, none⟩ = some (.func (.yield l) #[] #[]) := hi.ry.cell rfl
    have hix : ∀ w, (Instr.index 9 (.string I) (.int .i64 ((m : Int) - 1))).run Tryz.prog w = .ok (.int .u8 (c.toNat : Nat)) w := by
      intro w
      have h2 : ((m : Int) - 1).toNat = m - 1 := by omega
      have h3 : m - 1 < I.size := by omega
      rw [run_index_string (h := Tryz.underlying9), dif_pos ⟨by omega, by omega⟩]
      have h4 : I[m - 1]'h3 = c := by
        have := Array.getElem?_eq_getElem (xs := I.data) (i := m - 1) h3
        rw [this] at hIc
        exact Option.some.inj hIc
      simp only [h2, h4]
    have hrow : X.rangeAt g 0 C.toList := fun j v hj => by rw [Nat.zero_add]; exact rg.cell (by rw [Array.getElem?_toList] at hj; exact hj)
    obtain ⟨hi1, hi2, hi3, hi4, hi5⟩ := hi
    have hC3 := hid hC
    have hc3 := hid hc
    have hI3 := hid hI
    replace hrow := hid hrow
    replace hi1 := hid hi1
    replace hx := hid hx
    replace hv := hid hv
    replace hpre := hid hpre
    replace hC1 := hid hC1
    have hr2 := hid hi2
    have hr3 := hid hi3
    clear hxe hC hc hI hIc hIs hr rg hC5 hi2 hi3 rm rm0 ry0 hbm hk0
    have hb1 : ((c.toNat : Int) == 82) = ctNeed pre.length m := by
      rw [ctNeed, ← hc3.out]
      by_cases q : c.toNat = 82
      · rw [q]; rfl
      · have q2 : ¬ (c.toNat : Int) = 82 := by omega
        rw [beq_eq_false_iff_ne.2 q, beq_eq_false_iff_ne.2 q2]
    by_cases hh : ctHas m (pre.length, ctAtP γ pre.length) = true
    · have hb0 : ((c.toNat : Int) != 45) = true := by
        rw [ctHas, ← hc3.out] at hh
        rw [bne_iff_ne] at hh ⊢
        omega
      obtain ⟨e1, e2⟩ := ofXs_has hx.out hh
      have hm2' : ctM γ ≤ X.heap.size := hm2
      obtain ⟨fn, tmps, assign, body, hy, hRd⟩ := hY.out γ _ (pre.length, ctAtP γ pre.length) _ X e1 (by omega) hm2 (hv.out.lo (by omega)) hi1.out
      simp only [encO, ← hC3.out] at hy
      replace e1 := hid e1
      replace e2 := hid e2
      gi_wp2_with (first
        | (with_reducible refine at_opIn (some 24) (.load 58 (.tmp 4)) ?_
           refine wpListIn_load_midG (o := ⟨some 24, .load _ (.tmp 4), _, _, _, _⟩) rfl 58 (.tmp 4) rfl g 0 rfl C.toList _ hrow.out Tryz.underlying58 rfl (by rw [Array.length_toList, hC1.out]; exact infoField) ?_))
      refine ⟨rfl, RoundIn.mono (F := Fence.wide) hRd ?_⟩
      have hT2 : ∀ k, ¬ heldD (fun k => k = bm) W.heap.size (ctM γ) k → ¬ (twoOf W0.heap.size k ∨ heldD (fun _ => False) (W0.heap.size + 2) (ctM γ) k) := by
        intro k hk h
        rcases h with (h | h) | h | h
        · exact hk (.inr ⟨by omega, by omega⟩)
        · exact hk (.inr ⟨by omega, by omega⟩)
        · exact h
        · exact hk (.inr ⟨by omega, by omega⟩)
      have hbmT : ∀ Y, Kept (fun k => ¬ heldD (fun k => k = bm) W.heap.size (ctM γ) k) X Y → RowAt X bm 3 #[.int .i64 (m : Nat)] → RowAt Y bm 3 #[.int .i64 (m : Nat)] := fun Y hk h => hk.row h (fun h => h (.inl rfl))
      rintro e W2 (⟨rfl, hj4, hk4⟩ | ⟨rfl, hj4, hk4⟩)
      · have hfin := hid (show OfI J m l bm W.heap.size (W0.heap.size + 2) γ (pre ++ [(pre.length, ctAtP γ pre.length)]) W2 from ⟨by rw [e2.out]; exact hj4, hbmT _ hk4 hr2.out, hk4.row hr3.out (fun h => h (.inr ⟨by omega, by omega⟩)), hi4, hv.out.kept hk4 (fun k h1 h2 => h1 (.inr ⟨by omega, h2.2⟩))⟩)
        have hk5 := hid (hk4.mono fun k _ h => hT2 k h)
        clear hj4 hk4 hRd hy hi1
        gi_wp2
        exact ⟨hk5.out, hfin.out⟩
      · have hfin := hid (show Jx γ ((pre ++ [(pre.length, ctAtP γ pre.length)]).filter (ctHas m)) W2 by rw [e2.out]; exact hj4)
        have hv5 := hid (hv.out.kept hk4 (fun k h1 h2 => h1 (.inr ⟨by omega, h2.2⟩)))
        have hk5 := hid (hk4.mono fun k _ h => hT2 k h)
        clear hj4 hk4 hRd hy hi1
        gi_wp2
        exact ⟨hk5.out, rfl, hfin.out, hv5.out, hi4, _, _, _, e1.out, e2.out⟩
    · have hh' : ctHas m (pre.length, ctAtP γ pre.length) = false := by simpa using hh
      have hb0 : ((c.toNat : Int) != 45) = false := by
        rw [ctHas, ← hc3.out] at hh'
        rw [bne_eq_false_iff_eq] at hh' ⊢
        omega
      have e2 := hid (ofXs_not (pre := pre) hh')
      have hfin := hid (show OfI J m l bm W.heap.size (W0.heap.size + 2) γ (pre ++ [(pre.length, ctAtP γ pre.length)]) X from ⟨by rw [e2.out]; exact hi1.out, hr2.out, hr3.out, hi4, hv.out⟩)
      clear hi1
      gi_wp2
      refine ⟨fun f hf => (by cases hf), ?_⟩
      gi_wp2
      exact ⟨Kept.refl _ _, hfin.out⟩
end
end Go.Proofs.YtdjlpmelmhhooaaGreatDoor
