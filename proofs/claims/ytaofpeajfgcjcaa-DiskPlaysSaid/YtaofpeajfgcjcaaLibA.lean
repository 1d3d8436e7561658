/- Laws over whatever program: iterators' loops, rows within a fence, drawn regions, leaving. -/
import Derived.RangeFuncNested
import Derived.RangeFuncBound
import Derived.RangeFuncCalls
import Derived.RangeFuncLeaves
import Derived.Test.YtaofpeajfgcjcaaKit
import Derived.OwnWalkIn
import Derived.TacticsInMore
import Derived.Laws.Tables
import Derived.BigQuiet
import Derived.OrdersIn
import Derived.Lib.ConvBytes
import Derived.Maps.AppendAt
import Derived.OwnWalk
namespace Go.Proofs.Ytaofpeajfgcjcaa
section
open Go Go.RowKit

/-- All blocks that were lie as they lay, but those of S. -/
structure Kept (S : Nat → Prop) (W W' : World) : Prop where
  os : W'.os = W.os
  tape : W'.tape = W.tape
  output : W'.output = W.output
  size : W.heap.size ≤ W'.heap.size
  block : ∀ k, k < W.heap.size → ¬ S k → W'.heap[k]? = W.heap[k]?

theorem Kept.refl (S : Nat → Prop) (W : World) : Kept S W W := ⟨rfl, rfl, rfl, Nat.le_refl _, fun _ _ _ => rfl⟩
theorem Kept.trans {S : Nat → Prop} {A B C : World} (h : Kept S A B) (k : Kept S B C) : Kept S A C :=
  ⟨k.os.trans h.os, k.tape.trans h.tape, k.output.trans h.output, Nat.le_trans h.size k.size, fun i hi hs => (k.block i (Nat.lt_of_lt_of_le hi h.size) hs).trans (h.block i hi hs)⟩
theorem Kept.mono {S T : Nat → Prop} {A B : World} (h : Kept S A B) (hST : ∀ k, k < A.heap.size → S k → T k) : Kept T A B :=
  ⟨h.os, h.tape, h.output, h.size, fun k hk hT => h.block k hk (fun hs => hT (hST k hk hs))⟩
theorem Kept.alloc {S : Nat → Prop} {A B : World} (h : Kept S A B) (o : Obj) : Kept S A (B.alloc o) :=
  h.trans ⟨rfl, rfl, rfl, by simp, fun k hk _ => Below.heap_alloc B o k hk⟩
theorem Kept.drew {S : Nat → Prop} {A B : World} (h : Kept S A B) : Kept S A B.drew := ⟨h.os, h.tape, h.output, h.size, h.block⟩
theorem Kept.setCell {S : Nat → Prop} {A B : World} (h : Kept S A B) (p : Addr) (hp : S p.block ∨ A.heap.size ≤ p.block) (v : Value) : Kept S A (B.setCell p v) :=
  ⟨h.os, h.tape, h.output, by rw [World.size_setCell]; exact h.size, fun k hk hs => (Below.heap_setCell B p v k (fun e => by subst e; exact hp.elim (fun hp => hs hp) (fun hp => by omega))).trans (h.block k hk hs)⟩
theorem Kept.putObj {S : Nat → Prop} {A B : World} (h : Kept S A B) (l : Nat) (o : Obj) (hl : S l ∨ A.heap.size ≤ l) : Kept S A (B.putObj l o) :=
  ⟨h.os, h.tape, h.output, by simp only [World.putObj, Array.size_setIfInBounds]; exact h.size, fun k hk hs => (World.putObj_heap_other (fun e => by subst e; exact hl.elim (fun hl => hs hl) (fun hl => by omega))).trans (h.block k hk hs)⟩
theorem Kept.below {S : Nat → Prop} {A B C : World} (h : Kept S A B) (hb : Below B.heap.size B C) : Kept S A C :=
  h.trans ⟨hb.os, hb.tape, hb.output, hb.size, fun k hk _ => hb.block k hk⟩
theorem Kept.of_below {S : Nat → Prop} {A B : World} (hb : Below A.heap.size A B) : Kept S A B := (Kept.refl S A).below hb
theorem Kept.to_below {S : Nat → Prop} {A B : World} (h : Kept S A B) (n : Nat) (hn : n ≤ A.heap.size) (hs : ∀ k, S k → n ≤ k) : Below n A B :=
  ⟨h.os, h.tape, h.output, h.size, fun k hk => h.block k (by omega) (fun hsk => by have := hs k hsk; omega)⟩
theorem Kept.row {S : Nat → Prop} {A B : World} {b : Nat} {t : TypeId} {cs : Array Value} (h : Kept S A B) (hr : RowAt A b t cs) (hb : ¬ S b) : RowAt B b t cs := (h.block b hr.lt hb).trans hr

/-- The contract of an iterator (function g, with what it has captured) that hands out the very list xs: it turns no block but its own (S), allocates, and reads between two rounds only what lies in D. -/
def IterOn {α : Type} (P : Program) (g : Nat) (lb : Array Value) (encs : α → Array Value) (S D : Nat → Prop) (xs : List α) (w : World) : Prop :=
  ∀ (l : Nat) (J Jx : List α → World → Prop) (W : World), Below w.heap.size w W →
    (∀ pre W1 W2, J pre W1 → Kept S W1 W2 → J pre W2) → (∀ pre W1 W2, Jx pre W1 → Kept S W1 W2 → Jx pre W2) →
    (∀ pre x post W1, xs = pre ++ x :: post → W.heap.size ≤ W1.heap.size → J pre W1 → YieldAt Fence.wide 0 P l (encs x) W1 fun e W' =>
      (e = .returned (.bool true) ∧ J (pre ++ [x]) W' ∧ Kept (fun k => ¬ D k) W1 W') ∨ (e = .returned (.bool false) ∧ Jx (pre ++ [x]) W' ∧ Kept (fun k => ¬ D k) W1 W')) →
    J [] W →
    CallsIn Fence.wide 0 P g (#[.func (.yield l) #[] #[]] ++ lb) W fun e W' => (∃ v, e = .returned v) ∧ (J xs W' ∨ (∃ pre x post, xs = pre ++ x :: post ∧ Jx (pre ++ [x]) W'))

/-- How a round's body is left. K: what it must leave as it lay. -/
def roundTo {α : Type} (K D : Nat → Prop) (I : List α → World → Prop) (Ix : Code → List α → World → Prop) (ys : List α) (W : World) : Exit → Act → World → Prop
  | .normal, _, W' => Kept (fun k => ¬ (K k ∨ D k)) W W' ∧ I ys W'
  | .ret, _, W' => Kept (fun k => ¬ (K k ∨ D k)) W W' ∧ Ix .ret ys W'
  | .exit id, _, W' => Kept (fun k => ¬ (K k ∨ D k)) W W' ∧ Ix (.exit id) ys W'
  | .goto t, _, W' => Kept (fun k => ¬ (K k ∨ D k)) W W' ∧ Ix (.goto t) ys W'
  | .panic _, _, _ => False
  | .outgrown, _, _ => False

section
variable {P : Program}

/-- The two blocks of book-keeping of a loop that begins in w: B (the deferred calls') and B + 1 (the record's). -/
def twoOf (B k : Nat) : Prop := k = B ∨ k = B + 1

/-- **THE LOOP.** -/
theorem wp_iter {α : Type} {g : Operand} {ps : Array Tmp} {assign body : Code} {Q : Exit → Act → World → Prop} {a : Act} {w : World}
    {gf : Nat} {lb : Array Value} (hg : a.eval g = .func (.func gf) #[] lb) (eg : ∀ args w, (callFunc gf args).run P w = .ok (.enter gf args) w)
    {encs : α → Array Value} {S D : Nat → Prop} {xs : List α} (hit : IterOn P gf lb encs S D xs w) (hSlt : ∀ k, S k → k < w.heap.size) (hDlt : ∀ k, D k → k < w.heap.size) (hps : ∀ x, (encs x).size = ps.size)
    (I : List α → World → Prop) (Ix : Code → List α → World → Prop)
    (hI : ∀ pre W W', I pre W → Kept (fun k => S k ∨ twoOf w.heap.size k) W W' → I pre W') (hIx : ∀ c pre W W', Ix c pre W → Kept (fun k => S k ∨ twoOf w.heap.size k) W W' → Ix c pre W')
    (h0 : I [] w) (Ax : α → Act → World → Prop) (hAx : ∀ x a' W W', Ax x a' W → Kept (fun k => S k ∨ twoOf w.heap.size k) W W' → Ax x a' W')
    (hassign : ∀ (l : Nat) (pre : List α) (x : α) (W : World) (K : Act → World → Prop), w.heap.size + 2 ≤ W.heap.size → I pre W → (∀ a' W', Kept (fun _ => False) W W' → I pre W' → Ax x a' W' → K a' W') →
      assign.wpIn (Fence.wide.inRound l) 0 P (Exit.then K (fun _ _ _ => False)) { tmps := (ps.zip (encs x)).foldl (fun t (p, v) => t.setIfInBounds p v) a.tmps, defers := [] } W)
    (hbody : ∀ (pre : List α) (x : α) (post : List α) (a' : Act) (W : World), xs = pre ++ x :: post → w.heap.size + 2 ≤ W.heap.size → (∃ r, W.heap[w.heap.size + 1]? = some (.loop r)) → I pre W → Ax x a' W →
      body.wpIn (Fence.wide.inRound (w.heap.size + 1)) 0 P (roundTo (twoOf w.heap.size) D I Ix (pre ++ [x]) W) a' W)
    (hdone : ∀ W, w.heap.size + 2 ≤ W.heap.size → I xs W → W.heap[w.heap.size]? = some (.deferred (some [])) → Q .normal { a with defers := { target := .collected w.heap.size, args := #[] } :: a.defers } W)
    (hstop : ∀ c pre x post W, w.heap.size + 2 ≤ W.heap.size → xs = pre ++ x :: post → Ix c (pre ++ [x]) W → W.heap[w.heap.size]? = some (.deferred (some [])) → c.wpIn Fence.wide 0 P Q { a with defers := { target := .collected w.heap.size, args := #[] } :: a.defers } W) :
    (Code.rangeFunc g ps assign body).wpIn Fence.wide 0 P Q a w := by
  refine wpIn_rangeFunc ?_
  intro fn hfn'
  rw [show Fence.wide.round = none from rfl]
  obtain ⟨rec, hrec⟩ : ∃ rec : LoopState → Option Code → Loop, rec = fun st pe => { state := st, pending := pe, fn, tmps := a.tmps, params := ps, assign, body, defers := w.heap.size } := ⟨_, rfl⟩
  obtain ⟨B, hB⟩ : ∃ B, B = w.heap.size := ⟨_, rfl⟩
  obtain ⟨W1, hW1⟩ : ∃ W1, (w.alloc (.deferred (some []))).alloc (.loop (rec .ready none)) = W1 := ⟨_, rfl⟩
  have hL1 : W1.heap[B + 1]? = some (.loop (rec .ready none)) := by
    rw [← hW1, hB]; have := World.alloc_heap_new (w.alloc (.deferred (some []))) (.loop (rec .ready none)); rwa [World.size_alloc] at this
  have hK1 : W1.heap[B]? = some (.deferred (some [])) := by
    rw [← hW1, hB]; exact (Below.heap_alloc _ _ _ (by simp)).trans (World.alloc_heap_new w _)
  have hk1 : ∀ T, Kept T w W1 := fun T => by rw [← hW1]; exact ((Kept.refl T w).alloc _).alloc _
  have hI1 : I [] W1 := hI _ _ _ h0 (hk1 _)
  have hsz1 : B + 2 ≤ W1.heap.size := by rw [← hW1, hB]; simp
  have hb1 : Below w.heap.size w W1 := (hk1 (fun _ => False)).to_below _ (Nat.le_refl _) (fun _ h => h.elim)
  have hSB : ∀ k, S k → k < B := by rw [hB]; exact hSlt
  have hDB : ∀ k, D k → k < B := by rw [hB]; exact hDlt
  -- a step that leaves the two blocks: what it keeps
  have fin : ∀ (jump : Option Code) (W3 : World), W3.heap[B + 1]? = some (.loop { rec .ready none with state := .busy }) → W3.heap[B]? = some (.deferred (some [])) →
      (Instr.endRound (B + 1) jump).run P W3 = .ok (.bool jump.isNone) (W3.putObj (B + 1) (.loop (rec (if jump.isNone then .ready else .done) jump))) ∧
      (W3.putObj (B + 1) (.loop (rec (if jump.isNone then .ready else .done) jump))).heap[B + 1]? = some (.loop (rec (if jump.isNone then .ready else .done) jump)) ∧
      (W3.putObj (B + 1) (.loop (rec (if jump.isNone then .ready else .done) jump))).heap[B]? = some (.deferred (some [])) := fun jump W3 hl3 hd3 => by
    have := run_endRound (P := P) jump hl3
    rw [hrec] at this ⊢
    exact ⟨this, World.putObj_heap_same (Array.getElem?_eq_some_iff.1 hl3).1, (World.putObj_heap_other (by omega)).trans hd3⟩
  refine ⟨B + 1, [{ target := .collected w.heap.size, args := #[] }], W1, { target := .fn (.func gf) lb, args := #[.func (.yield (B + 1)) #[] #[]] }, W1, gf,
    #[.func (.yield (B + 1)) #[] #[]] ++ lb, W1, ?_, ?_, ?_, ?_, (fun h => (by cases h)), ?_⟩
  · rw [← hW1, hrec, hB]; exact run_enterLoop_outer _ _ _ _ _
  · simp only [resolve, hg]
    simp [go_sem]
  · intro f' hf'; exact trivial
  · simp [invoke, go_sem, eg]
  · refine (hit (B + 1)
      (fun pre W => I pre W ∧ W.heap[B + 1]? = some (.loop (rec .ready none)) ∧ W.heap[B]? = some (.deferred (some [])))
      (fun pre W => ∃ c, Ix c pre W ∧ W.heap[B + 1]? = some (.loop (rec .done (some c))) ∧ W.heap[B]? = some (.deferred (some [])))
      W1 hb1 ?_ ?_ ?_ ⟨hI1, hL1, hK1⟩).mono ?_
    · rintro pre X Y ⟨hi, hl, hk⟩ hXY
      have n1 := (Array.getElem?_eq_some_iff.1 hl).1
      exact ⟨hI _ _ _ hi (hXY.mono fun k _ hs => .inl hs), (hXY.block _ n1 (fun hs => by have := hSB _ hs; omega)).trans hl, (hXY.block _ (by omega) (fun hs => by have := hSB _ hs; omega)).trans hk⟩
    · rintro pre X Y ⟨c, hi, hl, hk⟩ hXY
      have n1 := (Array.getElem?_eq_some_iff.1 hl).1
      exact ⟨c, hIx _ _ _ _ hi (hXY.mono fun k _ hs => .inl hs), (hXY.block _ n1 (fun hs => by have := hSB _ hs; omega)).trans hl, (hXY.block _ (by omega) (fun hs => by have := hSB _ hs; omega)).trans hk⟩
    · -- ONE ROUND
      rintro pre x post W hx hWs ⟨hi, hl, hk⟩
      have hlt : B + 1 < W.heap.size := (Array.getElem?_eq_some_iff.1 hl).1
      have hy := run_yield (P := P) (args := encs x) hl (by rw [hrec]; exact hps x)
      rw [hrec] at hy
      refine ⟨fn, _, assign, body, hy, roundIn_of_wpIn hfn' (hassign _ pre x W _ (by omega) hi ?_)⟩
      clear hy
      intro a' Wa hka hia hax
      have hla := (hka.block _ hlt (fun h => h)).trans hl
      have hda := (hka.block _ (by omega : B < W.heap.size) (fun h => h)).trans hk
      have hlta : B + 1 < Wa.heap.size := Nat.lt_of_lt_of_le hlt hka.size
      refine ⟨_, run_beginRound hla (by rw [hrec]), ?_⟩
      obtain ⟨Wb, hWb⟩ : ∃ Wb, Wa.putObj (B + 1) (.loop { rec .ready none with state := .busy }) = Wb := ⟨_, rfl⟩
      rw [hWb]
      have hl2 : Wb.heap[B + 1]? = some (.loop { rec .ready none with state := .busy }) := by rw [← hWb]; exact World.putObj_heap_same hlta
      have hd2 : Wb.heap[B]? = some (.deferred (some [])) := by rw [← hWb]; exact (World.putObj_heap_other (by omega)).trans hda
      have hkb : Kept (fun k => k = B + 1) Wa Wb := by rw [← hWb]; exact (Kept.refl _ _).putObj _ _ (.inl rfl)
      have hszb : B + 2 ≤ Wb.heap.size := Nat.le_trans (by omega) hkb.size
      have hib : I pre Wb := hI _ _ _ hia (hkb.mono fun k _ e => .inr (.inr (by rw [e, hB])))
      have haxb : Ax x a' Wb := hAx _ _ _ _ hax (hkb.mono fun k _ e => .inr (.inr (by rw [e, hB])))
      have hbd := hbody pre x post a' Wb hx (by rw [← hB]; exact hszb) ⟨_, by rw [← hB]; exact hl2⟩ hib haxb
      rw [← hB] at hbd
      refine wpIn_mono hbd ?_
      have hWD : ∀ W3, Kept (fun k => ¬ (twoOf B k ∨ D k)) Wb W3 → ∀ o, Kept (fun k => ¬ D k) W (W3.putObj (B + 1) o) := fun W3 h3 o => by
        have nD : ∀ k, k = B + 1 → ¬ D k := fun k e hd => by have := hDB _ hd; omega
        refine ((((hka.mono (T := fun k => ¬ D k) (fun _ _ h => h.elim)).trans (hkb.mono fun k _ e => nD k e)).trans (h3.mono fun k _ h hd => h (.inr hd)))).trans ((Kept.refl _ _).putObj _ _ (.inl (nD _ rfl)))
      have h3l : ∀ W3, Kept (fun k => ¬ (twoOf B k ∨ D k)) Wb W3 → W3.heap[B + 1]? = some (.loop { rec .ready none with state := .busy }) ∧ W3.heap[B]? = some (.deferred (some [])) ∧ ∀ o, Kept (fun k => S k ∨ twoOf w.heap.size k) W3 (W3.putObj (B + 1) o) := fun W3 h3 =>
        ⟨(h3.block _ (by omega) (fun h => h (.inl (.inr rfl)))).trans hl2, (h3.block _ (by omega) (fun h => h (.inl (.inl rfl)))).trans hd2, fun o => (Kept.refl _ _).putObj _ _ (.inl (.inr (.inr (by rw [hB]))))⟩
      rintro e a3 W3 hp
      cases e with
      | normal =>
        obtain ⟨hk3, hi3⟩ := hp
        obtain ⟨q1, q2, q3⟩ := h3l W3 hk3
        obtain ⟨hr, hl4, hk4⟩ := fin none W3 q1 q2
        exact ⟨_, _, hr, .inl ⟨rfl, ⟨hI _ _ _ hi3 (q3 _), hl4, hk4⟩, hWD W3 hk3 _⟩⟩
      | ret =>
        obtain ⟨hk3, hi3⟩ := hp
        obtain ⟨q1, q2, q3⟩ := h3l W3 hk3
        obtain ⟨hr, hl4, hk4⟩ := fin (some .ret) W3 q1 q2
        exact ⟨_, _, hr, .inr ⟨rfl, ⟨.ret, hIx _ _ _ _ hi3 (q3 _), hl4, hk4⟩, hWD W3 hk3 _⟩⟩
      | exit id =>
        obtain ⟨hk3, hi3⟩ := hp
        obtain ⟨q1, q2, q3⟩ := h3l W3 hk3
        obtain ⟨hr, hl4, hk4⟩ := fin (some (.exit id)) W3 q1 q2
        exact ⟨_, _, hr, .inr ⟨rfl, ⟨.exit id, hIx _ _ _ _ hi3 (q3 _), hl4, hk4⟩, hWD W3 hk3 _⟩⟩
      | goto t =>
        obtain ⟨hk3, hi3⟩ := hp
        obtain ⟨q1, q2, q3⟩ := h3l W3 hk3
        obtain ⟨hr, hl4, hk4⟩ := fin (some (.goto t)) W3 q1 q2
        exact ⟨_, _, hr, .inr ⟨rfl, ⟨.goto t, hIx _ _ _ _ hi3 (q3 _), hl4, hk4⟩, hWD W3 hk3 _⟩⟩
      | panic ch => exact hp.elim
      | outgrown => exact hp.elim
    · rintro e W2 ⟨⟨v, rfl⟩, (⟨hi, hl, hk⟩ | ⟨pre, x, post, hx, c, hi, hl, hk⟩)⟩
      · have n1 := (Array.getElem?_eq_some_iff.1 hl).1
        refine ⟨none, _, by have := run_endLoop (P := P) hl (by rw [hrec]; simp); rw [hrec] at this; exact this, ?_⟩
        refine hdone _ (by rw [← hB]; simp [World.putObj]; omega) (hI _ _ _ hi ((Kept.refl _ _).putObj _ _ (.inl (.inr (.inr (by rw [hB])))))) ?_
        rw [← hB]; exact (World.putObj_heap_other (by omega)).trans hk
      · have n1 := (Array.getElem?_eq_some_iff.1 hl).1
        refine ⟨some c, _, by have := run_endLoop (P := P) hl (by rw [hrec]; simp); rw [hrec] at this; exact this, ?_⟩
        refine hstop c pre x post _ (by rw [← hB]; simp [World.putObj]; omega) hx (hIx _ _ _ _ hi ((Kept.refl _ _).putObj _ _ (.inl (.inr (.inr (by rw [hB])))))) ?_
        rw [← hB]; exact (World.putObj_heap_other (by omega)).trans hk
end

theorem below_kept {T : Nat → Prop} {n : Nat} {w W W' : World} (h : Below n w W) (hk : Kept T W W') (hn : n ≤ w.heap.size) (hT : ∀ k, T k → n ≤ k) : Below n w W' :=
  h.trans (hk.to_below n (Nat.le_trans hn h.size) hT)

/-- The function's end behind one loop over an iterator: the block for deferred calls is taken. -/
theorem leave_one {P : Program} {fn : Func} {tmps : Array Value} {R : Ending → World → Prop} {B : Nat} {W : World} (hd : W.heap[B]? = some (.deferred (some [])))
    (h : ∃ v, (results fn tmps).run P (W.putObj B (.deferred none)) = .ok v (W.putObj B (.deferred none)) ∧ R (.returned v) (W.putObj B (.deferred none))) :
    LeavesInM Fence.wide 0 P fn tmps R [{ target := .collected B, args := #[] }] .returning W :=
  ⟨by simp, .inl ⟨_, _, rfl, run_takeDeferred hd, h⟩⟩
end
section
open Go Go.RowKit

/-- Slots that are set. -/
def putAll (us : List (Nat × Value)) (t : Array Value) : Array Value := us.foldl (fun t p => t.setIfInBounds p.1 p.2) t
theorem putAll_nil (t : Array Value) : putAll [] t = t := rfl
theorem fold1 (t : Array Value) (p : Nat) (v : Value) : (Array.zip #[p] #[v]).foldl (fun t (x : Nat × Value) => t.setIfInBounds x.1 x.2) t = t.setIfInBounds p v := by simp
theorem fold2 (t : Array Value) (p q : Nat) (v u : Value) : (Array.zip #[p, q] #[v, u]).foldl (fun t (x : Nat × Value) => t.setIfInBounds x.1 x.2) t = (t.setIfInBounds p v).setIfInBounds q u := by simp
theorem putAll_cons (p : Nat) (v : Value) (us : List (Nat × Value)) (t : Array Value) : putAll ((p, v) :: us) t = putAll us (t.setIfInBounds p v) := rfl

theorem wp_iter_put {P : Program} {α : Type} {g : Operand} {ps : Array Tmp} {assign body : Code} {Q : Exit → Act → World → Prop} {a : Act} {w : World}
    {gf : Nat} {lb : Array Value} (hg : a.eval g = .func (.func gf) #[] lb) (eg : ∀ args w, (callFunc gf args).run P w = .ok (.enter gf args) w)
    {encs : α → Array Value} {S D : Nat → Prop} {xs : List α} (hit : IterOn P gf lb encs S D xs w) (hSlt : ∀ k, S k → k < w.heap.size) (hDlt : ∀ k, D k → k < w.heap.size) (hps : ∀ x, (encs x).size = ps.size)
    (us : α → List (Nat × Value)) (I : List α → World → Prop) (Ix : Code → List α → World → Prop)
    (hI : ∀ pre W W', I pre W → Kept (fun k => S k ∨ twoOf w.heap.size k) W W' → I pre W') (hIx : ∀ c pre W W', Ix c pre W → Kept (fun k => S k ∨ twoOf w.heap.size k) W W' → Ix c pre W')
    (h0 : I [] w)
    (hassign : ∀ (l : Nat) (x : α) (W : World) (K : Act → World → Prop), K { tmps := putAll (us x) ((ps.zip (encs x)).foldl (fun t (p, v) => t.setIfInBounds p v) a.tmps), defers := [] } W →
      assign.wpIn (Fence.wide.inRound l) 0 P (Exit.then K (fun _ _ _ => False)) { tmps := (ps.zip (encs x)).foldl (fun t (p, v) => t.setIfInBounds p v) a.tmps, defers := [] } W)
    (hbody : ∀ (pre : List α) (x : α) (post : List α) (W : World), xs = pre ++ x :: post → w.heap.size + 2 ≤ W.heap.size → (∃ r, W.heap[w.heap.size + 1]? = some (.loop r)) → I pre W →
      body.wpIn (Fence.wide.inRound (w.heap.size + 1)) 0 P (roundTo (twoOf w.heap.size) D I Ix (pre ++ [x]) W) { tmps := putAll (us x) ((ps.zip (encs x)).foldl (fun t (p, v) => t.setIfInBounds p v) a.tmps), defers := [] } W)
    (hdone : ∀ W, w.heap.size + 2 ≤ W.heap.size → I xs W → W.heap[w.heap.size]? = some (.deferred (some [])) → Q .normal { a with defers := { target := .collected w.heap.size, args := #[] } :: a.defers } W)
    (hstop : ∀ c pre x post W, w.heap.size + 2 ≤ W.heap.size → xs = pre ++ x :: post → Ix c (pre ++ [x]) W → W.heap[w.heap.size]? = some (.deferred (some [])) → c.wpIn Fence.wide 0 P Q { a with defers := { target := .collected w.heap.size, args := #[] } :: a.defers } W) :
    (Code.rangeFunc g ps assign body).wpIn Fence.wide 0 P Q a w :=
  wp_iter hg eg hit hSlt hDlt hps I Ix hI hIx h0 (fun x a' _ => a' = { tmps := putAll (us x) ((ps.zip (encs x)).foldl (fun t (p, v) => t.setIfInBounds p v) a.tmps), defers := [] }) (fun _ _ _ _ h _ => h)
    (fun l _ x W K _ hi hK => hassign l x W K (hK _ _ (Kept.refl _ _) hi rfl)) (fun pre x post a' W hx hsz hr hi ha => by subst ha; exact hbody pre x post W hx hsz hr hi) hdone hstop
end
section
open Go Go.RowKit

/-- The contract of an iterator that hands out at least the list xs, to a consumer that stops before the list's end. -/
def IterTo {α : Type} (P : Program) (g : Nat) (lb : Array Value) (encs : α → Array Value) (S D : Nat → Prop) (xs : List α) (w : World) : Prop :=
  ∀ (l : Nat) (J Jx : List α → World → Prop) (W : World), Below w.heap.size w W → (∀ W, ¬ J xs W) →
    (∀ pre W1 W2, J pre W1 → Kept S W1 W2 → J pre W2) → (∀ pre W1 W2, Jx pre W1 → Kept S W1 W2 → Jx pre W2) →
    (∀ pre x post W1, xs = pre ++ x :: post → W.heap.size ≤ W1.heap.size → J pre W1 → YieldAt Fence.wide 0 P l (encs x) W1 fun e W' =>
      (e = .returned (.bool true) ∧ J (pre ++ [x]) W' ∧ Kept (fun k => ¬ D k) W1 W') ∨ (e = .returned (.bool false) ∧ Jx (pre ++ [x]) W' ∧ Kept (fun k => ¬ D k) W1 W')) →
    J [] W →
    CallsIn Fence.wide 0 P g (#[.func (.yield l) #[] #[]] ++ lb) W fun e W' => (∃ v, e = .returned v) ∧ (∃ pre x post, xs = pre ++ x :: post ∧ Jx (pre ++ [x]) W')

theorem wp_iter_to {P : Program} {α : Type} {g : Operand} {ps : Array Tmp} {assign body : Code} {Q : Exit → Act → World → Prop} {a : Act} {w : World}
    {gf : Nat} {lb : Array Value} (hg : a.eval g = .func (.func gf) #[] lb) (eg : ∀ args w, (callFunc gf args).run P w = .ok (.enter gf args) w)
    {encs : α → Array Value} {S D : Nat → Prop} {xs : List α} (hit : IterTo P gf lb encs S D xs w) (hSlt : ∀ k, S k → k < w.heap.size) (hDlt : ∀ k, D k → k < w.heap.size) (hps : ∀ x, (encs x).size = ps.size)
    (I : List α → World → Prop) (Ix : Code → List α → World → Prop)
    (hno : ∀ W, ¬ I xs W)
    (hI : ∀ pre W W', I pre W → Kept (fun k => S k ∨ twoOf w.heap.size k) W W' → I pre W') (hIx : ∀ c pre W W', Ix c pre W → Kept (fun k => S k ∨ twoOf w.heap.size k) W W' → Ix c pre W')
    (h0 : I [] w) (Ax : α → Act → World → Prop) (hAx : ∀ x a' W W', Ax x a' W → Kept (fun k => S k ∨ twoOf w.heap.size k) W W' → Ax x a' W')
    (hassign : ∀ (l : Nat) (pre : List α) (x : α) (W : World) (K : Act → World → Prop), w.heap.size + 2 ≤ W.heap.size → I pre W → (∀ a' W', Kept (fun _ => False) W W' → I pre W' → Ax x a' W' → K a' W') →
      assign.wpIn (Fence.wide.inRound l) 0 P (Exit.then K (fun _ _ _ => False)) { tmps := (ps.zip (encs x)).foldl (fun t (p, v) => t.setIfInBounds p v) a.tmps, defers := [] } W)
    (hbody : ∀ (pre : List α) (x : α) (post : List α) (a' : Act) (W : World), xs = pre ++ x :: post → w.heap.size + 2 ≤ W.heap.size → (∃ r, W.heap[w.heap.size + 1]? = some (.loop r)) → I pre W → Ax x a' W →
      body.wpIn (Fence.wide.inRound (w.heap.size + 1)) 0 P (roundTo (twoOf w.heap.size) D I Ix (pre ++ [x]) W) a' W)
    (hstop : ∀ c pre x post W, w.heap.size + 2 ≤ W.heap.size → xs = pre ++ x :: post → Ix c (pre ++ [x]) W → W.heap[w.heap.size]? = some (.deferred (some [])) → c.wpIn Fence.wide 0 P Q { a with defers := { target := .collected w.heap.size, args := #[] } :: a.defers } W) :
    (Code.rangeFunc g ps assign body).wpIn Fence.wide 0 P Q a w := by
  refine wpIn_rangeFunc ?_
  intro fn hfn'
  rw [show Fence.wide.round = none from rfl]
  obtain ⟨rec, hrec⟩ : ∃ rec : LoopState → Option Code → Loop, rec = fun st pe => { state := st, pending := pe, fn, tmps := a.tmps, params := ps, assign, body, defers := w.heap.size } := ⟨_, rfl⟩
  obtain ⟨B, hB⟩ : ∃ B, B = w.heap.size := ⟨_, rfl⟩
  obtain ⟨W1, hW1⟩ : ∃ W1, (w.alloc (.deferred (some []))).alloc (.loop (rec .ready none)) = W1 := ⟨_, rfl⟩
  have hL1 : W1.heap[B + 1]? = some (.loop (rec .ready none)) := by
    rw [← hW1, hB]; have := World.alloc_heap_new (w.alloc (.deferred (some []))) (.loop (rec .ready none)); rwa [World.size_alloc] at this
  have hK1 : W1.heap[B]? = some (.deferred (some [])) := by
    rw [← hW1, hB]; exact (Below.heap_alloc _ _ _ (by simp)).trans (World.alloc_heap_new w _)
  have hk1 : ∀ T, Kept T w W1 := fun T => by rw [← hW1]; exact ((Kept.refl T w).alloc _).alloc _
  have hI1 : I [] W1 := hI _ _ _ h0 (hk1 _)
  have hsz1 : B + 2 ≤ W1.heap.size := by rw [← hW1, hB]; simp
  have hb1 : Below w.heap.size w W1 := (hk1 (fun _ => False)).to_below _ (Nat.le_refl _) (fun _ h => h.elim)
  have hSB : ∀ k, S k → k < B := by rw [hB]; exact hSlt
  have hDB : ∀ k, D k → k < B := by rw [hB]; exact hDlt
  -- a step that leaves the two blocks: what it keeps
  have fin : ∀ (jump : Option Code) (W3 : World), W3.heap[B + 1]? = some (.loop { rec .ready none with state := .busy }) → W3.heap[B]? = some (.deferred (some [])) →
      (Instr.endRound (B + 1) jump).run P W3 = .ok (.bool jump.isNone) (W3.putObj (B + 1) (.loop (rec (if jump.isNone then .ready else .done) jump))) ∧
      (W3.putObj (B + 1) (.loop (rec (if jump.isNone then .ready else .done) jump))).heap[B + 1]? = some (.loop (rec (if jump.isNone then .ready else .done) jump)) ∧
      (W3.putObj (B + 1) (.loop (rec (if jump.isNone then .ready else .done) jump))).heap[B]? = some (.deferred (some [])) := fun jump W3 hl3 hd3 => by
    have := run_endRound (P := P) jump hl3
    rw [hrec] at this ⊢
    exact ⟨this, World.putObj_heap_same (Array.getElem?_eq_some_iff.1 hl3).1, (World.putObj_heap_other (by omega)).trans hd3⟩
  refine ⟨B + 1, [{ target := .collected w.heap.size, args := #[] }], W1, { target := .fn (.func gf) lb, args := #[.func (.yield (B + 1)) #[] #[]] }, W1, gf,
    #[.func (.yield (B + 1)) #[] #[]] ++ lb, W1, ?_, ?_, ?_, ?_, (fun h => (by cases h)), ?_⟩
  · rw [← hW1, hrec, hB]; exact run_enterLoop_outer _ _ _ _ _
  · simp only [resolve, hg]
    simp [go_sem]
  · intro f' hf'; exact trivial
  · simp [invoke, go_sem, eg]
  · refine (hit (B + 1)
      (fun pre W => I pre W ∧ W.heap[B + 1]? = some (.loop (rec .ready none)) ∧ W.heap[B]? = some (.deferred (some [])))
      (fun pre W => ∃ c, Ix c pre W ∧ W.heap[B + 1]? = some (.loop (rec .done (some c))) ∧ W.heap[B]? = some (.deferred (some [])))
      W1 hb1 (fun W h => hno W h.1) ?_ ?_ ?_ ⟨hI1, hL1, hK1⟩).mono ?_
    · rintro pre X Y ⟨hi, hl, hk⟩ hXY
      have n1 := (Array.getElem?_eq_some_iff.1 hl).1
      exact ⟨hI _ _ _ hi (hXY.mono fun k _ hs => .inl hs), (hXY.block _ n1 (fun hs => by have := hSB _ hs; omega)).trans hl, (hXY.block _ (by omega) (fun hs => by have := hSB _ hs; omega)).trans hk⟩
    · rintro pre X Y ⟨c, hi, hl, hk⟩ hXY
      have n1 := (Array.getElem?_eq_some_iff.1 hl).1
      exact ⟨c, hIx _ _ _ _ hi (hXY.mono fun k _ hs => .inl hs), (hXY.block _ n1 (fun hs => by have := hSB _ hs; omega)).trans hl, (hXY.block _ (by omega) (fun hs => by have := hSB _ hs; omega)).trans hk⟩
    · -- ONE ROUND
      rintro pre x post W hx hWs ⟨hi, hl, hk⟩
      have hlt : B + 1 < W.heap.size := (Array.getElem?_eq_some_iff.1 hl).1
      have hy := run_yield (P := P) (args := encs x) hl (by rw [hrec]; exact hps x)
      rw [hrec] at hy
      refine ⟨fn, _, assign, body, hy, roundIn_of_wpIn hfn' (hassign _ pre x W _ (by omega) hi ?_)⟩
      clear hy
      intro a' Wa hka hia hax
      have hla := (hka.block _ hlt (fun h => h)).trans hl
      have hda := (hka.block _ (by omega : B < W.heap.size) (fun h => h)).trans hk
      have hlta : B + 1 < Wa.heap.size := Nat.lt_of_lt_of_le hlt hka.size
      refine ⟨_, run_beginRound hla (by rw [hrec]), ?_⟩
      obtain ⟨Wb, hWb⟩ : ∃ Wb, Wa.putObj (B + 1) (.loop { rec .ready none with state := .busy }) = Wb := ⟨_, rfl⟩
      rw [hWb]
      have hl2 : Wb.heap[B + 1]? = some (.loop { rec .ready none with state := .busy }) := by rw [← hWb]; exact World.putObj_heap_same hlta
      have hd2 : Wb.heap[B]? = some (.deferred (some [])) := by rw [← hWb]; exact (World.putObj_heap_other (by omega)).trans hda
      have hkb : Kept (fun k => k = B + 1) Wa Wb := by rw [← hWb]; exact (Kept.refl _ _).putObj _ _ (.inl rfl)
      have hszb : B + 2 ≤ Wb.heap.size := Nat.le_trans (by omega) hkb.size
      have hib : I pre Wb := hI _ _ _ hia (hkb.mono fun k _ e => .inr (.inr (by rw [e, hB])))
      have haxb : Ax x a' Wb := hAx _ _ _ _ hax (hkb.mono fun k _ e => .inr (.inr (by rw [e, hB])))
      have hbd := hbody pre x post a' Wb hx (by rw [← hB]; exact hszb) ⟨_, by rw [← hB]; exact hl2⟩ hib haxb
      rw [← hB] at hbd
      refine wpIn_mono hbd ?_
      have hWD : ∀ W3, Kept (fun k => ¬ (twoOf B k ∨ D k)) Wb W3 → ∀ o, Kept (fun k => ¬ D k) W (W3.putObj (B + 1) o) := fun W3 h3 o => by
        have nD : ∀ k, k = B + 1 → ¬ D k := fun k e hd => by have := hDB _ hd; omega
        refine ((((hka.mono (T := fun k => ¬ D k) (fun _ _ h => h.elim)).trans (hkb.mono fun k _ e => nD k e)).trans (h3.mono fun k _ h hd => h (.inr hd)))).trans ((Kept.refl _ _).putObj _ _ (.inl (nD _ rfl)))
      have h3l : ∀ W3, Kept (fun k => ¬ (twoOf B k ∨ D k)) Wb W3 → W3.heap[B + 1]? = some (.loop { rec .ready none with state := .busy }) ∧ W3.heap[B]? = some (.deferred (some [])) ∧ ∀ o, Kept (fun k => S k ∨ twoOf w.heap.size k) W3 (W3.putObj (B + 1) o) := fun W3 h3 =>
        ⟨(h3.block _ (by omega) (fun h => h (.inl (.inr rfl)))).trans hl2, (h3.block _ (by omega) (fun h => h (.inl (.inl rfl)))).trans hd2, fun o => (Kept.refl _ _).putObj _ _ (.inl (.inr (.inr (by rw [hB]))))⟩
      rintro e a3 W3 hp
      cases e with
      | normal =>
        obtain ⟨hk3, hi3⟩ := hp
        obtain ⟨q1, q2, q3⟩ := h3l W3 hk3
        obtain ⟨hr, hl4, hk4⟩ := fin none W3 q1 q2
        exact ⟨_, _, hr, .inl ⟨rfl, ⟨hI _ _ _ hi3 (q3 _), hl4, hk4⟩, hWD W3 hk3 _⟩⟩
      | ret =>
        obtain ⟨hk3, hi3⟩ := hp
        obtain ⟨q1, q2, q3⟩ := h3l W3 hk3
        obtain ⟨hr, hl4, hk4⟩ := fin (some .ret) W3 q1 q2
        exact ⟨_, _, hr, .inr ⟨rfl, ⟨.ret, hIx _ _ _ _ hi3 (q3 _), hl4, hk4⟩, hWD W3 hk3 _⟩⟩
      | exit id =>
        obtain ⟨hk3, hi3⟩ := hp
        obtain ⟨q1, q2, q3⟩ := h3l W3 hk3
        obtain ⟨hr, hl4, hk4⟩ := fin (some (.exit id)) W3 q1 q2
        exact ⟨_, _, hr, .inr ⟨rfl, ⟨.exit id, hIx _ _ _ _ hi3 (q3 _), hl4, hk4⟩, hWD W3 hk3 _⟩⟩
      | goto t =>
        obtain ⟨hk3, hi3⟩ := hp
        obtain ⟨q1, q2, q3⟩ := h3l W3 hk3
        obtain ⟨hr, hl4, hk4⟩ := fin (some (.goto t)) W3 q1 q2
        exact ⟨_, _, hr, .inr ⟨rfl, ⟨.goto t, hIx _ _ _ _ hi3 (q3 _), hl4, hk4⟩, hWD W3 hk3 _⟩⟩
      | panic ch => exact hp.elim
      | outgrown => exact hp.elim
    · rintro e W2 ⟨⟨v, rfl⟩, ⟨pre, x, post, hx, c, hi, hl, hk⟩⟩
      have n1 := (Array.getElem?_eq_some_iff.1 hl).1
      refine ⟨some c, _, by have := run_endLoop (P := P) hl (by rw [hrec]; simp); rw [hrec] at this; exact this, ?_⟩
      refine hstop c pre x post _ (by rw [← hB]; simp [World.putObj]; omega) hx (hIx _ _ _ _ hi ((Kept.refl _ _).putObj _ _ (.inl (.inr (.inr (by rw [hB])))))) ?_
      rw [← hB]; exact (World.putObj_heap_other (by omega)).trans hk

theorem wp_iter_to_put {P : Program} {α : Type} {g : Operand} {ps : Array Tmp} {assign body : Code} {Q : Exit → Act → World → Prop} {a : Act} {w : World}
    {gf : Nat} {lb : Array Value} (hg : a.eval g = .func (.func gf) #[] lb) (eg : ∀ args w, (callFunc gf args).run P w = .ok (.enter gf args) w)
    {encs : α → Array Value} {S D : Nat → Prop} {xs : List α} (hit : IterTo P gf lb encs S D xs w) (hSlt : ∀ k, S k → k < w.heap.size) (hDlt : ∀ k, D k → k < w.heap.size) (hps : ∀ x, (encs x).size = ps.size)
    (us : α → List (Nat × Value)) (I : List α → World → Prop) (Ix : Code → List α → World → Prop)
    (hno : ∀ W, ¬ I xs W)
    (hI : ∀ pre W W', I pre W → Kept (fun k => S k ∨ twoOf w.heap.size k) W W' → I pre W') (hIx : ∀ c pre W W', Ix c pre W → Kept (fun k => S k ∨ twoOf w.heap.size k) W W' → Ix c pre W')
    (h0 : I [] w)
    (hassign : ∀ (l : Nat) (x : α) (W : World) (K : Act → World → Prop), K { tmps := putAll (us x) ((ps.zip (encs x)).foldl (fun t (p, v) => t.setIfInBounds p v) a.tmps), defers := [] } W →
      assign.wpIn (Fence.wide.inRound l) 0 P (Exit.then K (fun _ _ _ => False)) { tmps := (ps.zip (encs x)).foldl (fun t (p, v) => t.setIfInBounds p v) a.tmps, defers := [] } W)
    (hbody : ∀ (pre : List α) (x : α) (post : List α) (W : World), xs = pre ++ x :: post → w.heap.size + 2 ≤ W.heap.size → (∃ r, W.heap[w.heap.size + 1]? = some (.loop r)) → I pre W →
      body.wpIn (Fence.wide.inRound (w.heap.size + 1)) 0 P (roundTo (twoOf w.heap.size) D I Ix (pre ++ [x]) W) { tmps := putAll (us x) ((ps.zip (encs x)).foldl (fun t (p, v) => t.setIfInBounds p v) a.tmps), defers := [] } W)
    (hstop : ∀ c pre x post W, w.heap.size + 2 ≤ W.heap.size → xs = pre ++ x :: post → Ix c (pre ++ [x]) W → W.heap[w.heap.size]? = some (.deferred (some [])) → c.wpIn Fence.wide 0 P Q { a with defers := { target := .collected w.heap.size, args := #[] } :: a.defers } W) :
    (Code.rangeFunc g ps assign body).wpIn Fence.wide 0 P Q a w :=
  wp_iter_to hg eg hit hSlt hDlt hps I Ix hno hI hIx h0 (fun x a' _ => a' = { tmps := putAll (us x) ((ps.zip (encs x)).foldl (fun t (p, v) => t.setIfInBounds p v) a.tmps), defers := [] }) (fun _ _ _ _ h _ => h)
    (fun l _ x W K _ hi hK => hassign l x W K (hK _ _ (Kept.refl _ _) hi rfl)) (fun pre x post a' W hx hsz hr hi ha => by subst ha; exact hbody pre x post W hx hsz hr hi) hstop
end
section
open Go Go.RowKit

theorem wpListIn_load_row {F : Fence} {n : Nat} {P : Program} {ops : Array Oper} {rest : List Oper} {o : Oper} {a : Act} {w : World} {Q : Exit → Act → World → Prop} (hgd : o.guard = none) (ty : TypeId) (x : Operand) (ho : o.op = .load ty x)
    (g : Nat) (hx : a.eval x = .pointer (some ⟨g, 0, none⟩)) (t : TypeId) (cs : Array Value) (fr : Nat × Nat) (d : TypeDesc) (hg : w.heap[g]? = some (.cells cs t fr))
    (hu : P.underlying ty = some d) (hd : (match d with | .struct _ | .array _ _ => true | _ => false) = true) (hi : (P.info? ty).map (·.size) = some cs.size)
    (h : wpListIn F n P ops Q rest (a.put o.dst (.agg cs)) w) : wpListIn F n P ops Q (o :: rest) a w := by
  refine wpListIn_plain hgd fun K hK => ?_
  unfold Oper.wpIn
  refine ⟨by simp [Oper.about, ho], ?_⟩
  rw [Oper.semAt_plain F _ _ (by rw [ho]; intro c hc'; cases hc')]
  unfold execOp
  simp only [ho, hx, Instr.loadAt, Instr.sureAddr, Sem.run_bind, Sem.run_pure, Result.andThen_ok, run_loadVar_row w g t ty cs fr d hg hu hd hi]
  exact hK _ _ h
theorem wpListIn_store_row {F : Fence} {n : Nat} {P : Program} {ops : Array Oper} {rest : List Oper} {o : Oper} {a : Act} {w : World} {Q : Exit → Act → World → Prop} (hgd : o.guard = none) (ty : TypeId) (x y : Operand) (ho : o.op = .store ty x y)
    (g : Nat) (cells : Array Value) (hx : a.eval x = .pointer (some ⟨g, 0, none⟩)) (hy : a.eval y = .agg cells)
    (t : TypeId) (old : Array Value) (hg : w.heap[g]? = some (.cells old t (0, 0))) (hi : (P.info? ty).map (·.size) = some cells.size)
    (hold : old.size = cells.size) (h1 : cells.all (·.oneCell') = true)
    (h : wpListIn F n P ops Q rest (a.put o.dst undef) (w.setRow g cells)) : wpListIn F n P ops Q (o :: rest) a w := by
  refine wpListIn_plain hgd fun K hK => ?_
  unfold Oper.wpIn
  refine ⟨by simp [Oper.about, ho], ?_⟩
  rw [Oper.semAt_plain F _ _ (by rw [ho]; intro c hc'; cases hc')]
  unfold execOp
  simp only [ho, hx, hy, Instr.storeAt, Instr.sureAddr, Sem.run_bind, Sem.run_pure, Result.andThen_ok, run_storeVar_row w g t ty old cells hg hi hold h1]
  exact hK _ _ h
end
section
open Go Go.RowKit

/-- A world behind w: all that was lies as it lay. -/
structure Sub (w : World) where
  x : World
  h : Below w.heap.size w x
instance (w : World) : Nonempty (Sub w) := ⟨⟨w, Below.refl _ _⟩⟩
theorem Sub.cell {w : World} (q : Sub w) {b : Nat} {t : TypeId} {A : Array Value} (h : RowAt w b t A) {j : Nat} {v : Value} (hv : A[j]? = some v) : q.x.cell? ⟨b, j, none⟩ = some v := (h.below q.h h.lt).cell hv
theorem Sub.call {P : Program} {f : FuncId} {args : Array Value} {w : World} {v : Value} (p : Sub w) (h : Calls P f args p.x fun e w' => e = .returned v ∧ Below p.x.heap.size p.x w') :
    Calls P f args p.x fun e w'' => e = .returned v ∧ ∃ q : Sub w, w'' = q.x :=
  h.mono fun _ w' ⟨he, hB⟩ => ⟨he, ⟨w', below_cat hB p.h⟩, rfl⟩
theorem Sub.same {P : Program} {f : FuncId} {args : Array Value} {w : World} {v : Value} (p : Sub w) (h : Calls P f args p.x fun e w' => e = .returned v ∧ p.x = w') :
    Calls P f args p.x fun e w'' => e = .returned v ∧ ∃ q : Sub w, w'' = q.x :=
  h.mono fun _ _ ⟨he, hB⟩ => ⟨he, p, hB.symm⟩

theorem wp_region_sub {P : Program} {id : Nat} {Q : Exit → Act → World → Prop} {a : Act} {w : World} {l : List Oper} (hm : P.follows .mixedOrders = true) (hB : Region.lexB .any l.toArray = true)
    (h : wpQuiet P l.toArray (fun w' => ∃ p : Sub w, w' = p.x) (fun a' => ∀ q : Sub w, Q .normal a' q.x) l a) : (Code.region id l.toArray true).wp P Q a w := by
  refine wp_region_quiet (C := fun w' => ∃ p : Sub w, w' = p.x) hm hB ⟨⟨w.drew, rfl, rfl, rfl, Nat.le_refl _, fun _ _ => rfl⟩, rfl⟩ ?_
  have e : (fun a' => ∀ w', (∃ p : Sub w, w' = p.x) → Q .normal a' w') = fun a' => ∀ q : Sub w, Q .normal a' q.x := by
    funext a'; exact propext ⟨fun h q => h _ ⟨q, rfl⟩, fun h w' ⟨q, hq⟩ => hq ▸ h q⟩
  rw [e]
  simpa using h
theorem wpIn_region_sub {P : Program} {id : Nat} {Q : Exit → Act → World → Prop} {a : Act} {w : World} {l : List Oper} (hm : P.follows .mixedOrders = true) (hB : Region.lexB .any l.toArray = true)
    (h : wpQuiet P l.toArray (fun w' => ∃ p : Sub w, w' = p.x) (fun a' => ∀ q : Sub w, Q .normal a' q.x) l a) : (Code.region id l.toArray true).wpIn Fence.wide 0 P Q a w :=
  wpIn_wide.2 (wp_region_sub hm hB h)
/-! In a round of a loop over an iterator. -/
def noDefer (ops : Array Oper) : Bool := ops.all fun o => match o.op with | .defer _ => false | _ => true
theorem noDefer_spec {ops : Array Oper} (h : noDefer ops = true) {i : Nat} {o : Oper} (hi : ops[i]? = some o) : ∀ c, o.op ≠ .defer c := by
  intro c e
  have hm : o ∈ ops := Array.mem_of_getElem? hi
  have := (Array.all_eq_true_iff_forall_mem.1 h) o hm
  rw [e] at this
  cases this
section
variable {P : Program} {ops : Array Oper} {md : Region.Mode} {C : World → Prop} {l : Nat}
theorem roundOper_of_quiet {o : Oper} {a : Act} {K : Act → Prop} {K' : Act → World → Prop} {Q' : Exit → Act → World → Prop} {w : World} (hnd : ∀ c, o.op ≠ .defer c) (hw : C w) (h : ∀ a w', C w' → K a → K' a w')
    (hh : o.quiet P a C K) : o.wpIn (Fence.wide.inRound l) 0 P a w K' Q' := by
  refine ⟨fun _ _ => trivial, ?_⟩
  rw [Oper.semAt_plain _ _ _ hnd]
  obtain ⟨v, h1, h2⟩ := hh
  have h3 := h1 w hw
  unfold Oper.quietAt at h3
  generalize (execOp a.eval o).run P w = r at *
  cases r with
  | ok n w' =>
    cases n <;> simp only [Oper.quietUpon] at h3
    case value u => obtain ⟨rfl, rfl⟩ := h3; exact h _ _ hw h2
    case skip => obtain ⟨rfl, rfl⟩ := h3; exact h _ _ hw h2
    case enter f args =>
      obtain ⟨rfl, hc⟩ := h3
      exact ⟨fun hd => (by cases hd), CallsIn.inRound l (callsIn_wide.2 (hc.mono fun e w'' ⟨he, hw''⟩ => by subst he; exact h _ _ hw'' h2))⟩
  | halt x w' => simp only [Oper.quietUpon] at h3
theorem roundOp_of_qOp {i : Nat} {a : Act} {K : Act → Prop} {K' : Act → World → Prop} {Q' : Exit → Act → World → Prop} {w : World} (hnd : noDefer ops = true) (hC : C w) (h : ∀ a w', C w' → K a → K' a w')
    (hh : qOp P ops C i K a) : wpOpIn (Fence.wide.inRound l) 0 P ops Q' i K' a w := by
  unfold qOp at hh
  unfold wpOpIn
  split
  · rename_i ho; simp only [ho] at hh; exact h _ _ hC hh
  · rename_i o ho
    simp only [ho] at hh
    split
    · rename_i hw; simp only [hw, if_true] at hh; exact roundOper_of_quiet (noDefer_spec hnd ho) hC h hh
    · rename_i hw; simp only [hw] at hh; exact ⟨fun _ _ => trivial, h _ _ hC hh⟩
theorem roundAny_of_quiet {Q : Act → Prop} {Q' : Exit → Act → World → Prop} (hnd : noDefer ops = true) (hQ : ∀ a w, C w → Q a → Q' .normal a w) : ∀ (fuel : Nat) (listed : Array Bool) (a : Act) (w : World), C w →
    wpAnyQ P md ops C Q fuel listed a → wpAnyIn (Fence.wide.inRound l) 0 P md ops Q' fuel listed a w
  | 0, _, _, _, hw, h => ⟨h.1, hQ _ _ hw h.2⟩
  | fuel + 1, _, _, _, hw, h => ⟨fun h0 => hQ _ _ hw (h.1 h0), fun i hi => roundOp_of_qOp hnd hw (fun a' w' hw' => roundAny_of_quiet hnd hQ fuel _ a' w' hw') (h.2 i hi)⟩
end
theorem wpIn_region_round {P : Program} {id : Nat} {Q : Exit → Act → World → Prop} {a : Act} {w : World} {l : List Oper} {k : Nat} (hm : P.follows .mixedOrders = true) (hB : Region.lexB .any l.toArray = true) (hnd : noDefer l.toArray = true)
    (h : wpQuiet P l.toArray (fun w' => ∃ p : Sub w, w' = p.x) (fun a' => ∀ q : Sub w, Q .normal a' q.x) l a) : (Code.region id l.toArray true).wpIn (Fence.wide.inRound k) 0 P Q a w := by
  simp only [Region.lexB, Bool.and_eq_true] at hB
  refine wpIn_region_any hm (roundAny_of_quiet (C := fun w' => ∃ p : Sub w, w' = p.x) (Q := fun a' => ∀ q : Sub w, Q .normal a' q.x) hnd (fun _ w' hw' h => by obtain ⟨q, rfl⟩ := hw'; exact h q) _ _ _ _
    ⟨⟨w.drew, rfl, rfl, rfl, Nat.le_refl _, fun _ _ => rfl⟩, rfl⟩ ?_)
  have := wpAnyQ_lex (P := P) (C := fun w' => ∃ p : Sub w, w' = p.x) (md := .any) hB.1 l 0 (Array.replicate l.toArray.size false) a (by simp) (by simpa using hB.2) h
  simpa using this
end
section
open Go Go.RowKit

/-- The last operation made harmless. -/
def mute (o : Oper) : Oper := { o with dst := none, op := .assign (.const undef) }
def muted : List Oper → List Oper
  | [] => []
  | [o] => [mute o]
  | o :: p :: rest => o :: muted (p :: rest)

/-- All edges go back; each operation but the last is waited for by a later one; no guard looks at the last, and the last has none. -/
def lastWaits (ops : Array Oper) : Bool :=
  (List.range ops.size).all fun i => match ops[i]? with
    | none => false
    | some o => (o.after.all fun e => decide (e.on < i)) && (match o.guard with | none => true | some (g, _) => decide (g + 1 < ops.size) && decide (i + 1 < ops.size)) &&
      (decide (i + 1 = ops.size) || (List.range ops.size).any fun j => decide (i < j) && match ops[j]? with | none => false | some p => p.after.any fun e => Region.binds .any e && decide (e.on = i))

structure Waits (ops : Array Oper) : Prop where
  back : ∀ (i : Nat) (o : Oper), ops[i]? = some o → ∀ e ∈ o.after, e.on < i
  guard : ∀ (i : Nat) (o : Oper), ops[i]? = some o → ∀ g b, o.guard = some (g, b) → g + 1 < ops.size ∧ i + 1 < ops.size
  wait : ∀ i, i + 1 < ops.size → ∃ j p, i < j ∧ ops[j]? = some p ∧ ∃ e ∈ p.after, Region.binds .any e = true ∧ e.on = i
theorem lastWaits_spec {ops : Array Oper} (h : lastWaits ops = true) : Waits ops := by
  unfold lastWaits at h
  rw [List.all_eq_true] at h
  constructor
  · intro i o ho e he
    have hi : i < ops.size := (Array.getElem?_eq_some_iff.1 ho).1
    have := h i (List.mem_range.2 hi)
    rw [ho] at this
    simp only [Bool.and_eq_true, Array.all_eq_true_iff_forall_mem, decide_eq_true_eq] at this
    exact this.1.1 e he
  · intro i o ho g b hg
    have hi : i < ops.size := (Array.getElem?_eq_some_iff.1 ho).1
    have := h i (List.mem_range.2 hi)
    rw [ho] at this
    simp only [Bool.and_eq_true] at this
    have h2 := this.1.2
    rw [hg] at h2
    simp only [Bool.and_eq_true, decide_eq_true_eq] at h2
    exact h2
  · intro i hi1
    have hi : i < ops.size := by omega
    have := h i (List.mem_range.2 hi)
    have ho : ops[i]? = some ops[i] := by simp [hi]
    rw [ho] at this
    simp only [Bool.and_eq_true, Bool.or_eq_true, decide_eq_true_eq] at this
    rcases this.2 with h1 | h1
    · omega
    · rw [List.any_eq_true] at h1
      obtain ⟨j, _, hj⟩ := h1
      simp only [Bool.and_eq_true, decide_eq_true_eq] at hj
      obtain ⟨hij, hj⟩ := hj
      cases hp : ops[j]? with
      | none => rw [hp] at hj; cases hj
      | some p =>
        rw [hp] at hj
        simp only [] at hj
        rw [Array.any_eq_true'] at hj
        obtain ⟨e, he, h5⟩ := hj
        simp only [Bool.and_eq_true, decide_eq_true_eq] at h5
        exact ⟨j, p, hij, hp, e, he, h5⟩

theorem muted_len : ∀ l : List Oper, (muted l).length = l.length
  | [] => rfl
  | [_] => rfl
  | _ :: p :: rest => by simp only [muted, List.length_cons]; rw [muted_len (p :: rest)]; rfl
theorem muted_get : ∀ (l : List Oper) (i : Nat), (muted l)[i]? = if i + 1 = l.length then (l[i]?).map mute else l[i]?
  | [], i => by simp [muted]
  | [o], i => by cases i <;> simp [muted]
  | o :: p :: rest, i => by
    cases i with
    | zero => simp [muted]
    | succ i =>
      have h := muted_get (p :: rest) i
      simp only [muted, List.getElem?_cons_succ, List.length_cons] at h ⊢
      rw [h]
      by_cases e : i + 1 = rest.length + 1
      · rw [if_pos e, if_pos (by omega)]
      · rw [if_neg e, if_neg (by omega)]

theorem muted_ready (md : Region.Mode) (l : List Oper) (listed : Array Bool) : Region.ready md (muted l).toArray listed = Region.ready md l.toArray listed := by
  unfold Region.ready
  simp only [List.size_toArray, muted_len, List.getElem?_toArray]
  refine List.filter_congr fun i _ => ?_
  rw [muted_get]
  by_cases e : i + 1 = l.length
  · rw [if_pos e]; cases l[i]? <;> simp [mute]
  · rw [if_neg e]
theorem muted_wanted {l : List Oper} (hW : Waits l.toArray) {i : Nat} {o : Oper} (ho : l[i]? = some o) (tmps : Array Value) : Region.wanted o (yielded (muted l).toArray tmps) = Region.wanted o (yielded l.toArray tmps) := by
  unfold Region.wanted
  cases hg : o.guard with
  | none => rfl
  | some gb =>
    obtain ⟨g, b⟩ := gb
    have hlt := (hW.guard i o (by simpa using ho) g b hg).1
    simp only [List.size_toArray] at hlt
    have : yielded (muted l).toArray tmps g = yielded l.toArray tmps g := by
      unfold yielded
      simp only [List.getElem?_toArray]
      rw [muted_get, if_neg (by omega)]
    simp only [this]

/-- Nothing is ready: all are listed. -/
theorem Waits.all {ops : Array Oper} (hW : Waits ops) {listed : Array Bool} (h : Region.ready .any ops listed = []) : ∀ i, i < ops.size → listed.getD i true = true := by
  have key : ∀ n i, i < n → i < ops.size → listed.getD i true = true := by
    intro n
    induction n with
    | zero => intro i hi; omega
    | succ n ih =>
      intro i hi hs
      by_cases hl : listed.getD i true = true
      · exact hl
      · exfalso
        have hf : listed.getD i true = false := by simpa using hl
        have hsz : i < listed.size := by
          rcases Nat.lt_or_ge i listed.size with h' | h'
          · exact h'
          · simp [Array.getElem?_eq_none h'] at hf
        have hm : i ∈ Region.ready .any ops listed := mem_ready.2 ⟨hf, ops[i], by simp [hs], fun e he _ => by
          have hb := hW.back i ops[i] (by simp [hs]) e he
          have h2 := ih e.on (by omega) (by omega)
          have h3 : e.on < listed.size := by omega
          simp [h3] at h2 ⊢
          exact h2⟩
        rw [h] at hm
        cases hm
  exact fun i hi => key (i + 1) i (by omega) hi

/-- What is listed has all that it waits for listed. -/
def Shut (ops : Array Oper) (listed : Array Bool) : Prop := ∀ (i : Nat) (o : Oper), ops[i]? = some o → listed.getD i false = true → ∀ e ∈ o.after, Region.binds .any e = true → listed.getD e.on false = true
theorem Shut.next {ops : Array Oper} {listed : Array Bool} (h : Shut ops listed) {i : Nat} (hi : i ∈ Region.ready .any ops listed) : Shut ops (listed.setIfInBounds i true) := by
  obtain ⟨_, oi, hoi, hr⟩ := mem_ready.1 hi
  have keep : ∀ k, listed.getD k false = true → (listed.setIfInBounds i true).getD k false = true := by
    intro k hk
    by_cases e : i = k
    · subst e
      rw [Array.getD_eq_getD_getElem?] at hk ⊢
      rcases Nat.lt_or_ge i listed.size with h' | h'
      · rw [Array.getElem?_setIfInBounds_self_of_lt h']; rfl
      · rw [Array.getElem?_eq_none h'] at hk; cases hk
    · rw [getD_set_ne false e]; exact hk
  intro j o hj hl e he hb
  by_cases ej : j = i
  · subst ej
    rw [hoi] at hj; cases hj
    exact keep _ (hr e he hb)
  · rw [getD_set_ne false (Ne.symm ej)] at hl
    exact keep _ (h j o hj hl e he hb)
/-- The last one is ready: all others are listed. -/
theorem Waits.last {ops : Array Oper} (hW : Waits ops) {listed : Array Bool} (hS : Shut ops listed) {n : Nat} (hn : n + 1 = ops.size) (hi : n ∈ Region.ready .any ops listed) : ∀ j, j < n → listed.getD j false = true := by
  obtain ⟨_, on, hon, hr⟩ := mem_ready.1 hi
  have key : ∀ m j, n - j ≤ m → j < n → listed.getD j false = true := by
    intro m
    induction m with
    | zero => intro j h1 h2; omega
    | succ m ih =>
      intro j h1 h2
      obtain ⟨k, p, hjk, hp, e, he, hb, heq⟩ := hW.wait j (by omega)
      have hk : k < ops.size := (Array.getElem?_eq_some_iff.1 hp).1
      by_cases ek : k = n
      · subst ek
        rw [hon] at hp; cases hp
        rw [← heq]; exact hr e he hb
      · have hl := ih k (by omega) (by omega)
        rw [← heq]; exact hS k p hp hl e he hb
  exact fun j hj => key (n - j) j (Nat.le_refl _) hj

theorem any_done {P : Program} {md : Region.Mode} {ops : Array Oper} {Q' : Exit → Act → World → Prop} {listed : Array Bool} (h : Region.ready md ops listed = []) {a : Act} {w : World} (hQ : Q' .normal a w) : ∀ fuel, wpAny P md ops Q' fuel listed a w
  | 0 => ⟨h, hQ⟩
  | _ + 1 => ⟨fun _ => hQ, fun i hi => by rw [h] at hi; cases hi⟩
theorem anyQ_done {P : Program} {md : Region.Mode} {ops : Array Oper} {C : World → Prop} {Q : Act → Prop} {listed : Array Bool} (h : Region.ready md ops listed = []) {a : Act} : ∀ fuel, wpAnyQ P md ops C Q fuel listed a → Q a
  | 0, hq => hq.2
  | _ + 1, hq => hq.1 h

theorem any_last {P : Program} {l : List Oper} (hW : Waits l.toArray) {C : World → Prop} {Q₁ : Act → Prop} {Q' : Exit → Act → World → Prop} {n : Nat} (hn : n + 1 = l.length) {o : Oper} (ho : l[n]? = some o)
    (hlast : ∀ a w, C w → Q₁ a → o.wp P a w (Q' .normal) Q') :
    ∀ (fuel : Nat) (listed : Array Bool) (a : Act) (w : World), listed.getD n true = false → Shut l.toArray listed → C w → wpAnyQ P .any (muted l).toArray C Q₁ fuel listed a → wpAny P .any l.toArray Q' fuel listed a w := by
  have hn' : n < l.toArray.size := by simp; omega
  have hg : o.guard = none := by
    cases hg : o.guard with
    | none => rfl
    | some gb => obtain ⟨g, b⟩ := gb; have := (hW.guard n o (by simpa using ho) g b hg).2; simp at this; omega
  intro fuel
  induction fuel with
  | zero =>
    intro listed a w hl _ _ h
    have h1 := h.1
    rw [muted_ready] at h1
    have := hW.all h1 n hn'
    rw [hl] at this; cases this
  | succ fuel ih =>
    intro listed a w hl hS hC h
    refine ⟨fun h0 => ?_, fun i hi => ?_⟩
    · have := hW.all h0 n hn'
      rw [hl] at this; cases this
    · have hq := h.2 i (by rw [muted_ready]; exact hi)
      by_cases e : i = n
      · subst e
        have hall := hW.last hS (by simpa using hn) hi
        obtain ⟨hun, _, _, _⟩ := mem_ready.1 hi
        have hsz : i < listed.size := by
          rcases Nat.lt_or_ge i listed.size with h' | h'
          · exact h'
          · simp [Array.getElem?_eq_none h'] at hun
        have hready : Region.ready .any l.toArray (listed.setIfInBounds i true) = [] := by
          rw [List.eq_nil_iff_forall_not_mem]
          intro j hj
          obtain ⟨hj1, oj, hj2, _⟩ := mem_ready.1 hj
          have hjlt : j < l.length := by simpa using (Array.getElem?_eq_some_iff.1 hj2).1
          by_cases ej : j = i
          · subst ej
            rw [Array.getD_eq_getD_getElem?, Array.getElem?_setIfInBounds_self_of_lt hsz] at hj1
            cases hj1
          · have h3 := hall j (by omega)
            rw [Array.getD_eq_getD_getElem?, Array.getElem?_setIfInBounds_ne (Ne.symm ej)] at hj1
            rw [Array.getD_eq_getD_getElem?] at h3
            cases hx : listed[j]? with
            | none => rw [hx] at h3; cases h3
            | some b => rw [hx] at h3 hj1; simp at h3 hj1; rw [h3] at hj1; cases hj1
        have hQ1 : Q₁ a := by
          unfold qOp at hq
          have hmg : (muted l).toArray[i]? = some (mute o) := by rw [List.getElem?_toArray, muted_get, if_pos hn, ho]; rfl
          simp only [hmg] at hq
          have hwt : Region.wanted (mute o) (yielded (muted l).toArray a.tmps) = true := by simp [Region.wanted, mute, hg]
          rw [if_pos hwt] at hq
          obtain ⟨v, _, h5⟩ := hq
          have h6 := anyQ_done (by rw [muted_ready]; exact hready) _ h5
          exact h6
        unfold wpOp
        rw [List.getElem?_toArray, ho]
        simp only [Region.wanted, hg, if_true]
        exact .inl (Oper.wp_mono (fun a' w' hq' => any_done hready hq' _) (hlast a w hC hQ1))
      · have hsame : qOp P l.toArray C i (wpAnyQ P .any (muted l).toArray C Q₁ fuel (listed.setIfInBounds i true)) a := by
          unfold qOp at hq ⊢
          cases hoi : l[i]? with
          | none =>
            simp only [List.getElem?_toArray, muted_get, if_neg (show ¬ (i + 1 = l.length) by omega), hoi] at hq ⊢
            exact hq
          | some oi =>
            simp only [List.getElem?_toArray, muted_get, if_neg (show ¬ (i + 1 = l.length) by omega), hoi] at hq ⊢
            rw [muted_wanted hW hoi] at hq
            exact hq
        refine wpOp_of_qOp hC (fun a' w' hC' hk => ih _ a' w' ?_ (hS.next hi) hC' hk) hsame
        rw [getD_set_ne true e]; exact hl

theorem wp_region_last {P : Program} {id : Nat} {Q : Exit → Act → World → Prop} {a : Act} {w : World} {l : List Oper} (hm : P.follows .mixedOrders = true) (hWB : lastWaits l.toArray = true) (hB : Region.lexB .any (muted l).toArray = true)
    (n : Nat) (o : Oper) (hn : n + 1 = l.length) (ho : l[n]? = some o)
    (h : wpQuiet P (muted l).toArray (fun w' => ∃ p : Sub w, w' = p.x) (fun a' => ∀ q : Sub w, o.wp P a' q.x (Q .normal) Q) (muted l) a) : (Code.region id l.toArray true).wp P Q a w := by
  simp only [Region.lexB, Bool.and_eq_true] at hB
  refine wp_region_any hm (any_last (lastWaits_spec hWB) (C := fun w' => ∃ p : Sub w, w' = p.x) (Q₁ := fun a' => ∀ q : Sub w, o.wp P a' q.x (Q .normal) Q) hn ho (fun a' w' hC hq => by obtain ⟨q, rfl⟩ := hC; exact hq q) _ _ _ _ ?_ ?_
    ⟨⟨w.drew, rfl, rfl, rfl, Nat.le_refl _, fun _ _ => rfl⟩, rfl⟩ ?_)
  · have : n < l.length := by omega
    simp [this]
  · intro i o' _ hl
    rw [Array.getD_eq_getD_getElem?, Array.getElem?_replicate] at hl
    split at hl <;> cases hl
  · have := wpAnyQ_lex (P := P) (C := fun w' => ∃ p : Sub w, w' = p.x) (md := .any) hB.1 (muted l) 0 (Array.replicate (muted l).toArray.size false) a (by simp) (by simpa using hB.2) h
    simpa [muted_len] using this
theorem wpIn_region_last {P : Program} {id : Nat} {Q : Exit → Act → World → Prop} {a : Act} {w : World} {l : List Oper} (hm : P.follows .mixedOrders = true) (hWB : lastWaits l.toArray = true) (hB : Region.lexB .any (muted l).toArray = true)
    (n : Nat) (o : Oper) (hn : n + 1 = l.length) (ho : l[n]? = some o)
    (h : wpQuiet P (muted l).toArray (fun w' => ∃ p : Sub w, w' = p.x) (fun a' => ∀ q : Sub w, o.wp P a' q.x (Q .normal) Q) (muted l) a) : (Code.region id l.toArray true).wpIn Fence.wide 0 P Q a w :=
  wpIn_wide.2 (wp_region_last hm hWB hB n o hn ho h)
end
section
open Go Go.RowKit

theorem anyIn_done {F : Fence} {n : Nat} {P : Program} {md : Region.Mode} {ops : Array Oper} {Q' : Exit → Act → World → Prop} {listed : Array Bool} (h : Region.ready md ops listed = []) {a : Act} {w : World} (hQ : Q' .normal a w) : ∀ fuel, wpAnyIn F n P md ops Q' fuel listed a w
  | 0 => ⟨h, hQ⟩
  | _ + 1 => ⟨fun _ => hQ, fun i hi => by rw [h] at hi; cases hi⟩
theorem any_last_round {P : Program} {l : List Oper} {rd : Nat} (hnd : noDefer (muted l).toArray = true) (hW : Waits l.toArray) {C : World → Prop} {Q₁ : Act → Prop} {Q' : Exit → Act → World → Prop} {n : Nat} (hn : n + 1 = l.length) {o : Oper} (ho : l[n]? = some o)
    (hlast : ∀ a w, C w → Q₁ a → o.wpIn (Fence.wide.inRound rd) 0 P a w (Q' .normal) Q') :
    ∀ (fuel : Nat) (listed : Array Bool) (a : Act) (w : World), listed.getD n true = false → Shut l.toArray listed → C w → wpAnyQ P .any (muted l).toArray C Q₁ fuel listed a → wpAnyIn (Fence.wide.inRound rd) 0 P .any l.toArray Q' fuel listed a w := by
  have hn' : n < l.toArray.size := by simp; omega
  have hg : o.guard = none := by
    cases hg : o.guard with
    | none => rfl
    | some gb => obtain ⟨g, b⟩ := gb; have := (hW.guard n o (by simpa using ho) g b hg).2; simp at this; omega
  intro fuel
  induction fuel with
  | zero =>
    intro listed a w hl _ _ h
    have h1 := h.1
    rw [muted_ready] at h1
    have := hW.all h1 n hn'
    rw [hl] at this; cases this
  | succ fuel ih =>
    intro listed a w hl hS hC h
    refine ⟨fun h0 => ?_, fun i hi => ?_⟩
    · have := hW.all h0 n hn'
      rw [hl] at this; cases this
    · have hq := h.2 i (by rw [muted_ready]; exact hi)
      by_cases e : i = n
      · subst e
        have hall := hW.last hS (by simpa using hn) hi
        obtain ⟨hun, _, _, _⟩ := mem_ready.1 hi
        have hsz : i < listed.size := by
          rcases Nat.lt_or_ge i listed.size with h' | h'
          · exact h'
          · simp [Array.getElem?_eq_none h'] at hun
        have hready : Region.ready .any l.toArray (listed.setIfInBounds i true) = [] := by
          rw [List.eq_nil_iff_forall_not_mem]
          intro j hj
          obtain ⟨hj1, oj, hj2, _⟩ := mem_ready.1 hj
          have hjlt : j < l.length := by simpa using (Array.getElem?_eq_some_iff.1 hj2).1
          by_cases ej : j = i
          · subst ej
            rw [Array.getD_eq_getD_getElem?, Array.getElem?_setIfInBounds_self_of_lt hsz] at hj1
            cases hj1
          · have h3 := hall j (by omega)
            rw [Array.getD_eq_getD_getElem?, Array.getElem?_setIfInBounds_ne (Ne.symm ej)] at hj1
            rw [Array.getD_eq_getD_getElem?] at h3
            cases hx : listed[j]? with
            | none => rw [hx] at h3; cases h3
            | some b => rw [hx] at h3 hj1; simp at h3 hj1; rw [h3] at hj1; cases hj1
        have hQ1 : Q₁ a := by
          unfold qOp at hq
          have hmg : (muted l).toArray[i]? = some (mute o) := by rw [List.getElem?_toArray, muted_get, if_pos hn, ho]; rfl
          simp only [hmg] at hq
          have hwt : Region.wanted (mute o) (yielded (muted l).toArray a.tmps) = true := by simp [Region.wanted, mute, hg]
          rw [if_pos hwt] at hq
          obtain ⟨v, _, h5⟩ := hq
          have h6 := anyQ_done (by rw [muted_ready]; exact hready) _ h5
          exact h6
        unfold wpOpIn
        rw [List.getElem?_toArray, ho]
        simp only [Region.wanted, hg, if_true]
        exact Oper.wpIn_mono (fun a' w' hq' => anyIn_done hready hq' _) (hlast a w hC hQ1)
      · have hndi : ∀ oi, l[i]? = some oi → ∀ c, oi.op ≠ .defer c := fun oi hoi => noDefer_spec hnd (i := i) (by rw [List.getElem?_toArray, muted_get, if_neg (by omega), hoi])
        have hsame : qOp P l.toArray C i (wpAnyQ P .any (muted l).toArray C Q₁ fuel (listed.setIfInBounds i true)) a := by
          unfold qOp at hq ⊢
          cases hoi : l[i]? with
          | none =>
            simp only [List.getElem?_toArray, muted_get, if_neg (show ¬ (i + 1 = l.length) by omega), hoi] at hq ⊢
            exact hq
          | some oi =>
            simp only [List.getElem?_toArray, muted_get, if_neg (show ¬ (i + 1 = l.length) by omega), hoi] at hq ⊢
            rw [muted_wanted hW hoi] at hq
            exact hq
        have hl2 : (listed.setIfInBounds i true).getD n true = false := by rw [getD_set_ne true e]; exact hl
        unfold qOp at hsame
        unfold wpOpIn
        cases hoi : l.toArray[i]? with
        | none =>
          simp only [hoi] at hsame ⊢
          exact ih _ a w hl2 (hS.next hi) hC hsame
        | some oi =>
          simp only [hoi] at hsame ⊢
          have hd := hndi oi (by simpa using hoi)
          split
          · rename_i hw
            rw [if_pos hw] at hsame
            exact roundOper_of_quiet hd hC (fun a' w' hC' hk => ih _ a' w' hl2 (hS.next hi) hC' hk) hsame
          · rename_i hw
            rw [if_neg hw] at hsame
            exact ⟨fun _ _ => trivial, ih _ _ w hl2 (hS.next hi) hC hsame⟩


theorem wpIn_region_last_round {P : Program} {id : Nat} {Q : Exit → Act → World → Prop} {a : Act} {w : World} {l : List Oper} {rd : Nat} (hm : P.follows .mixedOrders = true) (hWB : lastWaits l.toArray = true) (hB : Region.lexB .any (muted l).toArray = true)
    (hnd : noDefer (muted l).toArray = true) (n : Nat) (o : Oper) (hn : n + 1 = l.length) (ho : l[n]? = some o)
    (h : wpQuiet P (muted l).toArray (fun w' => ∃ p : Sub w, w' = p.x) (fun a' => ∀ q : Sub w, o.wpIn (Fence.wide.inRound rd) 0 P a' q.x (Q .normal) Q) (muted l) a) : (Code.region id l.toArray true).wpIn (Fence.wide.inRound rd) 0 P Q a w := by
  simp only [Region.lexB, Bool.and_eq_true] at hB
  refine wpIn_region_any hm (any_last_round hnd (lastWaits_spec hWB) (C := fun w' => ∃ p : Sub w, w' = p.x) (Q₁ := fun a' => ∀ q : Sub w, o.wpIn (Fence.wide.inRound rd) 0 P a' q.x (Q .normal) Q) hn ho (fun a' w' hC hq => by obtain ⟨q, rfl⟩ := hC; exact hq q) _ _ _ _ ?_ ?_
    ⟨⟨w.drew, rfl, rfl, rfl, Nat.le_refl _, fun _ _ => rfl⟩, rfl⟩ ?_)
  · have : n < l.length := by omega
    simp [this]
  · intro i o' _ hl
    rw [Array.getD_eq_getD_getElem?, Array.getElem?_replicate] at hl
    split at hl <;> cases hl
  · have := wpAnyQ_lex (P := P) (C := fun w' => ∃ p : Sub w, w' = p.x) (md := .any) hB.1 (muted l) 0 (Array.replicate (muted l).toArray.size false) a (by simp) (by simpa using hB.2) h
    simpa [muted_len] using this
end
section
open Go Go.RowKit

/-- The operations from place n on made harmless. -/
def muteFrom : Nat → List Oper → List Oper
  | _, [] => []
  | 0, o :: r => mute o :: muteFrom 0 r
  | n + 1, o :: r => o :: muteFrom n r
theorem muteFrom_len : ∀ (n : Nat) (l : List Oper), (muteFrom n l).length = l.length
  | 0, [] => rfl
  | _ + 1, [] => rfl
  | 0, _ :: r => by simp only [muteFrom, List.length_cons, muteFrom_len 0 r]
  | n + 1, _ :: r => by simp only [muteFrom, List.length_cons, muteFrom_len n r]
theorem muteFrom_get : ∀ (n : Nat) (l : List Oper) (i : Nat), (muteFrom n l)[i]? = if i < n then l[i]? else (l[i]?).map mute
  | 0, [], i => by simp [muteFrom]
  | n + 1, [], i => by simp [muteFrom]
  | 0, o :: r, i => by
    cases i with
    | zero => simp [muteFrom]
    | succ i => have := muteFrom_get 0 r i; simpa [muteFrom] using this
  | n + 1, o :: r, i => by
    cases i with
    | zero => simp [muteFrom]
    | succ i =>
      have := muteFrom_get n r i
      simp only [muteFrom, List.getElem?_cons_succ, this]
      by_cases h : i < n
      · rw [if_pos h, if_pos (by omega)]
      · rw [if_neg h, if_neg (by omega)]

/-- All edges go back; each operation ahead of n is waited for by a later one, up to n; each behind n waits for the one ahead of it; no guard from n on, none looks at what lies there. -/
def tailWaits (n : Nat) (ops : Array Oper) : Bool :=
  decide (n < ops.size) && (List.range ops.size).all fun i => match ops[i]? with
    | none => false
    | some o => (o.after.all fun e => decide (e.on < i)) && (match o.guard with | none => true | some (g, _) => decide (g < n) && decide (i < n)) &&
      (decide (n ≤ i) || (List.range (n + 1)).any fun j => decide (i < j) && match ops[j]? with | none => false | some p => p.after.any fun e => Region.binds .any e && decide (e.on = i)) &&
      (decide (i ≤ n) || o.after.any fun e => Region.binds .any e && decide (e.on + 1 = i))

structure TWaits (n : Nat) (ops : Array Oper) : Prop where
  lt : n < ops.size
  back : ∀ (i : Nat) (o : Oper), ops[i]? = some o → ∀ e ∈ o.after, e.on < i
  guard : ∀ (i : Nat) (o : Oper), ops[i]? = some o → ∀ g b, o.guard = some (g, b) → g < n ∧ i < n
  wait : ∀ i, i < n → ∃ j p, i < j ∧ j ≤ n ∧ ops[j]? = some p ∧ ∃ e ∈ p.after, Region.binds .any e = true ∧ e.on = i
  chain : ∀ (i : Nat) (o : Oper), ops[i]? = some o → n < i → ∃ e ∈ o.after, Region.binds .any e = true ∧ e.on + 1 = i
theorem tailWaits_spec {n : Nat} {ops : Array Oper} (h : tailWaits n ops = true) : TWaits n ops := by
  unfold tailWaits at h
  rw [Bool.and_eq_true, decide_eq_true_iff, List.all_eq_true] at h
  obtain ⟨hn, h⟩ := h
  have key : ∀ (i : Nat) (o : Oper), ops[i]? = some o → ((o.after.all fun e => decide (e.on < i)) && (match o.guard with | none => true | some (g, _) => decide (g < n) && decide (i < n)) &&
      (decide (n ≤ i) || (List.range (n + 1)).any fun j => decide (i < j) && match ops[j]? with | none => false | some p => p.after.any fun e => Region.binds .any e && decide (e.on = i)) &&
      (decide (i ≤ n) || o.after.any fun e => Region.binds .any e && decide (e.on + 1 = i))) = true := by
    intro i o ho
    have hi : i < ops.size := (Array.getElem?_eq_some_iff.1 ho).1
    have := h i (List.mem_range.2 hi)
    rw [ho] at this
    exact this
  constructor
  · exact hn
  · intro i o ho e he
    have := key i o ho
    simp only [Bool.and_eq_true, Array.all_eq_true_iff_forall_mem, decide_eq_true_eq] at this
    exact this.1.1.1 e he
  · intro i o ho g b hg
    have := key i o ho
    rw [hg] at this
    simp only [Bool.and_eq_true, decide_eq_true_eq] at this
    exact this.1.1.2
  · intro i hi
    obtain ⟨o, ho⟩ : ∃ o, ops[i]? = some o := ⟨ops[i], by simp [show i < ops.size by omega]⟩
    have := key i o ho
    simp only [Bool.and_eq_true, Bool.or_eq_true, decide_eq_true_eq] at this
    rcases this.1.2 with h1 | h1
    · omega
    · rw [List.any_eq_true] at h1
      obtain ⟨j, hj0, hj⟩ := h1
      have hjn := List.mem_range.1 hj0
      simp only [Bool.and_eq_true, decide_eq_true_eq] at hj
      obtain ⟨hij, hj⟩ := hj
      cases hp : ops[j]? with
      | none => rw [hp] at hj; cases hj
      | some p =>
        rw [hp] at hj
        simp only [] at hj
        rw [Array.any_eq_true'] at hj
        obtain ⟨e, he, h5⟩ := hj
        simp only [Bool.and_eq_true, decide_eq_true_eq] at h5
        exact ⟨j, p, hij, by omega, hp, e, he, h5⟩
  · intro i o ho hni
    have := key i o ho
    simp only [Bool.and_eq_true, Bool.or_eq_true, decide_eq_true_eq] at this
    rcases this.2 with h1 | h1
    · omega
    · rw [Array.any_eq_true'] at h1
      obtain ⟨e, he, h5⟩ := h1
      simp only [Bool.and_eq_true, decide_eq_true_eq] at h5
      exact ⟨e, he, h5⟩

theorem muteFrom_ready (n : Nat) (md : Region.Mode) (l : List Oper) (listed : Array Bool) : Region.ready md (muteFrom n l).toArray listed = Region.ready md l.toArray listed := by
  unfold Region.ready
  simp only [List.size_toArray, muteFrom_len, List.getElem?_toArray]
  refine List.filter_congr fun i _ => ?_
  rw [muteFrom_get]
  by_cases e : i < n
  · rw [if_pos e]
  · rw [if_neg e]; cases l[i]? <;> simp [mute]
theorem muteFrom_wanted {n : Nat} {l : List Oper} (hW : TWaits n l.toArray) {i : Nat} {o : Oper} (ho : l[i]? = some o) (tmps : Array Value) : Region.wanted o (yielded (muteFrom n l).toArray tmps) = Region.wanted o (yielded l.toArray tmps) := by
  unfold Region.wanted
  cases hg : o.guard with
  | none => rfl
  | some gb =>
    obtain ⟨g, b⟩ := gb
    have hlt := (hW.guard i o (by simpa using ho) g b hg).1
    have : yielded (muteFrom n l).toArray tmps g = yielded l.toArray tmps g := by
      unfold yielded
      simp only [List.getElem?_toArray]
      rw [muteFrom_get, if_pos hlt]
    simp only [this]

/-- Just those ahead of k are listed. -/
def UpTo (listed : Array Bool) (size k : Nat) : Prop := listed.size = size ∧ ∀ j, j < size → listed.getD j true = decide (j < k)
theorem UpTo.next {listed : Array Bool} {size k : Nat} (h : UpTo listed size k) : UpTo (listed.setIfInBounds k true) size (k + 1) := by
  refine ⟨by rw [Array.size_setIfInBounds]; exact h.1, fun j hj => ?_⟩
  by_cases e : k = j
  · subst e
    rw [Array.getD_eq_getD_getElem?, Array.getElem?_setIfInBounds_self_of_lt (by rw [h.1]; exact hj)]
    simp
  · rw [getD_set_ne true e, h.2 j hj]
    by_cases h1 : j < k
    · rw [decide_eq_true h1, decide_eq_true (by omega)]
    · rw [decide_eq_false h1, decide_eq_false (by omega)]
theorem getD_un {listed : Array Bool} {i : Nat} (h : listed.getD i true = false) : listed.getD i false = false := by
  rcases Nat.lt_or_ge i listed.size with h' | h'
  · simp [h'] at h ⊢; exact h
  · simp [Array.getElem?_eq_none h'] at h
theorem UpTo.no {listed : Array Bool} {size k j : Nat} (h : UpTo listed size k) (hj : j < size) (hk : ¬ j < k) : listed.getD j false = false := by
  have h1 := h.2 j hj
  rw [decide_eq_false hk] at h1
  exact getD_un h1
theorem UpTo.yes {listed : Array Bool} {size k j : Nat} (h : UpTo listed size k) (hj : j < size) (hk : j < k) : listed.getD j false = true := by
  have h1 := h.2 j hj
  rw [decide_eq_true hk] at h1
  have h2 : j < listed.size := by rw [h.1]; exact hj
  simp [h2] at h1 ⊢
  exact h1
/-- Behind n just the next one is ready. -/
theorem TWaits.only {n : Nat} {ops : Array Oper} (hW : TWaits n ops) {listed : Array Bool} {k : Nat} (hU : UpTo listed ops.size k) (hk : n ≤ k) {i : Nat} (hi : i ∈ Region.ready .any ops listed) : i = k := by
  obtain ⟨hun, o, ho, hall⟩ := mem_ready.1 hi
  have his : i < ops.size := (Array.getElem?_eq_some_iff.1 ho).1
  have hge : ¬ i < k := fun h => by have := hU.2 i his; rw [decide_eq_true h, hun] at this; cases this
  by_cases e : i = k
  · exact e
  · exfalso
    obtain ⟨x, hx, hb, hon⟩ := hW.chain i o ho (by omega)
    have h1 := hall x hx hb
    rw [hU.no (by omega) (by omega)] at h1
    cases h1
theorem TWaits.next {n : Nat} {ops : Array Oper} (hW : TWaits n ops) {listed : Array Bool} {k : Nat} (hU : UpTo listed ops.size k) (hk : k < ops.size) : k ∈ Region.ready .any ops listed := by
  refine mem_ready.2 ⟨by rw [hU.2 k hk]; simp, ops[k], by simp [hk], fun e he _ => ?_⟩
  have := hW.back k ops[k] (by simp [hk]) e he
  exact hU.yes (by omega) this

/-- The tail is run in its one order. -/
theorem tail_run {P : Program} {n : Nat} {l : List Oper} (hW : TWaits n l.toArray) {Q' : Exit → Act → World → Prop} : ∀ (d fuel k : Nat) (listed : Array Bool) (a : Act) (w : World), l.length - k = d → d ≤ fuel → n ≤ k → k ≤ l.length → UpTo listed l.toArray.size k →
    wpList P l.toArray Q' (l.drop k) a w → wpAny P .any l.toArray Q' fuel listed a w := by
  intro d
  induction d with
  | zero =>
    intro fuel k listed a w hd _ hnk hkl hU h
    obtain rfl : k = l.length := by omega
    refine any_done ?_ ?_ fuel
    · rw [List.eq_nil_iff_forall_not_mem]
      intro j hj
      have := hW.only hU hnk hj
      obtain ⟨_, oj, hj2, _⟩ := mem_ready.1 hj
      have := (Array.getElem?_eq_some_iff.1 hj2).1
      simp at this; omega
    · rw [List.drop_of_length_le (Nat.le_refl _)] at h
      exact h
  | succ d ih =>
    intro fuel k listed a w hd hf hnk hkl hU h
    have hk : k < l.length := by omega
    obtain ⟨fuel, rfl⟩ : ∃ m, fuel = m + 1 := ⟨fuel - 1, by omega⟩
    refine ⟨fun h0 => ?_, fun i hi => ?_⟩
    · have := hW.next hU (by simpa using hk)
      rw [h0] at this; cases this
    · obtain rfl := hW.only hU hnk hi
      rw [List.drop_eq_getElem_cons hk] at h
      have ho : l.toArray[i]? = some l[i] := by simp [hk]
      have hg : l[i].guard = none := by
        cases hg : l[i].guard with
        | none => rfl
        | some gb => obtain ⟨g, b⟩ := gb; have := (hW.guard i _ ho g b hg).2; omega
      have hwant : Region.wanted l[i] (yielded l.toArray a.tmps) = true := by simp [Region.wanted, hg]
      unfold wpList at h
      simp only [hwant, if_true] at h
      unfold wpOp
      rw [ho]
      simp only [hwant, if_true]
      rcases h with h | h
      · refine .inl (Oper.wp_mono (fun a' w' hk' => ?_) h)
        exact ih fuel (i + 1) _ a' w' (by omega) (by omega) (by omega) (by omega) hU.next hk'
      · exact .inr h
/-- What the quiet walk tells where just the tail is left. -/
theorem tail_fuel {P : Program} {n : Nat} {l : List Oper} (hW : TWaits n l.toArray) {C : World → Prop} {Q₁ : Act → Prop} : ∀ (fuel k : Nat) (listed : Array Bool) (a : Act), n ≤ k → k ≤ l.length → UpTo listed l.toArray.size k →
    wpAnyQ P .any (muteFrom n l).toArray C Q₁ fuel listed a → l.length - k ≤ fuel ∧ Q₁ a := by
  have hfull : ∀ (k : Nat) (listed : Array Bool), n ≤ k → k = l.length → UpTo listed l.toArray.size k → Region.ready .any l.toArray listed = [] := by
    intro k listed hnk hkl hU
    rw [List.eq_nil_iff_forall_not_mem]
    intro j hj
    have := hW.only hU hnk hj
    obtain ⟨_, oj, hj2, _⟩ := mem_ready.1 hj
    have := (Array.getElem?_eq_some_iff.1 hj2).1
    simp at this; omega
  intro fuel
  induction fuel with
  | zero =>
    intro k listed a hnk hkl hU h
    have h1 := h.1
    rw [muteFrom_ready] at h1
    by_cases hk : k < l.length
    · have := hW.next hU (by simpa using hk)
      rw [h1] at this; cases this
    · exact ⟨by omega, h.2⟩
  | succ fuel ih =>
    intro k listed a hnk hkl hU h
    by_cases hk : k < l.length
    · have hi := hW.next hU (by simpa using hk)
      have hq := h.2 k (by rw [muteFrom_ready]; exact hi)
      have ho : l.toArray[k]? = some l[k] := by simp [hk]
      have hg : l[k].guard = none := by
        cases hg : l[k].guard with
        | none => rfl
        | some gb => obtain ⟨g, b⟩ := gb; have := (hW.guard k _ ho g b hg).2; omega
      unfold qOp at hq
      have hmg : (muteFrom n l).toArray[k]? = some (mute l[k]) := by rw [List.getElem?_toArray, muteFrom_get, if_neg (by omega)]; simp [hk]
      simp only [hmg] at hq
      have hwt : Region.wanted (mute l[k]) (yielded (muteFrom n l).toArray a.tmps) = true := by simp [Region.wanted, mute, hg]
      rw [if_pos hwt] at hq
      obtain ⟨v, _, h5⟩ := hq
      have := ih (k + 1) _ a (by omega) (by omega) hU.next h5
      exact ⟨by omega, this.2⟩
    · have := hfull k listed hnk (by omega) hU
      exact ⟨by omega, h.1 (by rw [muteFrom_ready]; exact this)⟩
/-- The tail's first one is ready: all ahead of it are listed, none behind. -/
theorem TWaits.upto {n : Nat} {ops : Array Oper} (hW : TWaits n ops) {listed : Array Bool} (hs : listed.size = ops.size) (hS : Shut ops listed) {t : Nat} (hnt : n ≤ t) (hl : listed.getD n true = false) (hi : t ∈ Region.ready .any ops listed) : t = n ∧ UpTo listed ops.size n := by
  have htail : ∀ d j, j = n + d → j < ops.size → listed.getD j false = false := by
    intro d
    induction d with
    | zero => intro j hj _; obtain rfl : j = n := by omega
              exact getD_un hl
    | succ d ih =>
      intro j hj hjs
      obtain ⟨x, hx, hb, hon⟩ := hW.chain j ops[j] (by simp [hjs]) (by omega)
      cases hh : listed.getD j false with
      | false => rfl
      | true =>
        have := hS j ops[j] (by simp [hjs]) hh x hx hb
        rw [ih x.on (by omega) (by omega)] at this
        cases this
  obtain ⟨_, ot, hot, hr⟩ := mem_ready.1 hi
  have hts : t < ops.size := (Array.getElem?_eq_some_iff.1 hot).1
  have htn : t = n := by
    by_cases e : t = n
    · exact e
    · exfalso
      obtain ⟨x, hx, hb, hon⟩ := hW.chain t ot hot (by omega)
      have := hr x hx hb
      rw [htail (x.on - n) x.on (by omega) (by omega)] at this
      cases this
  subst htn
  refine ⟨rfl, hs, ?_⟩
  have key : ∀ m j, t - j ≤ m → j < t → listed.getD j false = true := by
    intro m
    induction m with
    | zero => intro j h1 h2; omega
    | succ m ih =>
      intro j h1 h2
      obtain ⟨k, p, hjk, hkn, hp, e, he, hb, heq⟩ := hW.wait j h2
      by_cases ek : k = t
      · subst ek
        rw [hot] at hp; cases hp
        rw [← heq]; exact hr e he hb
      · have hl2 := ih k (by omega) (by omega)
        rw [← heq]; exact hS k p hp hl2 e he hb
  intro j hj
  have hjs : j < listed.size := by omega
  by_cases h1 : j < t
  · have := key (t - j) j (Nat.le_refl _) h1
    simp [hjs] at this
    rw [decide_eq_true h1]; simp [hjs, this]
  · have := htail (j - t) j (by omega) hj
    simp [hjs] at this
    rw [decide_eq_false h1]; simp [hjs, this]
theorem any_tail {P : Program} {n : Nat} {l : List Oper} (hW : TWaits n l.toArray) {C : World → Prop} {Q' : Exit → Act → World → Prop} :
    ∀ (fuel : Nat) (listed : Array Bool) (a : Act) (w : World), listed.size = l.toArray.size → listed.getD n true = false → Shut l.toArray listed → C w →
      wpAnyQ P .any (muteFrom n l).toArray C (fun a => ∀ w, C w → wpList P l.toArray Q' (l.drop n) a w) fuel listed a → wpAny P .any l.toArray Q' fuel listed a w := by
  have hnl := hW.lt
  have hsome : ∀ (listed : Array Bool), listed.size = l.toArray.size → listed.getD n true = false → Region.ready .any l.toArray listed ≠ [] := by
    intro listed hs hl h0
    -- the least one that is not listed is ready
    obtain ⟨j, hj1, hj2⟩ : ∃ j, listed.getD j true = false ∧ ∀ i, i < j → listed.getD i true = true := by
      have : ∀ d m, m + d = n → (∀ i, i < m → listed.getD i true = true) → ∃ j, listed.getD j true = false ∧ ∀ i, i < j → listed.getD i true = true := by
        intro d
        induction d with
        | zero => intro m hm h; exact ⟨m, by rw [show m = n by omega]; exact hl, h⟩
        | succ d ih =>
          intro m hm h
          cases hx : listed.getD m true with
          | false => exact ⟨m, hx, h⟩
          | true => exact ih (m + 1) (by omega) (fun i hi => by
              by_cases e : i = m
              · rw [e]; exact hx
              · exact h i (by omega))
      exact this n 0 (by omega) (fun i hi => by omega)
    have hjs : j < l.toArray.size := by
      rcases Nat.lt_or_ge j listed.size with h' | h'
      · omega
      · simp [Array.getElem?_eq_none h'] at hj1
    have : j ∈ Region.ready .any l.toArray listed := mem_ready.2 ⟨hj1, l.toArray[j], by simp [hjs], fun e he _ => by
      have hb := hW.back j l.toArray[j] (by simp [hjs]) e he
      have h2 := hj2 e.on hb
      have h3 : e.on < listed.size := by omega
      simp [h3] at h2 ⊢
      exact h2⟩
    rw [h0] at this; cases this
  intro fuel
  induction fuel with
  | zero =>
    intro listed a w hs hl _ _ h
    have h1 := h.1
    rw [muteFrom_ready] at h1
    exact absurd h1 (hsome listed hs hl)
  | succ fuel ih =>
    intro listed a w hs hl hS hC h
    refine ⟨fun h0 => absurd h0 (hsome listed hs hl), fun i hi => ?_⟩
    by_cases e : n ≤ i
    · obtain ⟨rfl, hU⟩ := hW.upto hs hS e hl hi
      have hf := tail_fuel hW (fuel + 1) i listed a (Nat.le_refl _) (by simpa using Nat.le_of_lt hnl) hU h
      have := tail_run hW (l.length - i) (fuel + 1) i listed a w rfl hf.1 (Nat.le_refl _) (by simpa using Nat.le_of_lt hnl) hU (hf.2 w hC)
      exact this.2 i hi
    · have hq := h.2 i (by rw [muteFrom_ready]; exact hi)
      have hsame : qOp P l.toArray C i (wpAnyQ P .any (muteFrom n l).toArray C (fun a => ∀ w, C w → wpList P l.toArray Q' (l.drop n) a w) fuel (listed.setIfInBounds i true)) a := by
        unfold qOp at hq ⊢
        cases hoi : l[i]? with
        | none =>
          simp only [List.getElem?_toArray, muteFrom_get, if_pos (show i < n by omega), hoi] at hq ⊢
          exact hq
        | some oi =>
          simp only [List.getElem?_toArray, muteFrom_get, if_pos (show i < n by omega), hoi] at hq ⊢
          rw [muteFrom_wanted hW hoi] at hq
          exact hq
      refine wpOp_of_qOp hC (fun a' w' hC' hk => ih _ a' w' (by rw [Array.size_setIfInBounds]; exact hs) ?_ (hS.next hi) hC' hk) hsame
      rw [getD_set_ne true (by omega)]; exact hl

theorem wp_region_tail {P : Program} {id : Nat} {Q : Exit → Act → World → Prop} {a : Act} {w : World} {l : List Oper} (n : Nat) (hm : P.follows .mixedOrders = true) (hWB : tailWaits n l.toArray = true) (hB : Region.lexB .any (muteFrom n l).toArray = true)
    (h : wpQuiet P (muteFrom n l).toArray (fun w' => ∃ p : Sub w, w' = p.x) (fun a' => ∀ q : Sub w, wpList P l.toArray Q (l.drop n) a' q.x) (muteFrom n l) a) : (Code.region id l.toArray true).wp P Q a w := by
  simp only [Region.lexB, Bool.and_eq_true] at hB
  have hW := tailWaits_spec hWB
  have e : (fun a' => ∀ w', (∃ p : Sub w, w' = p.x) → wpList P l.toArray Q (l.drop n) a' w') = fun a' => ∀ q : Sub w, wpList P l.toArray Q (l.drop n) a' q.x := by
    funext a'; exact propext ⟨fun h q => h _ ⟨q, rfl⟩, fun h w' ⟨q, hq⟩ => hq ▸ h q⟩
  rw [← e] at h
  have hlt := hW.lt
  refine wp_region_any hm (any_tail hW (C := fun w' => ∃ p : Sub w, w' = p.x) _ _ _ _ (by simp) ?_ ?_ ⟨⟨w.drew, rfl, rfl, rfl, Nat.le_refl _, fun _ _ => rfl⟩, rfl⟩ ?_)
  · have : n < l.length := by simpa using hlt
    simp [this]
  · intro i o' _ hl
    rw [Array.getD_eq_getD_getElem?, Array.getElem?_replicate] at hl
    split at hl <;> cases hl
  · have := wpAnyQ_lex (P := P) (C := fun w' => ∃ p : Sub w, w' = p.x) (md := .any) hB.1 (muteFrom n l) 0 (Array.replicate (muteFrom n l).toArray.size false) a (by simp) (by simpa using hB.2) h
    simpa [muteFrom_len] using this
theorem wpIn_region_tail {P : Program} {id : Nat} {Q : Exit → Act → World → Prop} {a : Act} {w : World} {l : List Oper} (n : Nat) (hm : P.follows .mixedOrders = true) (hWB : tailWaits n l.toArray = true) (hB : Region.lexB .any (muteFrom n l).toArray = true)
    (h : wpQuiet P (muteFrom n l).toArray (fun w' => ∃ p : Sub w, w' = p.x) (fun a' => ∀ q : Sub w, wpList P l.toArray Q (l.drop n) a' q.x) (muteFrom n l) a) : (Code.region id l.toArray true).wpIn Fence.wide 0 P Q a w :=
  wpIn_wide.2 (wp_region_tail n hm hWB hB h)
end
section
open Go Go.RowKit

/-- What one operation comes to. -/
def OpOk (P : Program) (o : Oper) (a : Act) (W : World) (Ψ : Value → World → Prop) : Prop :=
  match (execOp a.eval o).run P W with
  | .ok (.value v) W' => Below W.heap.size W W' ∧ Ψ v W'
  | .ok .skip W' => Below W.heap.size W W' ∧ Ψ undef W'
  | .ok (.enter f args) W' => Calls P f args W' fun e W'' => ∃ v, e = .returned v ∧ Below W.heap.size W W'' ∧ Ψ v W''
  | _ => False
theorem OpOk.wp {P : Program} {o : Oper} {a : Act} {W : World} {Ψ : Value → World → Prop} {K : Act → World → Prop} {Q : Exit → Act → World → Prop} (h : OpOk P o a W Ψ)
    (hK : ∀ v W', Below W.heap.size W W' → Ψ v W' → K (a.put o.dst v) W') : o.wp P a W K Q := by
  unfold OpOk at h
  unfold Oper.wp
  generalize (execOp a.eval o).run P W = r at *
  cases r with
  | ok n w' =>
    cases n <;> simp only [Oper.upon] <;> simp only [] at h
    case value u => exact hK _ _ h.1 h.2
    case skip => exact hK _ _ h.1 h.2
    case enter f args =>
      refine h.mono fun e w'' ⟨v, he, hb, hv⟩ => ?_
      subst he
      exact hK _ _ hb hv
  | halt x w' => simp only [] at h
/-- The slot of an operation. -/
def slotOf (l : List Oper) (i : Nat) : Option Tmp := (l[i]?).bind (·.dst)
/-- No slot is written twice ahead of n. -/
def slotsApart (n : Nat) (l : List Oper) : Bool :=
  (List.range n).all fun i => (List.range n).all fun j => decide (i = j) || (match slotOf l i, slotOf l j with | some x, some y => decide (x ≠ y) | _, _ => true)
/-- What stands in the slots. -/
structure Stand (n : Nat) (l : List Oper) (Φ : Nat → Value → World → Prop) (a0 : Act) (w : World) (listed : Array Bool) (a : Act) (W : World) : Prop where
  bel : Below w.heap.size w W
  size : a.tmps.size = a0.tmps.size
  defers : a.defers = a0.defers
  old : ∀ k, (∀ i, i < n → slotOf l i ≠ some k) → a.tmps.getD k undef = a0.tmps.getD k undef
  new : ∀ i d, i < n → listed.getD i true = true → slotOf l i = some d → Φ i (a.tmps.getD d undef) W

/-- How many are not listed. -/
def unl (m : Nat) (listed : Array Bool) : Nat := (List.range m).countP fun i => !(listed.getD i true)
theorem countP_lt {l : List Nat} {p q : Nat → Bool} (h : ∀ x ∈ l, p x = true → q x = true) {i : Nat} (hi : i ∈ l) (hq : q i = true) (hp : p i = false) : l.countP p < l.countP q := by
  induction l with
  | nil => cases hi
  | cons y l ih =>
    have h1 := h y (.head _)
    have hmono : l.countP p ≤ l.countP q := by
      clear ih hi
      induction l with
      | nil => exact Nat.le_refl _
      | cons z l ih2 =>
        have h2 := h z (.tail _ (.head _))
        have h3 := ih2 (fun x hx => h x (by
          cases hx with
          | head => exact .head _
          | tail _ hx => exact .tail _ (.tail _ hx)))
        simp only [List.countP_cons]
        cases hz : p z with
        | true => rw [h2 hz]; simp; omega
        | false => simp; split <;> omega
    simp only [List.countP_cons]
    by_cases e : i = y
    · subst e; rw [hq, hp]; simp; omega
    · have hi' : i ∈ l := by cases hi with
        | head => exact absurd rfl e
        | tail _ hi => exact hi
      have := ih (fun x hx => h x (.tail _ hx)) hi'
      cases hy : p y with
      | true => rw [h1 hy]; simp; omega
      | false => simp; split <;> omega
theorem unl_set {m : Nat} {listed : Array Bool} {i : Nat} (him : i < m) (hs : listed.size = m) (hi : listed.getD i true = false) : unl m (listed.setIfInBounds i true) < unl m listed := by
  unfold unl
  refine countP_lt (i := i) (fun x _ hx => ?_) (List.mem_range.2 him) (by rw [hi]; rfl) ?_
  · by_cases e : i = x
    · subst e; rw [hi]; rfl
    · rw [getD_set_ne true e] at hx; exact hx
  · rw [Array.getD_eq_getD_getElem?, Array.getElem?_setIfInBounds_self_of_lt (by omega)]; rfl
theorem unl_pos {m : Nat} {listed : Array Bool} {i : Nat} (him : i < m) (hi : listed.getD i true = false) : 0 < unl m listed := by
  unfold unl
  exact List.countP_pos_iff.2 ⟨i, List.mem_range.2 him, by rw [hi]; rfl⟩
/-- The tail is run in its one order: by what is not listed. -/
theorem tail_run2 {P : Program} {n : Nat} {l : List Oper} (hW : TWaits n l.toArray) {Q' : Exit → Act → World → Prop} : ∀ (fuel k : Nat) (listed : Array Bool) (a : Act) (w : World), unl l.length listed ≤ fuel → n ≤ k → k ≤ l.length → UpTo listed l.toArray.size k →
    wpList P l.toArray Q' (l.drop k) a w → wpAny P .any l.toArray Q' fuel listed a w := by
  have key : ∀ (d fuel k : Nat) (listed : Array Bool), l.length - k = d → unl l.length listed ≤ fuel → n ≤ k → k ≤ l.length → UpTo listed l.toArray.size k → d ≤ fuel := by
    intro d
    induction d with
    | zero => intros; omega
    | succ d ih =>
      intro fuel k listed hd hf hnk hkl hU
      have hk : k < l.length := by omega
      have h1 : listed.getD k true = false := by rw [hU.2 k (by simpa using hk)]; simp
      have h2 := unl_set (m := l.length) hk (by simpa using hU.1) h1
      have := ih (fuel - 1) (k + 1) (listed.setIfInBounds k true) (by omega) (by omega) (by omega) (by omega) hU.next
      omega
  intro fuel k listed a w hf hnk hkl hU h
  exact tail_run hW (l.length - k) fuel k listed a w rfl (key _ fuel k listed rfl hf hnk hkl hU) hnk hkl hU h

theorem any_slots {P : Program} {n : Nat} {l : List Oper} (hW : TWaits n l.toArray) (hA : slotsApart n l = true) {Φ : Nat → Value → World → Prop} {Q' : Exit → Act → World → Prop} {a0 : Act} {w : World}
    (hst : ∀ i v W W', i < n → Φ i v W → Below W.heap.size W W' → Φ i v W') (hdst : ∀ i d, i < n → slotOf l i = some d → d < a0.tmps.size)
    (hguard : ∀ (i : Nat) (o : Oper) g b, i < n → l[i]? = some o → o.guard = some (g, b) → (∃ d, slotOf l g = some d) ∧ (∃ e ∈ o.after, Region.binds .any e = true ∧ e.on = g) ∧ ∀ v W, Φ g v W → v = .bool b)
    (hop : ∀ (i : Nat) (o : Oper), i < n → l[i]? = some o → ∀ (a : Act) (W : World), Below w.heap.size w W → a.defers = a0.defers → (∀ k, (∀ i, i < n → slotOf l i ≠ some k) → a.tmps.getD k undef = a0.tmps.getD k undef) →
      (∀ j d, (∃ e ∈ o.after, Region.binds .any e = true ∧ e.on = j) → slotOf l j = some d → Φ j (a.tmps.getD d undef) W) → OpOk P o a W (Φ i))
    (hend : ∀ a W, Stand n l Φ a0 w (Array.replicate l.length true) a W → wpList P l.toArray Q' (l.drop n) a W) :
    ∀ (fuel : Nat) (listed : Array Bool) (a : Act) (W : World), listed.size = l.toArray.size → listed.getD n true = false → Shut l.toArray listed → unl l.length listed ≤ fuel → Stand n l Φ a0 w listed a W →
      wpAny P .any l.toArray Q' fuel listed a W := by
  have hnl : n < l.length := by simpa using hW.lt
  have hsome : ∀ (listed : Array Bool), listed.size = l.toArray.size → listed.getD n true = false → Region.ready .any l.toArray listed ≠ [] := by
    intro listed hs hl h0
    obtain ⟨j, hj1, hj2⟩ : ∃ j, listed.getD j true = false ∧ ∀ i, i < j → listed.getD i true = true := by
      have : ∀ d m, m + d = n → (∀ i, i < m → listed.getD i true = true) → ∃ j, listed.getD j true = false ∧ ∀ i, i < j → listed.getD i true = true := by
        intro d
        induction d with
        | zero => intro m hm h; exact ⟨m, by rw [show m = n by omega]; exact hl, h⟩
        | succ d ih =>
          intro m hm h
          cases hx : listed.getD m true with
          | false => exact ⟨m, hx, h⟩
          | true => exact ih (m + 1) (by omega) (fun i hi => by
              by_cases e : i = m
              · rw [e]; exact hx
              · exact h i (by omega))
      exact this n 0 (by omega) (fun i hi => by omega)
    have hjs : j < l.toArray.size := by
      rcases Nat.lt_or_ge j listed.size with h' | h'
      · omega
      · simp [Array.getElem?_eq_none h'] at hj1
    have : j ∈ Region.ready .any l.toArray listed := mem_ready.2 ⟨hj1, l.toArray[j], by simp [hjs], fun e he _ => by
      have hb := hW.back j l.toArray[j] (by simp [hjs]) e he
      have h2 := hj2 e.on hb
      have h3 : e.on < listed.size := by omega
      simp [h3] at h2 ⊢
      exact h2⟩
    rw [h0] at this; cases this
  have hapart : ∀ i j d, i < n → j < n → slotOf l i = some d → slotOf l j = some d → i = j := by
    intro i j d hi hj h1 h2
    unfold slotsApart at hA
    rw [List.all_eq_true] at hA
    have h3 := hA i (List.mem_range.2 hi)
    rw [List.all_eq_true] at h3
    have h4 := h3 j (List.mem_range.2 hj)
    rw [h1, h2] at h4
    simpa using h4
  intro fuel
  induction fuel with
  | zero =>
    intro listed a W hs hl _ hu _
    have := unl_pos (m := l.length) hnl hl
    omega
  | succ fuel ih =>
    intro listed a W hs hl hS hu hSt
    refine ⟨fun h0 => absurd h0 (hsome listed hs hl), fun i hi => ?_⟩
    by_cases e : n ≤ i
    · obtain ⟨rfl, hU⟩ := hW.upto hs hS e hl hi
      have := tail_run2 hW (fuel + 1) i listed a W hu (Nat.le_refl _) (Nat.le_of_lt hnl) hU (hend a W ⟨hSt.bel, hSt.size, hSt.defers, hSt.old, fun j d hj _ hd => hSt.new j d hj (by rw [hU.2 j (by simp; omega)]; simp; exact hj) hd⟩)
      exact this.2 i hi
    · obtain ⟨hun, o, ho, hall⟩ := mem_ready.1 hi
      have hin : i < n := by omega
      have ho' : l[i]? = some o := by simpa using ho
      have hil : i < l.length := (List.getElem?_eq_some_iff.1 ho').1
      have hon : ∀ j, (∃ e ∈ o.after, Region.binds .any e = true ∧ e.on = j) → listed.getD j true = true ∧ j < n := by
        rintro j ⟨x, hx, hb, rfl⟩
        have h1 := hall x hx hb
        have h2 := hW.back i o ho x hx
        have h3 : x.on < listed.size := by rw [hs]; simp; omega
        refine ⟨?_, by omega⟩
        simp [h3] at h1 ⊢
        exact h1
      have hdep : ∀ j d, (∃ e ∈ o.after, Region.binds .any e = true ∧ e.on = j) → slotOf l j = some d → Φ j (a.tmps.getD d undef) W := fun j d hj hd => hSt.new j d (hon j hj).2 (hon j hj).1 hd
      have hwant : Region.wanted o (yielded l.toArray a.tmps) = true := by
        unfold Region.wanted
        cases hg : o.guard with
        | none => rfl
        | some gb =>
          obtain ⟨g, b⟩ := gb
          obtain ⟨⟨d, hd⟩, he, hv⟩ := hguard i o g b hin ho' hg
          have h1 := hv _ _ (hdep g d he hd)
          have hgn := (hon g he).2
          have h2 : yielded l.toArray a.tmps g = some b := by
            unfold yielded
            have h3 : (l.toArray[g]?).bind (·.dst) = some d := by simpa [slotOf] using hd
            rw [h3]
            have h4 : d < a.tmps.size := by rw [hSt.size]; exact hdst g d hgn hd
            have h5 : a.tmps[d]? = some (.bool b) := by
              rw [Array.getElem?_eq_getElem h4]
              rw [Array.getD_eq_getD_getElem?, Array.getElem?_eq_getElem h4] at h1
              simpa using h1
            simp [h5]
          simp [h2]
      unfold wpOp
      rw [ho]
      simp only [hwant, if_true]
      refine .inl (OpOk.wp (hop i o hin ho' a W hSt.bel hSt.defers hSt.old hdep) fun v W' hb hv => ?_)
      have hput : ∀ (x : Option Tmp), (a.put x v).defers = a.defers ∧ (a.put x v).tmps.size = a.tmps.size := fun x => by cases x <;> simp [Act.put]
      refine ih _ _ W' (by rw [Array.size_setIfInBounds]; exact hs) (by rw [getD_set_ne true (by omega)]; exact hl) (hS.next hi) ?_ ⟨below_cat hb hSt.bel, by rw [(hput _).2]; exact hSt.size, by rw [(hput _).1]; exact hSt.defers, ?_, ?_⟩
      · have := unl_set (m := l.length) hil (by simpa using hs) hun
        omega
      · intro k hk
        rw [← hSt.old k hk]
        have hne : o.dst ≠ some k := fun h => hk i hin (by simp [slotOf, ho', h])
        cases hd : o.dst with
        | none => rfl
        | some d =>
          have : d ≠ k := fun h => hne (by rw [hd, h])
          simp [Act.put, Array.getElem?_setIfInBounds_ne this]
      · intro j d hj hl2 hd
        by_cases ej : i = j
        · subst ej
          have hod : o.dst = some d := by simpa [slotOf, ho'] using hd
          have h4 : d < a.tmps.size := by rw [hSt.size]; exact hdst i d hj hd
          have : (a.put o.dst v).tmps.getD d undef = v := by rw [hod]; simp [Act.put, h4]
          rw [this]; exact hv
        · rw [getD_set_ne true ej] at hl2
          have h1 := hSt.new j d hj hl2 hd
          have hne : o.dst ≠ some d := fun h => ej (hapart i j d hin hj (by simp [slotOf, ho', h]) hd)
          have : (a.put o.dst v).tmps.getD d undef = a.tmps.getD d undef := by
            cases hod : o.dst with
            | none => rfl
            | some x =>
              have hx : x ≠ d := fun h => hne (by rw [hod, h])
              simp [Act.put, Array.getElem?_setIfInBounds_ne hx]
          rw [this]
          exact hst j _ _ _ hj h1 hb
/-- Does an operation wait for the j-th? -/
def depB (o : Oper) (j : Nat) : Bool := o.after.toList.any fun e => Region.binds .any e && decide (e.on = j)
theorem depB_of {o : Oper} {j : Nat} (h : depB o j = true) : ∃ e ∈ o.after, Region.binds .any e = true ∧ e.on = j := by
  unfold depB at h
  rw [List.any_eq_true] at h
  obtain ⟨e, he, h2⟩ := h
  simp only [Bool.and_eq_true, decide_eq_true_eq] at h2
  exact ⟨e, by simpa using he, h2⟩
/-- Is a slot none of those that the operations ahead of n write? -/
def outB' (n : Nat) (l : List Oper) (k : Nat) : Bool := (List.range n).all fun i => decide (slotOf l i ≠ some k)
theorem outB'_of {n : Nat} {l : List Oper} {k : Nat} (h : outB' n l k = true) : ∀ i, i < n → slotOf l i ≠ some k := by
  intro i hi
  unfold outB' at h
  rw [List.all_eq_true] at h
  simpa using h i (List.mem_range.2 hi)
def dstIn (n m : Nat) (l : List Oper) : Bool := (List.range n).all fun i => match slotOf l i with | none => true | some d => decide (d < m)
/-- Each guard looks at a slot that is waited for. -/
def guardsIn (n : Nat) (l : List Oper) : Bool := (List.range n).all fun i => match l[i]? with
  | none => true
  | some o => match o.guard with
    | none => true
    | some (g, _) => (slotOf l g).isSome && depB o g
def guardsOf (n : Nat) (l : List Oper) : List (Nat × Bool) := ((l.take n).filterMap (·.guard)).eraseDups
/-- Each operation by itself. -/
def EachOp (P : Program) (n : Nat) (l : List Oper) (Φ : Nat → Value → World → Prop) (a0 : Act) (w : World) : List Oper → Nat → Prop
  | [], _ => True
  | o :: r, i => (∀ (a : Act) (W : World), Below w.heap.size w W → (∀ k, outB' n l k = true → a.tmps.getD k undef = a0.tmps.getD k undef) →
      (∀ j d, depB o j = true → slotOf l j = some d → Φ j (a.tmps.getD d undef) W) → OpOk P o a W (Φ i)) ∧ EachOp P n l Φ a0 w r (i + 1)
theorem EachOp.get {P : Program} {n : Nat} {l : List Oper} {Φ : Nat → Value → World → Prop} {a0 : Act} {w : World} : ∀ {r : List Oper} {k : Nat}, EachOp P n l Φ a0 w r k → ∀ (i : Nat) (o : Oper), r[i]? = some o → ∀ (a : Act) (W : World), Below w.heap.size w W →
      (∀ k, outB' n l k = true → a.tmps.getD k undef = a0.tmps.getD k undef) → (∀ j d, depB o j = true → slotOf l j = some d → Φ j (a.tmps.getD d undef) W) → OpOk P o a W (Φ (k + i))
  | [], _, _, i, o, h => by simp at h
  | o' :: r, k, h, 0, o, ho => by
    simp at ho; subst ho; exact h.1
  | o' :: r, k, h, i + 1, o, ho => by
    have := EachOp.get h.2 i o (by simpa using ho)
    rw [show k + (i + 1) = k + 1 + i by omega]; exact this
theorem wp_region_slots {P : Program} {id : Nat} {Q : Exit → Act → World → Prop} {a0 : Act} {w : World} {l : List Oper} (n m : Nat) (Φ : Nat → Value → World → Prop) (hm : P.follows .mixedOrders = true) (hWB : tailWaits n l.toArray = true) (hA : slotsApart n l = true)
    (hG : guardsIn n l = true) (hD : dstIn n m l = true) (hsz : a0.tmps.size = m)
    (hst : ∀ i v W W', i < n → Φ i v W → Below W.heap.size W W' → Φ i v W') (hg : ∀ p ∈ guardsOf n l, ∀ v W, Φ p.1 v W → v = .bool p.2)
    (hop : EachOp P n l Φ a0 w (l.take n) 0)
    (hend : ∀ a W, Below w.heap.size w W → a.tmps.size = m → a.defers = a0.defers → (∀ k, outB' n l k = true → a.tmps.getD k undef = a0.tmps.getD k undef) → (∀ i d, i < n → slotOf l i = some d → Φ i (a.tmps.getD d undef) W) → wpList P l.toArray Q (l.drop n) a W) :
    (Code.region id l.toArray true).wp P Q a0 w := by
  have hW := tailWaits_spec hWB
  have hnl : n < l.length := by simpa using hW.lt
  refine wp_region_any hm (any_slots hW hA (Φ := Φ) (a0 := a0) (w := w) hst ?_ ?_ ?_ ?_ _ _ _ _ (by simp) ?_ ?_ ?_ ⟨⟨rfl, rfl, rfl, Nat.le_refl _, fun _ _ => rfl⟩, rfl, rfl, fun _ _ => rfl, ?_⟩)
  · intro i d hi hd
    unfold dstIn at hD
    rw [List.all_eq_true] at hD
    have := hD i (List.mem_range.2 hi)
    rw [hd] at this
    rw [hsz]
    simpa using this
  · intro i o g b hi ho hgd
    unfold guardsIn at hG
    rw [List.all_eq_true] at hG
    have := hG i (List.mem_range.2 hi)
    simp only [ho, hgd, Bool.and_eq_true] at this
    obtain ⟨h1, h2⟩ := this
    refine ⟨Option.isSome_iff_exists.1 h1, depB_of h2, hg (g, b) ?_⟩
    unfold guardsOf
    rw [List.mem_eraseDups, List.mem_filterMap]
    refine ⟨o, ?_, hgd⟩
    have : (l.take n)[i]? = some o := by rw [List.getElem?_take, if_pos hi]; exact ho
    exact List.mem_of_getElem? this
  · intro i o hi ho a W hb _ hold hdep
    have h1 : (l.take n)[i]? = some o := by rw [List.getElem?_take, if_pos hi]; exact ho
    have := hop.get i o h1 a W hb (fun k hk => hold k (outB'_of hk)) (fun j d hj hd => hdep j d (depB_of hj) hd)
    rwa [Nat.zero_add] at this
  · intro a W hSt
    exact hend a W hSt.bel (by rw [hSt.size, hsz]) hSt.defers (fun k hk => hSt.old k (outB'_of hk)) (fun i d hi hd => hSt.new i d hi (by
      have : i < l.length := by omega
      simp [this]) hd)
  · simp [hnl]
  · intro i o' _ hl
    rw [Array.getD_eq_getD_getElem?, Array.getElem?_replicate] at hl
    split at hl <;> cases hl
  · unfold unl
    have := List.countP_le_length (p := fun i => !((Array.replicate l.toArray.size false).getD i true)) (l := List.range l.length)
    simpa using this
  · intro i d hi hl _
    have h1 : i < l.length := by omega
    simp [h1] at hl
/-- The slots that the operations ahead of n write. -/
def slotsOf (n : Nat) (l : List Oper) : List Nat := (List.range n).filterMap (slotOf l)
theorem putAll_size (us : List (Nat × Value)) : ∀ T : Array Value, (putAll us T).size = T.size := by
  induction us with
  | nil => intro T; rfl
  | cons u us ih => intro T; rw [putAll_cons u.1 u.2, ih, Array.size_setIfInBounds]
theorem putAll_get (f : Nat → Value) (ds : List Nat) : ∀ (T : Array Value) (k : Nat), k < T.size → (putAll (ds.map fun d => (d, f d)) T).getD k undef = if k ∈ ds then f k else T.getD k undef := by
  induction ds with
  | nil => intro T k _; simp [putAll]
  | cons d ds ih =>
    intro T k hk
    rw [List.map_cons, putAll_cons, ih _ _ (by rw [Array.size_setIfInBounds]; exact hk)]
    by_cases h1 : k ∈ ds
    · rw [if_pos h1, if_pos (.tail _ h1)]
    · rw [if_neg h1]
      by_cases e : k = d
      · subst e
        rw [if_pos (.head _)]
        simp [hk]
      · rw [if_neg (by intro h; cases h with
          | head => exact e rfl
          | tail _ h => exact h1 h)]
        simp [Array.getElem?_setIfInBounds_ne (Ne.symm e)]
theorem frame_of {a a0 : Act} {n : Nat} {l : List Oper} (hs : a.tmps.size = a0.tmps.size) (hd : a.defers = a0.defers) (hold : ∀ k, outB' n l k = true → a.tmps.getD k undef = a0.tmps.getD k undef) :
    a = { tmps := putAll ((slotsOf n l).map fun d => (d, a.tmps.getD d undef)) a0.tmps, defers := a0.defers } := by
  have e : a.tmps = putAll ((slotsOf n l).map fun d => (d, a.tmps.getD d undef)) a0.tmps := by
    apply Array.ext (by rw [putAll_size, hs])
    intro i h1 h2
    have h3 := putAll_get (fun d => a.tmps.getD d undef) (slotsOf n l) a0.tmps i (by omega)
    have h4 : (putAll ((slotsOf n l).map fun d => (d, a.tmps.getD d undef)) a0.tmps).getD i undef = a.tmps.getD i undef := by
      rw [h3]
      by_cases h : i ∈ slotsOf n l
      · rw [if_pos h]
      · rw [if_neg h]
        refine (hold i ?_).symm
        unfold outB'
        rw [List.all_eq_true]
        intro j hj
        rw [decide_eq_true_iff]
        intro hc
        exact h (List.mem_filterMap.2 ⟨j, hj, hc⟩)
    rw [Array.getD_eq_getD_getElem?, Array.getD_eq_getD_getElem?, Array.getElem?_eq_getElem h1, Array.getElem?_eq_getElem h2] at h4
    simpa using h4.symm
  cases a
  simp only at e hd
  rw [hd]
  congr 1
theorem wp_region_each {P : Program} {id : Nat} {Q : Exit → Act → World → Prop} {a0 : Act} {w : World} {l : List Oper} (n m : Nat) (Φ : Nat → Value → World → Prop) (hm : P.follows .mixedOrders = true) (hWB : tailWaits n l.toArray = true) (hA : slotsApart n l = true)
    (hG : guardsIn n l = true) (hD : dstIn n m l = true) (hsz : a0.tmps.size = m)
    (hst : ∀ i v W W', i < n → Φ i v W → Below W.heap.size W W' → Φ i v W') (hg : ∀ p ∈ guardsOf n l, ∀ v W, Φ p.1 v W → v = .bool p.2)
    (hop : EachOp P n l Φ a0 w (l.take n) 0)
    (hend : ∀ (X : Nat → Value) W, Below w.heap.size w W → (∀ i d, i < n → slotOf l i = some d → Φ i (X d) W) → wpList P l.toArray Q (l.drop n) { tmps := putAll ((slotsOf n l).map fun d => (d, X d)) a0.tmps, defers := a0.defers } W) :
    (Code.region id l.toArray true).wp P Q a0 w :=
  wp_region_slots n m Φ hm hWB hA hG hD hsz hst hg hop fun a W hb hs hd hold hnew => by
    rw [frame_of (a0 := a0) (n := n) (l := l) (by rw [hs, hsz]) hd hold]
    exact hend (fun d => a.tmps.getD d undef) W hb hnew
theorem wpIn_region_each {P : Program} {id : Nat} {Q : Exit → Act → World → Prop} {a0 : Act} {w : World} {l : List Oper} (n m : Nat) (Φ : Nat → Value → World → Prop) (hm : P.follows .mixedOrders = true) (hWB : tailWaits n l.toArray = true) (hA : slotsApart n l = true)
    (hG : guardsIn n l = true) (hD : dstIn n m l = true) (hsz : a0.tmps.size = m)
    (hst : ∀ i v W W', i < n → Φ i v W → Below W.heap.size W W' → Φ i v W') (hg : ∀ p ∈ guardsOf n l, ∀ v W, Φ p.1 v W → v = .bool p.2)
    (hop : EachOp P n l Φ a0 w (l.take n) 0)
    (hend : ∀ (X : Nat → Value) W, Below w.heap.size w W → (∀ i d, i < n → slotOf l i = some d → Φ i (X d) W) → wpList P l.toArray Q (l.drop n) { tmps := putAll ((slotsOf n l).map fun d => (d, X d)) a0.tmps, defers := a0.defers } W) :
    (Code.region id l.toArray true).wpIn Fence.wide 0 P Q a0 w :=
  wpIn_wide.2 (wp_region_each n m Φ hm hWB hA hG hD hsz hst hg hop hend)

/-! What may stand in a slot. -/
def phiOf (L : List (Value → World → Prop)) (i : Nat) : Value → World → Prop := L.getD i (fun _ _ => True)
/-- One value, whatever the world. -/
def QV (c : Value) (v : Value) (_ : World) : Prop := v = c
/-- It stays, as the world grows. -/
def Stays (φ : Value → World → Prop) : Prop := ∀ v W W', φ v W → Below W.heap.size W W' → φ v W'
theorem stays_qv (c : Value) : Stays (QV c) := fun _ _ _ h _ => h
theorem phi_stays {L : List (Value → World → Prop)} {n : Nat} (h : ∀ φ ∈ L, Stays φ) : ∀ i v W W', i < n → phiOf L i v W → Below W.heap.size W W' → phiOf L i v W' := by
  intro i v W W' _ hv hb
  unfold phiOf at hv ⊢
  rw [List.getD_eq_getElem?_getD] at hv ⊢
  cases hx : L[i]? with
  | none => simp
  | some φ =>
    rw [hx] at hv
    simp only [Option.getD_some] at hv ⊢
    exact h φ (List.mem_of_getElem? hx) v W W' hv hb
/-- A pointer to a row made here. -/
def PV (t : TypeId) (A : Array Value) (B : Nat) (v : Value) (W : World) : Prop := ∃ b, v = .pointer (some ⟨b, 0, none⟩) ∧ RowAt W b t A ∧ B ≤ b
theorem stays_pv (t : TypeId) (A : Array Value) (B : Nat) : Stays (PV t A B) := fun _ _ _ ⟨b, h1, h2, h3⟩ hb => ⟨b, h1, h2.below hb h2.lt, h3⟩
/-- A whole row is read. -/
theorem opOk_load {P : Program} {o : Oper} {a : Act} {W : World} {Ψ : Value → World → Prop} (ty : TypeId) (x : Operand) (ho : o.op = .load ty x) (g : Nat) (hx : a.eval x = .pointer (some ⟨g, 0, none⟩)) (t : TypeId) (cs : Array Value) (d : TypeDesc)
    (hg : RowAt W g t cs) (hu : P.underlying ty = some d) (hd : (match d with | .struct _ | .array _ _ => true | _ => false) = true) (hi : (P.info? ty).map (·.size) = some cs.size) (h : Ψ (.agg cs) W) : OpOk P o a W Ψ := by
  unfold OpOk execOp
  simp only [ho, hx, Instr.loadAt, Instr.sureAddr, Sem.run_bind, Sem.run_pure, Result.andThen_ok, run_loadVar_row W g t ty cs (0, 0) d hg hu hd hi]
  exact ⟨Below.refl _ _, h⟩
/-- A slice of texts, made here. -/
def SV (xs : List ByteArray) (v : Value) (W : World) : Prop := ∃ b, v = .slice (some ⟨b, 0, none⟩) xs.length xs.length ∧ b < W.heap.size ∧ ∀ (j : Nat) x, xs[j]? = some x → W.cell? ⟨b, 0 + j, none⟩ = some (.string x)
theorem stays_sv (xs : List ByteArray) : Stays (SV xs) := fun _ W W' ⟨b, h1, h2, h3⟩ hb => ⟨b, h1, Nat.lt_of_lt_of_le h2 hb.size, fun j x hj => (hb.cell (p := ⟨b, 0 + j, none⟩) h2).trans (h3 j x hj)⟩
theorem sv_new (W : World) (t : TypeId) (xs : List ByteArray) (A : Array Value) (hA : A = (xs.map Value.string).toArray) : SV xs (.slice (some ⟨W.heap.size, 0, none⟩) xs.length xs.length) (W.alloc (.cells A t)) :=
  ⟨W.heap.size, rfl, by simp, fun j x hj => by
    rw [Nat.zero_add]
    refine (RowAt.new W A t).cell ?_
    rw [hA, List.getElem?_toArray, List.getElem?_map, hj]; rfl⟩
theorem eval_tmp (a : Act) (k : Nat) : a.eval (.tmp k) = a.tmps.getD k undef := rfl
theorem eval_const (a : Act) (v : Value) : a.eval (.const v) = v := rfl
theorem eval_func (a : Act) (f : FuncId) : a.eval (.func f) = .func (.func f) #[] #[] := rfl
end
section
open Go Go.RowKit

theorem leave_empty {P : Program} {fn : Func} {tmps : Array Value} {R : Ending → World → Prop} {W : World} (h : ∃ v, (results fn tmps).run P W = .ok v W ∧ R (.returned v) W) :
    LeavesInM Fence.wide 0 P fn tmps R [] .returning W := h
theorem leave_none {P : Program} {fn : Func} {tmps : Array Value} {R : Ending → World → Prop} {W : World} (h : ∃ v, (results fn tmps).run P W = .ok v W ∧ R (.returned v) W) :
    LeavesInM Fence.wide 0 P fn tmps R [] .returning W := h
theorem leave_two {P : Program} {fn : Func} {tmps : Array Value} {R : Ending → World → Prop} {B C : Nat} {W : World} (hd : W.heap[B]? = some (.deferred (some []))) (hc : W.heap[C]? = some (.deferred (some []))) (hne : B ≠ C)
    (h : ∃ v, (results fn tmps).run P ((W.putObj C (.deferred none)).putObj B (.deferred none)) = .ok v ((W.putObj C (.deferred none)).putObj B (.deferred none)) ∧ R (.returned v) ((W.putObj C (.deferred none)).putObj B (.deferred none))) :
    LeavesInM Fence.wide 0 P fn tmps R [{ target := .collected C, args := #[] }, { target := .collected B, args := #[] }] .returning W :=
  ⟨by simp, .inl ⟨_, _, rfl, run_takeDeferred hc, ⟨by simp, .inl ⟨_, _, rfl, run_takeDeferred ((World.putObj_heap_other hne).trans hd), h⟩⟩⟩⟩
theorem run_mn2 {P : Program} (ts : Array TypeId) (t : TypeId) (k : IntKind) (x y : Int) (w : World) : (Builtin.min_ ts t #[.int k x, .int k y]).run P w = .ok (.int k (min x y)) w := by
  have e : ∀ a b : Int, (if b < a then b else a) = min a b := fun a b => by omega
  simp only [Builtin.min_, List.foldlM_cons, List.foldlM_nil, Builtin.min2, Sem.run_bind, Sem.run_pure, Result.andThen, e]
theorem run_mx2 {P : Program} (ts : Array TypeId) (t : TypeId) (k : IntKind) (x y : Int) (w : World) : (Builtin.max_ ts t #[.int k x, .int k y]).run P w = .ok (.int k (max x y)) w := by
  have e : ∀ a b : Int, (if b > a then b else a) = max a b := fun a b => by omega
  simp only [Builtin.max_, List.foldlM_cons, List.foldlM_nil, Builtin.max2, Sem.run_bind, Sem.run_pure, Result.andThen, e]
/-- The result lies in a box of one cell. -/
theorem results_box {P : Program} {fn : Func} {p : Tmp} {ty : TypeId} (h : fn.results = #[.cell p ty]) (tmps : Array Value) (w : World) (b : Nat) (v : Value) (hp : tmps.getD p undef = .pointer (some ⟨b, 0, none⟩))
    (hc : w.cell? ⟨b, 0, none⟩ = some v) (hu : P.underlying ty = some .bool) : (results fn tmps).run P w = .ok v w := by
  have hp' : tmps[p]?.getD undef = .pointer (some ⟨b, 0, none⟩) := by simpa using hp
  simp [results, h, hp', asAddr, loadVar, isAgg, run_underlying hu, go_sem, hc]
/-- Rows that lie side by side. -/
def Rows (W : World) : List (Nat × TypeId × Array Value) → Prop
  | [] => True
  | (b, t, A) :: r => RowAt W b t A ∧ Rows W r
theorem Rows.below {W X : World} (hb : Below W.heap.size W X) : ∀ {L : List (Nat × TypeId × Array Value)}, Rows W L → Rows X L
  | [], _ => trivial
  | (_, _, _) :: _, h => ⟨h.1.below hb h.1.lt, Rows.below hb h.2⟩
theorem Rows.alloc {W : World} (o : Obj) {L : List (Nat × TypeId × Array Value)} (h : Rows W L) : Rows (W.alloc o) L := h.below (below_al (Below.refl _ _) _)
theorem Rows.kept {S : Nat → Prop} {W X : World} (hk : Kept S W X) : ∀ {L : List (Nat × TypeId × Array Value)}, (∀ r ∈ L, ¬ S r.1) → Rows W L → Rows X L
  | [], _, _ => trivial
  | (b, t, A) :: _, hs, h => ⟨hk.row h.1 (hs (b, t, A) (.head _)), Rows.kept hk (fun r hr => hs r (.tail _ hr)) h.2⟩
theorem Rows.other {W : World} (a : Addr) (v : Value) : ∀ {L : List (Nat × TypeId × Array Value)}, (∀ r ∈ L, r.1 ≠ a.block) → Rows W L → Rows (W.setCell a v) L
  | [], _, _ => trivial
  | (b, t, A) :: _, hs, h => ⟨h.1.other a v (hs (b, t, A) (.head _)), Rows.other a v (fun r hr => hs r (.tail _ hr)) h.2⟩
theorem Rows.setRowOther {W : World} (g : Nat) (B : Array Value) : ∀ {L : List (Nat × TypeId × Array Value)}, (∀ r ∈ L, r.1 ≠ g) → Rows W L → Rows (W.setRow g B) L
  | [], _, _ => trivial
  | (b, t, A) :: _, hs, h => ⟨h.1.setRowOther g B (hs (b, t, A) (.head _)), Rows.setRowOther g B (fun r hr => hs r (.tail _ hr)) h.2⟩
/-- Blocks for deferred calls, none of them called for. -/
theorem defer_kept {S : Nat → Prop} {W X : World} {b : Nat} {o : Obj} (h : W.heap[b]? = some o) (hk : Kept S W X) (hs : ¬ S b) : X.heap[b]? = some o := (hk.block b (Array.getElem?_eq_some_iff.1 h).1 hs).trans h
theorem defer_below {W X : World} {b : Nat} {o : Obj} (h : W.heap[b]? = some o) (hB : Below W.heap.size W X) : X.heap[b]? = some o := (hB.block b (Array.getElem?_eq_some_iff.1 h).1).trans h
theorem defer_cell {W : World} {b : Nat} {o : Obj} (h : W.heap[b]? = some o) (a : Addr) (v : Value) (hne : b ≠ a.block) : (W.setCell a v).heap[b]? = some o := (Below.heap_setCell W a v b hne).trans h
end
section
open Go Go.RowKit

/-- What stands in the block of this number. -/
def findBlock (n : Nat) : Code → Code
  | .block i b => if i = n then b else findBlock n b
  | .seq a b => match findBlock n a with
    | .skip => findBlock n b
    | c => c
  | .cond _ a b => match findBlock n a with
    | .skip => findBlock n b
    | c => c
  | .loop b => findBlock n b
  | .scope b => findBlock n b
  | .rangeFunc _ _ a b => match findBlock n a with
    | .skip => findBlock n b
    | c => c
  | _ => .skip
def frag (f : Func) (n : Nat) : Code := findBlock n (f.body.getD .skip)
end
section
open Go Go.RowKit

/-- A row of cells, none of them frozen. -/
def RowE (w : World) (b : Nat) (t : TypeId) (A : Array Value) : Prop := ∃ lo hi, w.heap[b]? = some (.cells A t (lo, hi)) ∧ (hi = 0 ∨ A.size ≤ lo)
theorem RowAt.rowE {w : World} {b : Nat} {t : TypeId} {A : Array Value} (h : RowAt w b t A) : RowE w b t A := ⟨0, 0, h, .inl rfl⟩
theorem RowE.lt {w : World} {b : Nat} {t : TypeId} {A : Array Value} (h : RowE w b t A) : b < w.heap.size := by obtain ⟨_, _, h, _⟩ := h; exact (Array.getElem?_eq_some_iff.1 h).1
theorem RowE.cell {w : World} {b : Nat} {t : TypeId} {A : Array Value} (h : RowE w b t A) {j : Nat} {v : Value} (hv : A[j]? = some v) : w.cell? ⟨b, j, none⟩ = some v := by
  obtain ⟨lo, hi, h, _⟩ := h
  rw [cell_of_row w b j A t (lo, hi) h]; exact hv
theorem RowE.free {w : World} {b : Nat} {t : TypeId} {A : Array Value} (h : RowE w b t A) {j : Nat} (hj : j < A.size) : w.frozen? ⟨b, j, none⟩ = false := by
  obtain ⟨lo, hi, h, hlo⟩ := h
  simp only [World.frozen?, h, Bool.and_eq_false_iff, decide_eq_false_iff_not]
  rcases hlo with rfl | hlo
  · right; omega
  · left; omega
theorem RowE.set {w : World} {b : Nat} {t : TypeId} {A : Array Value} (h : RowE w b t A) (j : Nat) (v : Value) : RowE (w.setCell ⟨b, j, none⟩ v) b t (A.setIfInBounds j v) := by
  obtain ⟨lo, hi, h, hlo⟩ := h
  refine ⟨lo, hi, ?_, by rw [Array.size_setIfInBounds]; exact hlo⟩
  rw [setCell_eq_setRow w b j A t (lo, hi) v h]
  exact setRow_heap w b A _ t (lo, hi) h
theorem RowE.other {w : World} {b : Nat} {t : TypeId} {A : Array Value} (h : RowE w b t A) (a : Addr) (v : Value) (hb : b ≠ a.block) : RowE (w.setCell a v) b t A := by
  obtain ⟨lo, hi, h, hlo⟩ := h; exact ⟨lo, hi, (heap_setCell_other w a b v hb).trans h, hlo⟩
theorem RowE.alloc {w : World} {b : Nat} {t : TypeId} {A : Array Value} (h : RowE w b t A) (o : Obj) : RowE (w.alloc o) b t A := by
  have hlt := h.lt
  obtain ⟨lo, hi, h, hlo⟩ := h; exact ⟨lo, hi, (Below.heap_alloc w o b hlt).trans h, hlo⟩
theorem RowE.below {w w' : World} {b : Nat} {t : TypeId} {A : Array Value} {B : Nat} (h : RowE w b t A) (hb : Below B w w') (hB : b < B) : RowE w' b t A := by
  obtain ⟨lo, hi, h, hlo⟩ := h; exact ⟨lo, hi, (hb.block b hB).trans h, hlo⟩
theorem RowE.eqA {w : World} {b : Nat} {t : TypeId} {A A' : Array Value} (h : RowE w b t A) (e : A = A') : RowE w b t A' := e ▸ h
theorem RowE.grown {w w' : World} {b : Nat} {t : TypeId} {A : Array Value} {row : Option Nat} (h : RowE w b t A) (hg : w.grownBy w' row) (hne : some b ≠ row) : RowE w' b t A := by
  have hlt := h.lt
  obtain ⟨lo, hi, h, hlo⟩ := h; exact ⟨lo, hi, (hg.block b hlt hne).trans h, hlo⟩

/-- A slice of bytes of the call's own. -/
structure BytesE (w : World) (e : TypeId) (base : Nat) (v : Value) (l : List UInt8) : Prop where
  is : ∃ g cap A, v = .slice (some ⟨g, 0, none⟩) l.length cap ∧ base ≤ g ∧ RowE w g e A ∧ l.length ≤ cap ∧ cap ≤ maxLen ∧ A.size = cap ∧ A.toList.take l.length = Lib.byteCells l

theorem BytesE.below {w w' : World} {e : TypeId} {base : Nat} {v : Value} {l : List UInt8} (h : BytesE w e base v l) (hb : Below w.heap.size w w') : BytesE w' e base v l := by
  obtain ⟨g, cap, A, h1, h2, h3, h4⟩ := h.is
  exact ⟨g, cap, A, h1, h2, h3.below hb h3.lt, h4⟩
theorem BytesE.alloc {w : World} {e : TypeId} {base : Nat} {v : Value} {l : List UInt8} (h : BytesE w e base v l) (o : Obj) : BytesE (w.alloc o) e base v l := h.below (below_al (Below.refl _ _) _)
/-- '[]byte(s)'. -/
theorem bytesE_of {P : Program} (w : World) (src dst e : TypeId) (s : ByteArray) {u : TypeDesc} (hs : P.underlying src = some u) (hd : P.underlying dst = some (.slice e)) (he : P.underlying e = some (.int .u8)) (hm : s.size ≤ maxLen) :
    ∃ v w', (convert src dst (.string s)).run P w = .ok v w' ∧ BytesE w' e w.heap.size v s.data.toList ∧ Below w.heap.size w w' := by
  refine ⟨_, _, Lib.run_convert_string_bytes w src dst e s hs hd he, ⟨⟨w.heap.size, grownCap w s.size 0 e, Lib.bytesCells w e s, by simp, Nat.le_refl _, ⟨_, _, Lib.bytesWorld_at_new w e s, .inr (Nat.le_refl _)⟩, ?_, grownCap_le_maxLen w s.size 0 e hm, ?_, ?_⟩⟩, ?_⟩
  · have := grownCap_ge w s.size 0 e; simpa using this
  · have := grownCap_ge w s.size 0 e
    have h2 : s.data.size = s.size := rfl
    simp [Lib.bytesCells, h2]; omega
  · simp [Lib.bytesCells, Lib.byteCells]
  · refine ⟨rfl, rfl, rfl, by rw [Lib.bytesWorld_size]; omega, fun k hk => Lib.bytesWorld_at_old w e s k hk⟩
/-- A byte is appended. -/
theorem run_append_e {P : Program} (w : World) (t ty e : TypeId) (i : TypeInfo) (ht : P.underlying t = some (.slice e)) (hi : P.info? e = some i) (hz : i.zero = some (.int .u8 0)) (hsz : i.size = 1) (hby : i.bytes = 1)
    (base : Nat) (v : Value) (l : List UInt8) (hown : BytesE w e base v l) (ad : Addr) (c : Nat) (b : UInt8) (hb : w.cell? ad = some (.int .u8 (b.toNat : Nat))) (hl : l.length ≤ 1099511627776) (hbase : base ≤ w.heap.size) :
    ∃ v' w', (Builtin.append_ #[t, t] ty #[v, .slice (some ad) 1 c]).run P w = .ok v' w' ∧ BytesE w' e base v' (l ++ [b]) ∧ w.grownBy w' v.ownBlock := by
  obtain ⟨g, cap, A, rfl, hbg, hr, hlc, hcm, hA, htk⟩ := hown.is
  have hnews : ∀ j u, [Value.int .u8 (b.toNat : Nat)][j]? = some u → w.cell? (ad.add j) = some u := by
    intro j u hu
    cases j with
    | zero =>
      have : ad.add 0 = ad := by unfold Addr.add; split <;> simp_all
      rw [this, hb]; simpa using hu
    | succ j => simp at hu
  by_cases hroom : l.length + 1 ≤ cap
  · have hlt : l.length < A.size := by omega
    obtain ⟨x, hx⟩ : ∃ x, A[l.length]? = some x := ⟨A[l.length], by simp [hlt]⟩
    have hc := hr.cell hx
    have hf := hr.free hlt
    have hfc := run_firstCells_some (P := P) w i.size 1 ad 1 c [Value.int .u8 (b.toNat : Nat)] (by simp [hsz]) hnews
    have hst := run_store P w ⟨g, l.length, none⟩ (.int .u8 (b.toNat : Nat)) .plain rfl
    rw [hc] at hst
    simp only [hf] at hst
    refine ⟨.slice (some ⟨g, 0, none⟩) (l.length + 1) cap, w.setCell ⟨g, l.length, none⟩ (.int .u8 (b.toNat : Nat)), ?_, ⟨⟨g, cap, A.setIfInBounds l.length (.int .u8 (b.toNat : Nat)), by simp, hbg, hr.set _ _, by simpa using hroom, hcm, by simpa using hA, ?_⟩⟩, ?_⟩
    · rw [hsz] at hfc
      have hadd : ∀ k, (⟨g, k, none⟩ : Addr).add 0 = ⟨g, k, none⟩ := fun k => by unfold Addr.add; split <;> simp_all
      simp [Builtin.append_, run_underlying ht, sizeOf, typeInfo, hi, hsz, Builtin.lenOf, hroom, hfc, Addr.add_lit, storeCells, hadd, hst]
    · rw [List.length_append, List.length_singleton, Array.toList_setIfInBounds, List.take_add_one]
      have h1 : (A.toList.set l.length (.int .u8 (b.toNat : Nat)))[l.length]? = some (.int .u8 (b.toNat : Nat)) := by
        rw [List.getElem?_set_self (by simpa using hlt)]
      rw [h1, List.take_set_of_le (Nat.le_refl _), htk]
      simp [Lib.byteCells]
    · refine ⟨rfl, rfl, rfl, by simp, fun k _ hk => ?_⟩
      exact heap_setCell_other w _ k _ (fun e => hk (by simp [Value.ownBlock, e]))
  · have holds : ∀ j u, (Lib.byteCells l)[j]? = some u → w.cell? ((⟨g, 0, none⟩ : Addr).add j) = some u := by
      intro j u hu
      have hadd : (⟨g, 0, none⟩ : Addr).add j = ⟨g, j, none⟩ := by unfold Addr.add; split <;> simp_all
      rw [hadd]
      refine hr.cell ?_
      rw [← htk, List.getElem?_take] at hu
      split at hu
      · simpa using hu
      · cases hu
    have hlo : (Lib.byteCells l).length = l.length * i.size := by rw [hsz]; simp [Lib.byteCells]
    have hrun := run_append_grow (P := P) w t ty e i _ ht hi hz ⟨g, 0, none⟩ l.length cap (Lib.byteCells l) hlo holds ad 1 c [Value.int .u8 (b.toNat : Nat)] (by simp [hsz]) hnews (by omega) (by omega)
      (growslice_fits (by omega) (by rw [hby]; omega))
    have hge := grownCap_ge w (l.length + 1) cap e
    refine ⟨_, _, hrun, ⟨⟨w.heap.size, grownCap w (l.length + 1) cap e, _, by simp, hbase, (RowAt.new w.drew _ e).rowE, by simpa using hge, grownCap_le_maxLen w _ _ e (by unfold maxLen; omega), ?_, ?_⟩⟩, ⟨rfl, rfl, rfl, by simp, fun k hk _ => Below.heap_alloc w.drew _ k hk⟩⟩
    · simp [size_zeroCells, Lib.byteCells, Value.cells]; omega
    · generalize Builtin.zeroCells _ _ = Z
      have e1 : ((Lib.byteCells l).toArray ++ [Value.int .u8 (b.toNat : Nat)].toArray ++ Z).toList = Lib.byteCells (l ++ [b]) ++ Z.toList := by simp [Lib.byteCells]
      rw [e1]
      exact List.take_left' (by simp [Lib.byteCells])
theorem wpList_append_e {P : Program} {ops : Array Oper} {rest : List Oper} {o : Oper} {a : Act} {w : World} {Q : Exit → Act → World → Prop} (hgd : o.guard = none) (s x : Operand) (t e : TypeId) (ho : o.op = .call { callee := .builtin .append, args := #[s, x], argTypes := #[t, t] })
    (i : TypeInfo) (ht : P.underlying t = some (.slice e)) (hi : P.info? e = some i) (hz : i.zero = some (.int .u8 0)) (hsz : i.size = 1) (hby : i.bytes = 1)
    (base : Nat) (v : Value) (l : List UInt8) (hs : a.eval s = v) (hown : BytesE w e base v l) (ad : Addr) (c : Nat) (b : UInt8) (hx : a.eval x = .slice (some ad) 1 c) (hb : w.cell? ad = some (.int .u8 (b.toNat : Nat))) (hl : l.length ≤ 1099511627776) (hbase : base ≤ w.heap.size)
    (h : ∀ v' w', BytesE w' e base v' (l ++ [b]) → w.grownBy w' v.ownBlock → wpList P ops Q rest (a.put o.dst v') w') : wpList P ops Q (o :: rest) a w := by
  refine wpList_plain hgd fun K hK => ?_
  obtain ⟨v', w', hr, h2, h3⟩ := run_append_e (P := P) w t o.type e i ht hi hz hsz hby base v l hown ad c b hb hl hbase
  unfold Oper.wp execOp
  simp only [ho, resolve, invoke, builtin, Sem.run_bind, Sem.run_pure, Result.andThen_ok, List.map_toArray, List.map_cons, List.map_nil, hs, hx, hr]
  exact hK _ _ (h v' w' h2 h3)
/-- 'string(b)'. -/
theorem BytesE.string {P : Program} {w : World} {e : TypeId} {base : Nat} {v : Value} {l : List UInt8} (h : BytesE w e base v l) (src dst : TypeId) (hs : P.underlying src = some (.slice e)) (he : P.underlying e = some (.int .u8)) (hd : P.underlying dst = some .string) :
    (convert src dst v).run P w = .ok (.string ⟨l.toArray⟩) w := by
  obtain ⟨g, cap, A, rfl, _, hr, _, _, _, htk⟩ := h.is
  have := run_convert_bytes_arg (P := P) w src e hs he g 0 l.length cap (l.map fun b => ((b.toNat : Nat) : Int)) (by simp) (fun i hi => by
    rw [Nat.zero_add]
    refine hr.cell ?_
    have h1 : (A.toList.take l.length)[i]? = some (.int .u8 (l[i].toNat : Nat)) := by rw [htk]; simp [Lib.byteCells, hi]
    rw [List.getElem?_take, if_pos hi] at h1
    simp at h1
    rw [h1]; simp [hi]) dst hd
  rw [this]
  unfold strOfNums
  rw [List.map_map]
  have e : l.map ((fun n : Int => UInt8.ofNat n.toNat) ∘ fun b : UInt8 => ((b.toNat : Nat) : Int)) = l := by
    conv => rhs; rw [← List.map_id l]
    exact List.map_congr_left fun b _ => by simp
  rw [e]
theorem BytesE.shape {w : World} {e : TypeId} {base : Nat} {v : Value} {l : List UInt8} (h : BytesE w e base v l) : ∃ g c, v = .slice (some ⟨g, 0, none⟩) l.length c ∧ base ≤ g := by
  obtain ⟨g, c, A, h1, h2, _⟩ := h.is; exact ⟨g, c, h1, h2⟩
theorem below_grown' {a w w' : World} {row : Option Nat} (h : Below a.heap.size a w) (hg : w.grownBy w' row) (hr : ∀ k, row = some k → a.heap.size ≤ k) : Below a.heap.size a w' :=
  h.trans ⟨hg.os, hg.tape, hg.output, hg.size, fun k hk => hg.block k (by have := h.size; omega) (fun e => by have := hr k e.symm; omega)⟩
end
end Go.Proofs.Ytaofpeajfgcjcaa
