/- A function's ends within a fence. Over whatever program. -/
import Derived.Test.YtbbjoahloghpkaaDoorIter2
namespace Go.Proofs.YtbbjoahloghpkaaDoor
open Go Go.RowKit

theorem leave_empty {P : Program} {fn : Func} {tmps : Array Value} {R : Ending → World → Prop} {W : World} (h : ∃ v, (results fn tmps).run P W = .ok v W ∧ R (.returned v) W) :
    LeavesInM Fence.wide 0 P fn tmps R [] .returning W := h
theorem leave_two {P : Program} {fn : Func} {tmps : Array Value} {R : Ending → World → Prop} {B C : Nat} {W : World} (hd : W.heap[B]? = some (.deferred (some []))) (hc : W.heap[C]? = some (.deferred (some []))) (hne : B ≠ C)
    (h : ∃ v, (results fn tmps).run P ((W.putObj C (.deferred none)).putObj B (.deferred none)) = .ok v ((W.putObj C (.deferred none)).putObj B (.deferred none)) ∧ R (.returned v) ((W.putObj C (.deferred none)).putObj B (.deferred none))) :
    LeavesInM Fence.wide 0 P fn tmps R [{ target := .collected C, args := #[] }, { target := .collected B, args := #[] }] .returning W :=
  ⟨by simp, .inl ⟨_, _, rfl, run_takeDeferred hc, ⟨by simp, .inl ⟨_, _, rfl, run_takeDeferred ((World.putObj_heap_other hne).trans hd), h⟩⟩⟩⟩
theorem run_mn2 {P : Program} (ts : Array TypeId) (t : TypeId) (k : IntKind) (x y : Int) (w : World) : (Builtin.min_ ts t #[.int k x, .int k y]).run P w = .ok (.int k (min x y)) w := by
  have e : ∀ a b : Int, (if b < a then b else a) = min a b := fun a b => by omega
  simp only [Builtin.min_, List.foldlM_cons, List.foldlM_nil, Builtin.min2, Sem.run_bind, Sem.run_pure, Result.andThen, e]
theorem run_mx2 {P : Program} (ts : Array TypeId) (t : TypeId) (k : IntKind) (x y : Int) (w : World) : (Builtin.max_ ts t #[.int k x, .int k y]).run P w = .ok (.int k (max x y)) w := by
  have e : ∀ a b : Int, (if b > a then b else a) = max a b := fun a b => by omega
  simp only [Builtin.max_, List.foldlM_cons, List.foldlM_nil, Builtin.max2, Sem.run_bind, Sem.run_pure, Result.andThen, e]
/-- The result lies in a box of one cell. -/
theorem results_box {P : Program} {fn : Func} {p : Tmp} {ty : TypeId} (h : fn.results = #[.cell p ty]) (tmps : Array Value) (w : World) (b : Nat) (v : Value) (hp : tmps.getD p undef = .pointer (some ⟨b, 0, none⟩))
    (hc : w.cell? ⟨b, 0, none⟩ = some v) (hu : P.underlying ty = some .bool) : (results fn tmps).run P w = .ok v w := by
  have hp' : tmps[p]?.getD undef = .pointer (some ⟨b, 0, none⟩) := by simpa using hp
  simp [results, h, hp', asAddr, loadVar, isAgg, run_underlying hu, go_sem, hc]
/-- Rows that lie side by side. -/
def Rows (W : World) : List (Nat × TypeId × Array Value) → Prop
  | [] => True
  | (b, t, A) :: r => RowAt W b t A ∧ Rows W r
theorem Rows.below {W X : World} (hb : Below W.heap.size W X) : ∀ {L : List (Nat × TypeId × Array Value)}, Rows W L → Rows X L
  | [], _ => trivial
  | (_, _, _) :: _, h => ⟨h.1.below hb h.1.lt, Rows.below hb h.2⟩
theorem Rows.alloc {W : World} (o : Obj) {L : List (Nat × TypeId × Array Value)} (h : Rows W L) : Rows (W.alloc o) L := h.below (below_al (Below.refl _ _) _)
theorem Rows.kept {S : Nat → Prop} {W X : World} (hk : Kept S W X) : ∀ {L : List (Nat × TypeId × Array Value)}, (∀ r ∈ L, ¬ S r.1) → Rows W L → Rows X L
  | [], _, _ => trivial
  | (b, t, A) :: _, hs, h => ⟨hk.row h.1 (hs (b, t, A) (.head _)), Rows.kept hk (fun r hr => hs r (.tail _ hr)) h.2⟩
theorem Rows.other {W : World} (a : Addr) (v : Value) : ∀ {L : List (Nat × TypeId × Array Value)}, (∀ r ∈ L, r.1 ≠ a.block) → Rows W L → Rows (W.setCell a v) L
  | [], _, _ => trivial
  | (b, t, A) :: _, hs, h => ⟨h.1.other a v (hs (b, t, A) (.head _)), Rows.other a v (fun r hr => hs r (.tail _ hr)) h.2⟩
theorem Rows.setRowOther {W : World} (g : Nat) (B : Array Value) : ∀ {L : List (Nat × TypeId × Array Value)}, (∀ r ∈ L, r.1 ≠ g) → Rows W L → Rows (W.setRow g B) L
  | [], _, _ => trivial
  | (b, t, A) :: _, hs, h => ⟨h.1.setRowOther g B (hs (b, t, A) (.head _)), Rows.setRowOther g B (fun r hr => hs r (.tail _ hr)) h.2⟩
/-- Blocks for deferred calls, none of them called for. -/
theorem defer_kept {S : Nat → Prop} {W X : World} {b : Nat} {o : Obj} (h : W.heap[b]? = some o) (hk : Kept S W X) (hs : ¬ S b) : X.heap[b]? = some o := (hk.block b (Array.getElem?_eq_some_iff.1 h).1 hs).trans h
theorem defer_below {W X : World} {b : Nat} {o : Obj} (h : W.heap[b]? = some o) (hB : Below W.heap.size W X) : X.heap[b]? = some o := (hB.block b (Array.getElem?_eq_some_iff.1 h).1).trans h
theorem defer_cell {W : World} {b : Nat} {o : Obj} (h : W.heap[b]? = some o) (a : Addr) (v : Value) (hne : b ≠ a.block) : (W.setCell a v).heap[b]? = some o := (Below.heap_setCell W a v b hne).trans h
end Go.Proofs.YtbbjoahloghpkaaDoor
