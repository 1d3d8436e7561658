/- A function's ends within a fence. Over whatever program. -/
import Derived.Test.YtbbjoahloghpkaaIter2
namespace Go.Proofs.Ytbbjoahloghpkaa
open Go Go.RowKit

theorem leave_empty {P : Program} {fn : Func} {tmps : Array Value} {R : Ending → World → Prop} {W : World} (h : ∃ v, (results fn tmps).run P W = .ok v W ∧ R (.returned v) W) :
    LeavesInM Fence.wide 0 P fn tmps R [] .returning W := h
theorem leave_two {P : Program} {fn : Func} {tmps : Array Value} {R : Ending → World → Prop} {B C : Nat} {W : World} (hd : W.heap[B]? = some (.deferred (some []))) (hc : W.heap[C]? = some (.deferred (some []))) (hne : B ≠ C)
    (h : ∃ v, (results fn tmps).run P ((W.putObj C (.deferred none)).putObj B (.deferred none)) = .ok v ((W.putObj C (.deferred none)).putObj B (.deferred none)) ∧ R (.returned v) ((W.putObj C (.deferred none)).putObj B (.deferred none))) :
    LeavesInM Fence.wide 0 P fn tmps R [{ target := .collected C, args := #[] }, { target := .collected B, args := #[] }] .returning W :=
  ⟨by simp, .inl ⟨_, _, rfl, run_takeDeferred hc, ⟨by simp, .inl ⟨_, _, rfl, run_takeDeferred ((World.putObj_heap_other hne).trans hd), h⟩⟩⟩⟩
end Go.Proofs.Ytbbjoahloghpkaa
