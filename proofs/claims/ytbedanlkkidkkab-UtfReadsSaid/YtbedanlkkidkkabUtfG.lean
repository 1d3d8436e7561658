/- The law UtfReads: what lies where. -/
import Derived.Test.YtbedanlkkidkkabUtfF
import Derived.Test.YtbedanlkkidkkabStore
import Derived.Lib.SmallJoins
import Derived.Test.YtbedanlkkidkkabIter2
namespace Go.Proofs.Ytbedanlkkidkkab
open Go Go.RowKit
set_option linter.unusedSimpArgs false
attribute [local go_sem] Oper.semAt_some

theorem Nums.kept {T : Nat → Prop} {base : Nat} {v : Value} {ns : List Nat} {W W' : World} (h : Nums W base v ns) (hk : Kept T W W') (hT : ∀ g, v.ownBlock = some g → ¬ T g) : Nums W' base v ns := by
  refine ⟨h.1, h.2.imp id ?_⟩
  rintro ⟨g, cap, cur, hv, hb, hg, r⟩
  have hlt : g < W.heap.size := (Array.getElem?_eq_some_iff.1 hg).1
  exact ⟨g, cap, cur, hv, hb, (hk.block g hlt (hT g (by rw [hv]; rfl))).trans hg, r⟩
theorem Nums.shape {base : Nat} {v : Value} {ns : List Nat} {W : World} (h : Nums W base v ns) {n : Nat} (hn : ns.length = n) : ∃ p c, v = .slice p n c ∧ (0 < n → ∃ g, p = some ⟨g, 0, none⟩) := by
  subst hn
  rcases h.2 with ⟨hv, h0⟩ | ⟨g, cap, _, hv, _⟩
  · exact ⟨none, 0, by rw [hv, h0], fun h => by omega⟩
  · exact ⟨_, cap, hv, fun _ => ⟨g, rfl⟩⟩
theorem Nums.at {base g c k : Nat} {ns : List Nat} {W : World} (h : Nums W base (.slice (some ⟨g, 0, none⟩) k c) ns) {j n : Nat} (hj : ns[j]? = some n) : W.cell? ⟨g, j, none⟩ = some (.int .i64 (n : Int)) := by
  have := World.ownsRow.cells h (g := g) rfl j (.int .i64 (n : Int)) (by rw [List.getElem?_map, hj]; rfl)
  rw [show ((⟨g, 0, none⟩ : Addr).add j) = ⟨g, j, none⟩ by unfold Addr.add; split <;> simp_all] at this
  exact this

/-- What lies where behind the document's answer: two boxes made at the outset, the two slices' boxes, the count's. -/
structure Reads (w : World) (u : Int) (B b : Nat) (v1 v2 : Value) (R : List (Nat × Nat)) (W : World) : Prop where
  two : Two 5 4 #[.int .u8 u] #[.bool false] w W
  c5 : RowAt W b 23 #[v1]
  c6 : RowAt W (b + 1) 23 #[v2]
  n1 : Nums W B v1 (R.map Prod.fst)
  n2 : Nums W B v2 (R.map Prod.snd)
  hB : w.heap.size + 2 ≤ B
  hb : B ≤ b
  l1 : ∀ g, v1.ownBlock = some g → B ≤ g ∧ g < b
  l2 : ∀ g, v2.ownBlock = some g → B ≤ g ∧ g < b
theorem Reads.kept {w W W' : World} {u : Int} {B b : Nat} {v1 v2 : Value} {R : List (Nat × Nat)} {T : Nat → Prop} (h : Reads w u B b v1 v2 R W) (hk : Kept T W W') (hT : ∀ k, T k → b + 2 ≤ k) : Reads w u B b v1 v2 R W' :=
  ⟨h.two.kept hk (fun k hk => by have := hT k hk; have := h.hB; have := h.hb; omega), hk.row h.c5 (fun x => by have := hT _ x; omega), hk.row h.c6 (fun x => by have := hT _ x; omega),
    h.n1.kept hk (fun g hg x => by have := hT _ x; have := h.l1 g hg; omega), h.n2.kept hk (fun g hg x => by have := hT _ x; have := h.l2 g hg; omega), h.hB, h.hb, h.l1, h.l2⟩
theorem Reads.below {w W W' : World} {u : Int} {B b : Nat} {v1 v2 : Value} {R : List (Nat × Nat)} (h : Reads w u B b v1 v2 R W) (hB : Below W.heap.size W W') : Reads w u B b v1 v2 R W' :=
  h.kept (Kept.of_below hB) (T := fun _ => False) (fun _ h => h.elim)

theorem leave_two {P : Program} {fn : Func} {tmps : Array Value} {R : Ending → World → Prop} {B C : Nat} {W : World} (hd : W.heap[B]? = some (.deferred (some []))) (he : W.heap[C]? = some (.deferred (some []))) (hne : B ≠ C)
    (h : ∃ v, (results fn tmps).run P ((W.putObj B (.deferred none)).putObj C (.deferred none)) = .ok v ((W.putObj B (.deferred none)).putObj C (.deferred none)) ∧ R (.returned v) ((W.putObj B (.deferred none)).putObj C (.deferred none))) :
    LeavesInM Fence.wide 0 P fn tmps R [{ target := .collected B, args := #[] }, { target := .collected C, args := #[] }] .returning W :=
  ⟨by simp, .inl ⟨_, _, rfl, run_takeDeferred hd, ⟨by simp, .inl ⟨_, _, rfl, run_takeDeferred ((World.putObj_heap_other (Ne.symm hne)).trans he), h⟩⟩⟩⟩

end Go.Proofs.Ytbedanlkkidkkab
