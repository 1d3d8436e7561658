/- The law of the loop over an iterator, the frame in a round told by what is put: over whatever program. -/
import Derived.Test.YtbbjoahloghpkaaDoorIter
namespace Go.Proofs.YtbbjoahloghpkaaDoor
open Go Go.RowKit

/-- Slots that are set. -/
def putAll (us : List (Nat × Value)) (t : Array Value) : Array Value := us.foldl (fun t p => t.setIfInBounds p.1 p.2) t
theorem putAll_nil (t : Array Value) : putAll [] t = t := rfl
theorem fold1 (t : Array Value) (p : Nat) (v : Value) : (Array.zip #[p] #[v]).foldl (fun t (x : Nat × Value) => t.setIfInBounds x.1 x.2) t = t.setIfInBounds p v := by simp
theorem fold2 (t : Array Value) (p q : Nat) (v u : Value) : (Array.zip #[p, q] #[v, u]).foldl (fun t (x : Nat × Value) => t.setIfInBounds x.1 x.2) t = (t.setIfInBounds p v).setIfInBounds q u := by simp
theorem putAll_cons (p : Nat) (v : Value) (us : List (Nat × Value)) (t : Array Value) : putAll ((p, v) :: us) t = putAll us (t.setIfInBounds p v) := rfl

theorem wp_iter_put {P : Program} {α : Type} {g : Operand} {ps : Array Tmp} {assign body : Code} {Q : Exit → Act → World → Prop} {a : Act} {w : World}
    {gf : Nat} {lb : Array Value} (hg : a.eval g = .func (.func gf) #[] lb) (eg : ∀ args w, (callFunc gf args).run P w = .ok (.enter gf args) w)
    {encs : α → Array Value} {S D : Nat → Prop} {xs : List α} (hit : IterOn P gf lb encs S D xs w) (hSlt : ∀ k, S k → k < w.heap.size) (hDlt : ∀ k, D k → k < w.heap.size) (hps : ∀ x, (encs x).size = ps.size)
    (us : α → List (Nat × Value)) (I : List α → World → Prop) (Ix : Code → List α → World → Prop)
    (hI : ∀ pre W W', I pre W → Kept (fun k => S k ∨ twoOf w.heap.size k) W W' → I pre W') (hIx : ∀ c pre W W', Ix c pre W → Kept (fun k => S k ∨ twoOf w.heap.size k) W W' → Ix c pre W')
    (h0 : I [] w)
    (hassign : ∀ (l : Nat) (x : α) (W : World) (K : Act → World → Prop), K { tmps := putAll (us x) ((ps.zip (encs x)).foldl (fun t (p, v) => t.setIfInBounds p v) a.tmps), defers := [] } W →
      assign.wpIn (Fence.wide.inRound l) 0 P (Exit.then K (fun _ _ _ => False)) { tmps := (ps.zip (encs x)).foldl (fun t (p, v) => t.setIfInBounds p v) a.tmps, defers := [] } W)
    (hbody : ∀ (pre : List α) (x : α) (post : List α) (W : World), xs = pre ++ x :: post → w.heap.size + 2 ≤ W.heap.size → (∃ r, W.heap[w.heap.size + 1]? = some (.loop r)) → I pre W →
      body.wpIn (Fence.wide.inRound (w.heap.size + 1)) 0 P (roundTo (twoOf w.heap.size) D I Ix (pre ++ [x]) W) { tmps := putAll (us x) ((ps.zip (encs x)).foldl (fun t (p, v) => t.setIfInBounds p v) a.tmps), defers := [] } W)
    (hdone : ∀ W, w.heap.size + 2 ≤ W.heap.size → I xs W → W.heap[w.heap.size]? = some (.deferred (some [])) → Q .normal { a with defers := { target := .collected w.heap.size, args := #[] } :: a.defers } W)
    (hstop : ∀ c pre x post W, w.heap.size + 2 ≤ W.heap.size → xs = pre ++ x :: post → Ix c (pre ++ [x]) W → W.heap[w.heap.size]? = some (.deferred (some [])) → c.wpIn Fence.wide 0 P Q { a with defers := { target := .collected w.heap.size, args := #[] } :: a.defers } W) :
    (Code.rangeFunc g ps assign body).wpIn Fence.wide 0 P Q a w :=
  wp_iter hg eg hit hSlt hDlt hps I Ix hI hIx h0 (fun x a' _ => a' = { tmps := putAll (us x) ((ps.zip (encs x)).foldl (fun t (p, v) => t.setIfInBounds p v) a.tmps), defers := [] }) (fun _ _ _ _ h _ => h)
    (fun l _ x W K _ hi hK => hassign l x W K (hK _ _ (Kept.refl _ _) hi rfl)) (fun pre x post a' W hx hsz hr hi ha => by subst ha; exact hbody pre x post W hx hsz hr hi) hdone hstop

end Go.Proofs.YtbbjoahloghpkaaDoor
