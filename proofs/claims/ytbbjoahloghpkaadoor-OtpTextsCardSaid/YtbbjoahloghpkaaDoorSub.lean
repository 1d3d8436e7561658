/- Regions that draw their order, whose operations only read, and whose callees may allocate: one walk, in the order of the text. Over whatever program. -/
import Derived.BigQuiet
import Derived.OwnWalkIn
import Derived.OrdersIn
import Derived.Test.YtbbjoahloghpkaaDoorIter
namespace Go.Proofs.YtbbjoahloghpkaaDoor
open Go Go.RowKit

/-- A world behind w: all that was lies as it lay. -/
structure Sub (w : World) where
  x : World
  h : Below w.heap.size w x
instance (w : World) : Nonempty (Sub w) := ⟨⟨w, Below.refl _ _⟩⟩
theorem Sub.cell {w : World} (q : Sub w) {b : Nat} {t : TypeId} {A : Array Value} (h : RowAt w b t A) {j : Nat} {v : Value} (hv : A[j]? = some v) : q.x.cell? ⟨b, j, none⟩ = some v := (h.below q.h h.lt).cell hv
theorem Sub.call {P : Program} {f : FuncId} {args : Array Value} {w : World} {v : Value} (p : Sub w) (h : Calls P f args p.x fun e w' => e = .returned v ∧ Below p.x.heap.size p.x w') :
    Calls P f args p.x fun e w'' => e = .returned v ∧ ∃ q : Sub w, w'' = q.x :=
  h.mono fun _ w' ⟨he, hB⟩ => ⟨he, ⟨w', below_cat hB p.h⟩, rfl⟩
theorem Sub.same {P : Program} {f : FuncId} {args : Array Value} {w : World} {v : Value} (p : Sub w) (h : Calls P f args p.x fun e w' => e = .returned v ∧ p.x = w') :
    Calls P f args p.x fun e w'' => e = .returned v ∧ ∃ q : Sub w, w'' = q.x :=
  h.mono fun _ _ ⟨he, hB⟩ => ⟨he, p, hB.symm⟩

theorem wp_region_sub {P : Program} {id : Nat} {Q : Exit → Act → World → Prop} {a : Act} {w : World} {l : List Oper} (hm : P.follows .mixedOrders = true) (hB : Region.lexB .any l.toArray = true)
    (h : wpQuiet P l.toArray (fun w' => ∃ p : Sub w, w' = p.x) (fun a' => ∀ q : Sub w, Q .normal a' q.x) l a) : (Code.region id l.toArray true).wp P Q a w := by
  refine wp_region_quiet (C := fun w' => ∃ p : Sub w, w' = p.x) hm hB ⟨⟨w.drew, rfl, rfl, rfl, Nat.le_refl _, fun _ _ => rfl⟩, rfl⟩ ?_
  have e : (fun a' => ∀ w', (∃ p : Sub w, w' = p.x) → Q .normal a' w') = fun a' => ∀ q : Sub w, Q .normal a' q.x := by
    funext a'; exact propext ⟨fun h q => h _ ⟨q, rfl⟩, fun h w' ⟨q, hq⟩ => hq ▸ h q⟩
  rw [e]
  simpa using h
theorem wpIn_region_sub {P : Program} {id : Nat} {Q : Exit → Act → World → Prop} {a : Act} {w : World} {l : List Oper} (hm : P.follows .mixedOrders = true) (hB : Region.lexB .any l.toArray = true)
    (h : wpQuiet P l.toArray (fun w' => ∃ p : Sub w, w' = p.x) (fun a' => ∀ q : Sub w, Q .normal a' q.x) l a) : (Code.region id l.toArray true).wpIn Fence.wide 0 P Q a w :=
  wpIn_wide.2 (wp_region_sub hm hB h)
/-! In a round of a loop over an iterator. -/
def noDefer (ops : Array Oper) : Bool := ops.all fun o => match o.op with | .defer _ => false | _ => true
theorem noDefer_spec {ops : Array Oper} (h : noDefer ops = true) {i : Nat} {o : Oper} (hi : ops[i]? = some o) : ∀ c, o.op ≠ .defer c := by
  intro c e
  have hm : o ∈ ops := Array.mem_of_getElem? hi
  have := (Array.all_eq_true_iff_forall_mem.1 h) o hm
  rw [e] at this
  cases this
section
variable {P : Program} {ops : Array Oper} {md : Region.Mode} {C : World → Prop} {l : Nat}
theorem roundOper_of_quiet {o : Oper} {a : Act} {K : Act → Prop} {K' : Act → World → Prop} {Q' : Exit → Act → World → Prop} {w : World} (hnd : ∀ c, o.op ≠ .defer c) (hw : C w) (h : ∀ a w', C w' → K a → K' a w')
    (hh : o.quiet P a C K) : o.wpIn (Fence.wide.inRound l) 0 P a w K' Q' := by
  refine ⟨fun _ _ => trivial, ?_⟩
  rw [Oper.semAt_plain _ _ _ hnd]
  obtain ⟨v, h1, h2⟩ := hh
  have h3 := h1 w hw
  unfold Oper.quietAt at h3
  generalize (execOp a.eval o).run P w = r at *
  cases r with
  | ok n w' =>
    cases n <;> simp only [Oper.quietUpon] at h3
    case value u => obtain ⟨rfl, rfl⟩ := h3; exact h _ _ hw h2
    case skip => obtain ⟨rfl, rfl⟩ := h3; exact h _ _ hw h2
    case enter f args =>
      obtain ⟨rfl, hc⟩ := h3
      exact ⟨fun hd => (by cases hd), CallsIn.inRound l (callsIn_wide.2 (hc.mono fun e w'' ⟨he, hw''⟩ => by subst he; exact h _ _ hw'' h2))⟩
  | halt x w' => simp only [Oper.quietUpon] at h3
theorem roundOp_of_qOp {i : Nat} {a : Act} {K : Act → Prop} {K' : Act → World → Prop} {Q' : Exit → Act → World → Prop} {w : World} (hnd : noDefer ops = true) (hC : C w) (h : ∀ a w', C w' → K a → K' a w')
    (hh : qOp P ops C i K a) : wpOpIn (Fence.wide.inRound l) 0 P ops Q' i K' a w := by
  unfold qOp at hh
  unfold wpOpIn
  split
  · rename_i ho; simp only [ho] at hh; exact h _ _ hC hh
  · rename_i o ho
    simp only [ho] at hh
    split
    · rename_i hw; simp only [hw, if_true] at hh; exact roundOper_of_quiet (noDefer_spec hnd ho) hC h hh
    · rename_i hw; simp only [hw] at hh; exact ⟨fun _ _ => trivial, h _ _ hC hh⟩
theorem roundAny_of_quiet {Q : Act → Prop} {Q' : Exit → Act → World → Prop} (hnd : noDefer ops = true) (hQ : ∀ a w, C w → Q a → Q' .normal a w) : ∀ (fuel : Nat) (listed : Array Bool) (a : Act) (w : World), C w →
    wpAnyQ P md ops C Q fuel listed a → wpAnyIn (Fence.wide.inRound l) 0 P md ops Q' fuel listed a w
  | 0, _, _, _, hw, h => ⟨h.1, hQ _ _ hw h.2⟩
  | fuel + 1, _, _, _, hw, h => ⟨fun h0 => hQ _ _ hw (h.1 h0), fun i hi => roundOp_of_qOp hnd hw (fun a' w' hw' => roundAny_of_quiet hnd hQ fuel _ a' w' hw') (h.2 i hi)⟩
end
theorem wpIn_region_round {P : Program} {id : Nat} {Q : Exit → Act → World → Prop} {a : Act} {w : World} {l : List Oper} {k : Nat} (hm : P.follows .mixedOrders = true) (hB : Region.lexB .any l.toArray = true) (hnd : noDefer l.toArray = true)
    (h : wpQuiet P l.toArray (fun w' => ∃ p : Sub w, w' = p.x) (fun a' => ∀ q : Sub w, Q .normal a' q.x) l a) : (Code.region id l.toArray true).wpIn (Fence.wide.inRound k) 0 P Q a w := by
  simp only [Region.lexB, Bool.and_eq_true] at hB
  refine wpIn_region_any hm (roundAny_of_quiet (C := fun w' => ∃ p : Sub w, w' = p.x) (Q := fun a' => ∀ q : Sub w, Q .normal a' q.x) hnd (fun _ w' hw' h => by obtain ⟨q, rfl⟩ := hw'; exact h q) _ _ _ _
    ⟨⟨w.drew, rfl, rfl, rfl, Nat.le_refl _, fun _ _ => rfl⟩, rfl⟩ ?_)
  have := wpAnyQ_lex (P := P) (C := fun w' => ∃ p : Sub w, w' = p.x) (md := .any) hB.1 l 0 (Array.replicate l.toArray.size false) a (by simp) (by simpa using hB.2) h
  simpa using this

end Go.Proofs.YtbbjoahloghpkaaDoor
