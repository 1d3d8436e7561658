/- An arm's guard: is this the operation that is next? Over whatever program. 'with_reducible refine at_op none (.store t x y) ?_': fails at once elsewhere. -/
import Derived.Test.YtdjlpmelmhhooaaDoorKit
import Derived.TacticsIn
namespace Go.Proofs.YtdjlpmelmhhooaaDoor
open Go Go.RowKit
theorem at_op {P : Program} {ops : Array Oper} {Q : Exit → Act → World → Prop} {rest : List Oper} {a : Act} {w : World} (d : Option Tmp) (o : Op) {t : TypeId} {p : String} {af : Array Edge} {g : Option (Nat × Bool)}
    (h : wpList P ops Q (⟨d, o, t, p, af, g⟩ :: rest) a w) : wpList P ops Q (⟨d, o, t, p, af, g⟩ :: rest) a w := h
theorem at_opIn {F : Fence} {n : Nat} {P : Program} {ops : Array Oper} {Q : Exit → Act → World → Prop} {rest : List Oper} {a : Act} {w : World} (d : Option Tmp) (o : Op) {t : TypeId} {p : String} {af : Array Edge} {g : Option (Nat × Bool)}
    (h : wpListIn F n P ops Q (⟨d, o, t, p, af, g⟩ :: rest) a w) : wpListIn F n P ops Q (⟨d, o, t, p, af, g⟩ :: rest) a w := h
end Go.Proofs.YtdjlpmelmhhooaaDoor
