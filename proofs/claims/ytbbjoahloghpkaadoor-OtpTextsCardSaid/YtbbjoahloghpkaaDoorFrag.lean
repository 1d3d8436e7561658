/- A piece of a function's code, by its block's number: over whatever program. -/
import Derived.Test.YtbbjoahloghpkaaDoorKit
namespace Go.Proofs.YtbbjoahloghpkaaDoor
open Go Go.RowKit

/-- What stands in the block of this number. -/
def findBlock (n : Nat) : Code → Code
  | .block i b => if i = n then b else findBlock n b
  | .seq a b => match findBlock n a with
    | .skip => findBlock n b
    | c => c
  | .cond _ a b => match findBlock n a with
    | .skip => findBlock n b
    | c => c
  | .loop b => findBlock n b
  | .scope b => findBlock n b
  | .rangeFunc _ _ a b => match findBlock n a with
    | .skip => findBlock n b
    | c => c
  | _ => .skip
def frag (f : Func) (n : Nat) : Code := findBlock n (f.body.getD .skip)
end Go.Proofs.YtbbjoahloghpkaaDoor
