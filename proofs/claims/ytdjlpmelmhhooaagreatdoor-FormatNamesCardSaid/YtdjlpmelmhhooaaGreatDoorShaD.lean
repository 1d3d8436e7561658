/- The document's sum, its rounds: the walk. -/
import Derived.Test.YtdjlpmelmhhooaaGreatDoorShX5
import Derived.Test.YtdjlpmelmhhooaaGreatDoorLibA
namespace Go.Proofs.YtdjlpmelmhhooaaGreatDoor
open Go Go.RowKit
set_option linter.unusedSimpArgs false

end Go.Proofs.YtdjlpmelmhhooaaGreatDoor
