/- The library's strings.IndexByte: the shelf's contract at this program. -/
import Derived.Shelf.Small.Strs
import Derived.Shelf.Strings.Search1
import Derived.Test.YtdjlpmelmhhooaaDoorProg
namespace Go.Proofs.YtdjlpmelmhhooaaDoor
open Go Go.RowKit Go.Proofs
end Go.Proofs.YtdjlpmelmhhooaaDoor
