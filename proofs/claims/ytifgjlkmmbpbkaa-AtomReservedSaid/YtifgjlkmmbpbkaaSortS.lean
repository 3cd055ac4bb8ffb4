/- slices.Sort at this seat, by the shelf's command. -/
import Derived.Shelf.SortG.Plain
import Derived.Shelf.SortG.SortNone
import Derived.Ground.SlgnProg
import Derived.Test.YtifgjlkmmbpbkaaGenC
namespace Go.Proofs
open Go.Shelf
shelf_lay_g SlLaysN.n53 Slgn 53 at Try 33 as Try.sortInt
end Go.Proofs
