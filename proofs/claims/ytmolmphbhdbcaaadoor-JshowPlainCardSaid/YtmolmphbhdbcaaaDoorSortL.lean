/- slices.SortFunc over []int, laid off the shelf. -/
import Derived.Test.YtmolmphbhdbcaaaDoorProg
import Derived.Shelf.SlSortCmp.NoneTotal
import Derived.Shelf.Lay
import Derived.Ground.SlsfProg
import Derived.Ground.NamesProg
namespace Go.Proofs
open Go.Shelf
shelf_lay_g SlLaysF.n6 Slsf 6 at Tryd 56 as Tryd.sortInts
#print axioms Tryd.sortInts
end Go.Proofs

