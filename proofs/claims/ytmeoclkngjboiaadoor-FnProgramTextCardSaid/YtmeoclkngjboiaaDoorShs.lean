/-
  PROVED HERE: the library's contracts of slices.Sort and slices.Compact at this program, laid by the guide's own tool's words. CONDITIONS: as each theorem states.
-/
import Derived.Test.YtmeoclkngjboiaaDoorPrg
import Derived.Shelf.Sort.Plain
import Derived.Shelf.Slices.CompactI
import Derived.Shelf.Slices.In.SortNone
import Derived.Sort.OwnSortedInts
namespace Go.Proofs.YtmeoclkngjboiaaDoor
open Go.Shelf Go.RowKit Go.Sort Go.Lib
set_option linter.unusedVariables false
end Go.Proofs.YtmeoclkngjboiaaDoor
