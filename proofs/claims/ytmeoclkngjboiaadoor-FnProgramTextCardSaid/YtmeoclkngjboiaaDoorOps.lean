/-
  PROVED HERE: what CountOps of both packages does. CONDITIONS: as each theorem states.
-/
import Derived.Test.YtmeoclkngjboiaaDoorVav
namespace Go.Proofs.YtmeoclkngjboiaaDoor
open Go.RowKit
set_option linter.unusedVariables false
set_option linter.unusedSimpArgs false

def opB (op : Int) (x : Ins) : Bool := x.op == op
def countOps (p : Prg) (op : Int) : Nat := if progValid p then tot (opB op) p else 0

end Go.Proofs.YtmeoclkngjboiaaDoor
