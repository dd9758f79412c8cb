/-
  PROVED HERE: what laws.szInstrS, szInstrSS, toInstrS, toInstrSS, eqInstr, eqInstrS, eqInstrSS do. CONDITIONS: as each theorem states.
-/
import Derived.Test.YtmeoclkngjboiaaDoorIns
import Derived.Test.YtmeoclkngjboiaaDoorPrg
namespace Go.Proofs.YtmeoclkngjboiaaDoor
open Go.RowKit
set_option linter.unusedVariables false
set_option linter.unusedSimpArgs false

end Go.Proofs.YtmeoclkngjboiaaDoor
