/-
  PROVED HERE: what laws.szInstrS, szInstrSS, toInstrS, toInstrSS, eqInstr, eqInstrS, eqInstrSS do. CONDITIONS: as each theorem states.
-/
import Derived.Test.YtloghcfkjcbjlaaIns
import Derived.Test.YtloghcfkjcbjlaaPrg
namespace Go.Proofs.Ytloghcfkjcbjlaa
open Go.RowKit
set_option linter.unusedVariables false
set_option linter.unusedSimpArgs false

end Go.Proofs.Ytloghcfkjcbjlaa
