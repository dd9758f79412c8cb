/-
  PROVED HERE: what laws.szInstrS, szInstrSS, toInstrS, toInstrSS, eqInstr, eqInstrS, eqInstrSS do. CONDITIONS: as each theorem states.
-/
import Derived.Test.YtppocbkbkiokdaaIns
import Derived.Test.YtppocbkbkiokdaaPrg
namespace Go.Proofs.Ytppocbkbkiokdaa
open Go.RowKit
set_option linter.unusedVariables false
set_option linter.unusedSimpArgs false

end Go.Proofs.Ytppocbkbkiokdaa
