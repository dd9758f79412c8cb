/-
  PROVED HERE: what laws.eqInstr, eqInstrS, eqInstrSS do. CONDITIONS: as each theorem states.
-/
import Derived.Test.YtciplfdgjbehgaaPrgA
namespace Go.Proofs.Ytciplfdgjbehgaa
open Go.RowKit
set_option linter.unusedVariables false
set_option linter.unusedSimpArgs false

theorem ins_eq_iff (x y : Ins) : x = y ↔ x.op = y.op ∧ x.loc = y.loc ∧ x.reg = y.reg ∧ x.val = y.val := by
  obtain ⟨a, b, c, d⟩ := x
  obtain ⟨a', b', c', d'⟩ := y
  simp

end Go.Proofs.Ytciplfdgjbehgaa
