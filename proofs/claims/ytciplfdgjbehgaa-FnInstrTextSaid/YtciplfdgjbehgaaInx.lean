/-
  PROVED HERE: two instructions of the same fields are one. CONDITIONS: as the lemma states.
-/
import Derived.Test.YtciplfdgjbehgaaRdp
namespace Go.Proofs.Ytciplfdgjbehgaa
set_option linter.unusedVariables false

theorem ins_ext {x y : Ins} (h0 : x.op = y.op) (h1 : x.loc = y.loc) (h2 : x.reg = y.reg) (h3 : x.val = y.val) : x = y := by
  cases x
  cases y
  simp only at h0 h1 h2 h3
  subst h0 h1 h2 h3
  rfl
end Go.Proofs.Ytciplfdgjbehgaa
