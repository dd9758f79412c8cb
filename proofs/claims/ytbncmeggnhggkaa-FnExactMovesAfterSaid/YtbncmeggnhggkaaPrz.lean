/-
  PROVED HERE: nothing; the words for an instruction. CONDITIONS: none.
-/
import Derived.Test.YtbncmeggnhggkaaMixQ
namespace Go.Proofs.Ytbncmeggnhggkaa
open Go.RowKit
set_option linter.unusedVariables false
set_option linter.unusedSimpArgs false

/-- An instruction. -/
structure Ins where
  op : Int
  loc : Int
  reg : Int
  val : Int
deriving DecidableEq
def Ins.cells (x : Ins) : List Value := [.int .i64 x.op, .int .i64 x.loc, .int .i64 x.reg, .int .i64 x.val]
abbrev Ins.v (x : Ins) : Value := .agg #[.int .i64 x.op, .int .i64 x.loc, .int .i64 x.reg, .int .i64 x.val]
end Go.Proofs.Ytbncmeggnhggkaa
