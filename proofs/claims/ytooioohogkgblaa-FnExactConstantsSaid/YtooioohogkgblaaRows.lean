/-
  No cell of these rows narrows 'for every input' (looked for: loops, veiled, ifaces, maps, wideKeys, modest, calm, conditions, laid).
  DERIVED. THE GIVEN ROWS OF THIS SEAT. 6 by the template 'for every input the law returns true; each argument reads behind the call as it read before'; 0 by the template 'total and deterministic' (their statements: YtooioohogkgblaaTotals.lean).
  GIVEN WITH THE SEED: the statements are not yours to turn. If you find one false, say at which input.
  Laid BY PROGRAM, IN A SANDBOX (cutbox-rows.mjs): the forced cells as the released guide's own fill.sh prints them over the translation d1916cae00554364… (all of the seat's roots in one cut). By AI agents, Wed Nov 11 2026. No macro, syntax, notation, axiom, sorry.
-/
import Derived.Test.YtooioohogkgblaaChecked
import GoSem.Claim
import GoSem.ClaimJoined
import GoSem.ClaimMapViews
import Derived.JoinedTies
import Derived.KernelRfl
namespace Go.Proofs.Ytooioohogkgblaa
/- THE CELL 'sum', in the pinned program and in every row, IS THE sha256 OF THE DUMP (.gsa) THAT YtooioohogkgblaaProg.lean LOADS. Nothing in Lean hashes anything: it is a label: what it is worth is what the hold of that sum in a sandbox is worth. -/
noncomputable def Try.pinned : Pinned := { name := "ytooioohogkgblaa", sum := "d1916cae005543646f3a79e65aff5925199f64b1d40d86c778de12d74dedabf5", checked := Try.checked }
namespace Rows
def none {H : Type} : Left H := { results := [], args := [] }

/-- 'laws.FnExactConstants': WHATEVER THE INPUT: true; the input reads as it did. -/
def fnExactConstantsSpec : ChangeSpec := { name := "fnExactConstants", fn := fun _ => fun
  | [] => { results := [.lit (.bool true)], args := [] }
  | _ => none }
def fnExactConstantsRow : OpenClaim := { program := "ytooioohogkgblaa", sum := "d1916cae005543646f3a79e65aff5925199f64b1d40d86c778de12d74dedabf5", func := "loop.example/weakmemory/laws.FnExactConstants", spec := "fnExactConstants", apart := false }
def FnExactConstantsSaid : Prop := fnExactConstantsRow.holds Try.pinned (OpenSpec.ofChange fnExactConstantsSpec)

/-- ITS FALSE NEIGHBOUR: 'it returns false'. Refute it at one input. -/
def fnExactConstantsWrong : ChangeSpec := { name := "fnExactConstants", fn := fun _ => fun
  | [] => { results := [.lit (.bool false)], args := [] }
  | _ => none }
def FnExactConstantsWrongFalsely : Prop := fnExactConstantsRow.holds Try.pinned (OpenSpec.ofChange fnExactConstantsWrong)

/-- 'laws.FnExactInstrValid': WHATEVER THE INPUT: true; the input reads as it did. -/
def fnExactInstrValidSpec : ChangeSpec := { name := "fnExactInstrValid", fn := fun _ => fun
  | [d] => { results := [.lit (.bool true)], args := [d] }
  | _ => none }
def fnExactInstrValidRow : OpenClaim := { program := "ytooioohogkgblaa", sum := "d1916cae005543646f3a79e65aff5925199f64b1d40d86c778de12d74dedabf5", func := "loop.example/weakmemory/laws.FnExactInstrValid", spec := "fnExactInstrValid", apart := false }
def FnExactInstrValidSaid : Prop := fnExactInstrValidRow.holds Try.pinned (OpenSpec.ofChange fnExactInstrValidSpec)

/-- ITS FALSE NEIGHBOUR: 'it returns false'. Refute it at one input. -/
def fnExactInstrValidWrong : ChangeSpec := { name := "fnExactInstrValid", fn := fun _ => fun
  | [d] => { results := [.lit (.bool false)], args := [d] }
  | _ => none }
def FnExactInstrValidWrongFalsely : Prop := fnExactInstrValidRow.holds Try.pinned (OpenSpec.ofChange fnExactInstrValidWrong)

/-- 'laws.FnExactRelValid': WHATEVER THE INPUT: true; the input reads as it did. -/
def fnExactRelValidSpec : ChangeSpec := { name := "fnExactRelValid", fn := fun _ => fun
  | [d] => { results := [.lit (.bool true)], args := [d] }
  | _ => none }
def fnExactRelValidRow : OpenClaim := { program := "ytooioohogkgblaa", sum := "d1916cae005543646f3a79e65aff5925199f64b1d40d86c778de12d74dedabf5", func := "loop.example/weakmemory/laws.FnExactRelValid", spec := "fnExactRelValid", unfollowed := true, recurses := true, apart := false }
def FnExactRelValidSaid : Prop := fnExactRelValidRow.holds Try.pinned (OpenSpec.ofChange fnExactRelValidSpec)

/-- ITS FALSE NEIGHBOUR: 'it returns false'. Refute it at one input. -/
def fnExactRelValidWrong : ChangeSpec := { name := "fnExactRelValid", fn := fun _ => fun
  | [d] => { results := [.lit (.bool false)], args := [d] }
  | _ => none }
def FnExactRelValidWrongFalsely : Prop := fnExactRelValidRow.holds Try.pinned (OpenSpec.ofChange fnExactRelValidWrong)

/-- 'laws.FnExactMeetRel': WHATEVER THE INPUT: true; the input reads as it did. -/
def fnExactMeetRelSpec : ChangeSpec := { name := "fnExactMeetRel", fn := fun _ => fun
  | [d1, d2] => { results := [.lit (.bool true)], args := [d1, d2] }
  | _ => none }
def fnExactMeetRelRow : OpenClaim := { program := "ytooioohogkgblaa", sum := "d1916cae005543646f3a79e65aff5925199f64b1d40d86c778de12d74dedabf5", func := "loop.example/weakmemory/laws.FnExactMeetRel", spec := "fnExactMeetRel", unfollowed := true, recurses := true, apart := false }
def FnExactMeetRelSaid : Prop := fnExactMeetRelRow.holds Try.pinned (OpenSpec.ofChange fnExactMeetRelSpec)

/-- ITS FALSE NEIGHBOUR: 'it returns false'. Refute it at one input. -/
def fnExactMeetRelWrong : ChangeSpec := { name := "fnExactMeetRel", fn := fun _ => fun
  | [d1, d2] => { results := [.lit (.bool false)], args := [d1, d2] }
  | _ => none }
def FnExactMeetRelWrongFalsely : Prop := fnExactMeetRelRow.holds Try.pinned (OpenSpec.ofChange fnExactMeetRelWrong)

/-- 'laws.FnExactMinusRel': WHATEVER THE INPUT: true; the input reads as it did. -/
def fnExactMinusRelSpec : ChangeSpec := { name := "fnExactMinusRel", fn := fun _ => fun
  | [d1, d2] => { results := [.lit (.bool true)], args := [d1, d2] }
  | _ => none }
def fnExactMinusRelRow : OpenClaim := { program := "ytooioohogkgblaa", sum := "d1916cae005543646f3a79e65aff5925199f64b1d40d86c778de12d74dedabf5", func := "loop.example/weakmemory/laws.FnExactMinusRel", spec := "fnExactMinusRel", unfollowed := true, recurses := true, apart := false }
def FnExactMinusRelSaid : Prop := fnExactMinusRelRow.holds Try.pinned (OpenSpec.ofChange fnExactMinusRelSpec)

/-- ITS FALSE NEIGHBOUR: 'it returns false'. Refute it at one input. -/
def fnExactMinusRelWrong : ChangeSpec := { name := "fnExactMinusRel", fn := fun _ => fun
  | [d1, d2] => { results := [.lit (.bool false)], args := [d1, d2] }
  | _ => none }
def FnExactMinusRelWrongFalsely : Prop := fnExactMinusRelRow.holds Try.pinned (OpenSpec.ofChange fnExactMinusRelWrong)

/-- 'laws.FnExactUnionRel': WHATEVER THE INPUT: true; the input reads as it did. -/
def fnExactUnionRelSpec : ChangeSpec := { name := "fnExactUnionRel", fn := fun _ => fun
  | [d1, d2] => { results := [.lit (.bool true)], args := [d1, d2] }
  | _ => none }
def fnExactUnionRelRow : OpenClaim := { program := "ytooioohogkgblaa", sum := "d1916cae005543646f3a79e65aff5925199f64b1d40d86c778de12d74dedabf5", func := "loop.example/weakmemory/laws.FnExactUnionRel", spec := "fnExactUnionRel", unfollowed := true, recurses := true, apart := false }
def FnExactUnionRelSaid : Prop := fnExactUnionRelRow.holds Try.pinned (OpenSpec.ofChange fnExactUnionRelSpec)

/-- ITS FALSE NEIGHBOUR: 'it returns false'. Refute it at one input. -/
def fnExactUnionRelWrong : ChangeSpec := { name := "fnExactUnionRel", fn := fun _ => fun
  | [d1, d2] => { results := [.lit (.bool false)], args := [d1, d2] }
  | _ => none }
def FnExactUnionRelWrongFalsely : Prop := fnExactUnionRelRow.holds Try.pinned (OpenSpec.ofChange fnExactUnionRelWrong)

/- THE SECOND FORM. 'bulk': how many values and letters a reading holds, each counted each time it is reached (what is shared counts as often as it is met; a slice's spare places count too). A statement '..UptoSaid' is the law's where the arguments, and the package variables that the reading takes, are together of bulk at most 1048576: NARROWER than '..Said'. Prove '..Said' where nothing that the law and all that it calls make is longer than what came in: it says more and counts as full. Else prove '..UptoSaid'. A law counts once. -/
mutual
def uptoBulk {H : Type} : DataW H → Nat
  | .lit (.string bytes) => bytes.length + 1
  | .lit _ => 1
  | .nil => 1
  | .ptr d => uptoBulk d + 1
  | .slice elems spare => uptoBulkAll elems + uptoBulkAll spare + 1
  | .agg parts => uptoBulkAll parts + 1
  | .iface _ d => uptoBulk d + 1
  | .map entries => uptoBulkEntries entries + 1
  | .held _ => 1
def uptoBulkAll {H : Type} : List (DataW H) → Nat
  | [] => 0
  | d :: r => uptoBulk d + uptoBulkAll r
def uptoBulkEntries {H : Type} : List (Lit × DataW H) → Nat
  | [] => 0
  | x :: r => uptoBulkEntry x + uptoBulkEntries r
def uptoBulkEntry {H : Type} : Lit × DataW H → Nat
  | (.string bytes, d) => bytes.length + uptoBulk d + 1
  | (_, d) => uptoBulk d + 1
 end
def uptoSmall : (H : Type) → List (DataW H) → Bool := fun _ ds => decide (uptoBulkAll ds ≤ 1048576)
def OpenSpec.upto (s : _root_.Go.ChangeSpec) : _root_.Go.OpenSpec := { _root_.Go.OpenSpec.ofChange s with cond := some uptoSmall }

/-- 'laws.FnExactConstants', WHERE WHAT IT READS IS OF BULK AT MOST 1048576: true; the input reads as it did. -/
def fnExactConstantsUptoRow : OpenClaim := { program := "ytooioohogkgblaa", sum := "d1916cae005543646f3a79e65aff5925199f64b1d40d86c778de12d74dedabf5", func := "loop.example/weakmemory/laws.FnExactConstants", spec := "fnExactConstants", apart := false, narrowed := true }
def FnExactConstantsUptoSaid : Prop := fnExactConstantsUptoRow.holds Try.pinned (OpenSpec.upto fnExactConstantsSpec)

/-- 'laws.FnExactInstrValid', WHERE WHAT IT READS IS OF BULK AT MOST 1048576: true; the input reads as it did. -/
def fnExactInstrValidUptoRow : OpenClaim := { program := "ytooioohogkgblaa", sum := "d1916cae005543646f3a79e65aff5925199f64b1d40d86c778de12d74dedabf5", func := "loop.example/weakmemory/laws.FnExactInstrValid", spec := "fnExactInstrValid", apart := false, narrowed := true }
def FnExactInstrValidUptoSaid : Prop := fnExactInstrValidUptoRow.holds Try.pinned (OpenSpec.upto fnExactInstrValidSpec)

/-- 'laws.FnExactRelValid', WHERE WHAT IT READS IS OF BULK AT MOST 1048576: true; the input reads as it did. -/
def fnExactRelValidUptoRow : OpenClaim := { program := "ytooioohogkgblaa", sum := "d1916cae005543646f3a79e65aff5925199f64b1d40d86c778de12d74dedabf5", func := "loop.example/weakmemory/laws.FnExactRelValid", spec := "fnExactRelValid", unfollowed := true, recurses := true, apart := false, narrowed := true }
def FnExactRelValidUptoSaid : Prop := fnExactRelValidUptoRow.holds Try.pinned (OpenSpec.upto fnExactRelValidSpec)

/-- 'laws.FnExactMeetRel', WHERE WHAT IT READS IS OF BULK AT MOST 1048576: true; the input reads as it did. -/
def fnExactMeetRelUptoRow : OpenClaim := { program := "ytooioohogkgblaa", sum := "d1916cae005543646f3a79e65aff5925199f64b1d40d86c778de12d74dedabf5", func := "loop.example/weakmemory/laws.FnExactMeetRel", spec := "fnExactMeetRel", unfollowed := true, recurses := true, apart := false, narrowed := true }
def FnExactMeetRelUptoSaid : Prop := fnExactMeetRelUptoRow.holds Try.pinned (OpenSpec.upto fnExactMeetRelSpec)

/-- 'laws.FnExactMinusRel', WHERE WHAT IT READS IS OF BULK AT MOST 1048576: true; the input reads as it did. -/
def fnExactMinusRelUptoRow : OpenClaim := { program := "ytooioohogkgblaa", sum := "d1916cae005543646f3a79e65aff5925199f64b1d40d86c778de12d74dedabf5", func := "loop.example/weakmemory/laws.FnExactMinusRel", spec := "fnExactMinusRel", unfollowed := true, recurses := true, apart := false, narrowed := true }
def FnExactMinusRelUptoSaid : Prop := fnExactMinusRelUptoRow.holds Try.pinned (OpenSpec.upto fnExactMinusRelSpec)

/-- 'laws.FnExactUnionRel', WHERE WHAT IT READS IS OF BULK AT MOST 1048576: true; the input reads as it did. -/
def fnExactUnionRelUptoRow : OpenClaim := { program := "ytooioohogkgblaa", sum := "d1916cae005543646f3a79e65aff5925199f64b1d40d86c778de12d74dedabf5", func := "loop.example/weakmemory/laws.FnExactUnionRel", spec := "fnExactUnionRel", unfollowed := true, recurses := true, apart := false, narrowed := true }
def FnExactUnionRelUptoSaid : Prop := fnExactUnionRelUptoRow.holds Try.pinned (OpenSpec.upto fnExactUnionRelSpec)

end Rows
end Go.Proofs.Ytooioohogkgblaa
