/-
  No cell of these rows narrows 'for every input' (looked for: loops, veiled, ifaces, maps, wideKeys, modest, calm, conditions, laid).
  DERIVED. THE GIVEN ROWS OF THIS SEAT. 11 by the template 'for every input the law returns true; each argument reads behind the call as it read before'; 0 by the template 'total and deterministic' (their statements: YtomckiglgnidaaaTotals.lean).
  GIVEN WITH THE SEED: the statements are not yours to turn. If you find one false, say at which input.
  Laid BY PROGRAM, IN A SANDBOX (cutbox-rows.mjs): the forced cells as the released guide's own fill.sh prints them over the translation a703728ae6dab6fc… (all of the seat's roots in one cut). By AI agents, Wed Nov 11 2026. No macro, syntax, notation, axiom, sorry.
-/
import Derived.Test.YtomckiglgnidaaaChecked
import GoSem.Claim
import GoSem.ClaimJoined
import GoSem.ClaimMapViews
import Derived.JoinedTies
import Derived.KernelRfl
namespace Go.Proofs.Ytomckiglgnidaaa
/- THE CELL 'sum', in the pinned program and in every row, IS THE sha256 OF THE DUMP (.gsa) THAT YtomckiglgnidaaaProg.lean LOADS. Nothing in Lean hashes anything: it is a label: what it is worth is what the hold of that sum in a sandbox is worth. -/
noncomputable def Try.pinned : Pinned := { name := "ytomckiglgnidaaa", sum := "a703728ae6dab6fc1c059853383effcd9f5ff2db53520b57c6f38cc1e9823ce6", checked := Try.checked }
namespace Rows
def none {H : Type} : Left H := { results := [], args := [] }

/-- 'laws.FnExactRelValid': WHATEVER THE INPUT: true; the input reads as it did. -/
def fnExactRelValidSpec : ChangeSpec := { name := "fnExactRelValid", fn := fun _ => fun
  | [d] => { results := [.lit (.bool true)], args := [d] }
  | _ => none }
def fnExactRelValidRow : OpenClaim := { program := "ytomckiglgnidaaa", sum := "a703728ae6dab6fc1c059853383effcd9f5ff2db53520b57c6f38cc1e9823ce6", func := "loop.example/weakmemory/laws.FnExactRelValid", spec := "fnExactRelValid", unfollowed := true, recurses := true, apart := false }
def FnExactRelValidSaid : Prop := fnExactRelValidRow.holds Try.pinned (OpenSpec.ofChange fnExactRelValidSpec)

/-- ITS FALSE NEIGHBOUR: 'it returns false'. Refute it at one input. -/
def fnExactRelValidWrong : ChangeSpec := { name := "fnExactRelValid", fn := fun _ => fun
  | [d] => { results := [.lit (.bool false)], args := [d] }
  | _ => none }
def FnExactRelValidWrongFalsely : Prop := fnExactRelValidRow.holds Try.pinned (OpenSpec.ofChange fnExactRelValidWrong)

/-- 'laws.FnExactMeetRel': WHATEVER THE INPUT: true; the input reads as it did. -/
def fnExactMeetRelSpec : ChangeSpec := { name := "fnExactMeetRel", fn := fun _ => fun
  | [d1, d2] => { results := [.lit (.bool true)], args := [d1, d2] }
  | _ => none }
def fnExactMeetRelRow : OpenClaim := { program := "ytomckiglgnidaaa", sum := "a703728ae6dab6fc1c059853383effcd9f5ff2db53520b57c6f38cc1e9823ce6", func := "loop.example/weakmemory/laws.FnExactMeetRel", spec := "fnExactMeetRel", unfollowed := true, recurses := true, apart := false }
def FnExactMeetRelSaid : Prop := fnExactMeetRelRow.holds Try.pinned (OpenSpec.ofChange fnExactMeetRelSpec)

/-- ITS FALSE NEIGHBOUR: 'it returns false'. Refute it at one input. -/
def fnExactMeetRelWrong : ChangeSpec := { name := "fnExactMeetRel", fn := fun _ => fun
  | [d1, d2] => { results := [.lit (.bool false)], args := [d1, d2] }
  | _ => none }
def FnExactMeetRelWrongFalsely : Prop := fnExactMeetRelRow.holds Try.pinned (OpenSpec.ofChange fnExactMeetRelWrong)

/-- 'laws.FnExactMinusRel': WHATEVER THE INPUT: true; the input reads as it did. -/
def fnExactMinusRelSpec : ChangeSpec := { name := "fnExactMinusRel", fn := fun _ => fun
  | [d1, d2] => { results := [.lit (.bool true)], args := [d1, d2] }
  | _ => none }
def fnExactMinusRelRow : OpenClaim := { program := "ytomckiglgnidaaa", sum := "a703728ae6dab6fc1c059853383effcd9f5ff2db53520b57c6f38cc1e9823ce6", func := "loop.example/weakmemory/laws.FnExactMinusRel", spec := "fnExactMinusRel", unfollowed := true, recurses := true, apart := false }
def FnExactMinusRelSaid : Prop := fnExactMinusRelRow.holds Try.pinned (OpenSpec.ofChange fnExactMinusRelSpec)

/-- ITS FALSE NEIGHBOUR: 'it returns false'. Refute it at one input. -/
def fnExactMinusRelWrong : ChangeSpec := { name := "fnExactMinusRel", fn := fun _ => fun
  | [d1, d2] => { results := [.lit (.bool false)], args := [d1, d2] }
  | _ => none }
def FnExactMinusRelWrongFalsely : Prop := fnExactMinusRelRow.holds Try.pinned (OpenSpec.ofChange fnExactMinusRelWrong)

/-- 'laws.FnExactUnionRel': WHATEVER THE INPUT: true; the input reads as it did. -/
def fnExactUnionRelSpec : ChangeSpec := { name := "fnExactUnionRel", fn := fun _ => fun
  | [d1, d2] => { results := [.lit (.bool true)], args := [d1, d2] }
  | _ => none }
def fnExactUnionRelRow : OpenClaim := { program := "ytomckiglgnidaaa", sum := "a703728ae6dab6fc1c059853383effcd9f5ff2db53520b57c6f38cc1e9823ce6", func := "loop.example/weakmemory/laws.FnExactUnionRel", spec := "fnExactUnionRel", unfollowed := true, recurses := true, apart := false }
def FnExactUnionRelSaid : Prop := fnExactUnionRelRow.holds Try.pinned (OpenSpec.ofChange fnExactUnionRelSpec)

/-- ITS FALSE NEIGHBOUR: 'it returns false'. Refute it at one input. -/
def fnExactUnionRelWrong : ChangeSpec := { name := "fnExactUnionRel", fn := fun _ => fun
  | [d1, d2] => { results := [.lit (.bool false)], args := [d1, d2] }
  | _ => none }
def FnExactUnionRelWrongFalsely : Prop := fnExactUnionRelRow.holds Try.pinned (OpenSpec.ofChange fnExactUnionRelWrong)

/-- 'laws.FnExactWithinRel': WHATEVER THE INPUT: true; the input reads as it did. -/
def fnExactWithinRelSpec : ChangeSpec := { name := "fnExactWithinRel", fn := fun _ => fun
  | [d1, d2] => { results := [.lit (.bool true)], args := [d1, d2] }
  | _ => none }
def fnExactWithinRelRow : OpenClaim := { program := "ytomckiglgnidaaa", sum := "a703728ae6dab6fc1c059853383effcd9f5ff2db53520b57c6f38cc1e9823ce6", func := "loop.example/weakmemory/laws.FnExactWithinRel", spec := "fnExactWithinRel", unfollowed := true, recurses := true, apart := false }
def FnExactWithinRelSaid : Prop := fnExactWithinRelRow.holds Try.pinned (OpenSpec.ofChange fnExactWithinRelSpec)

/-- ITS FALSE NEIGHBOUR: 'it returns false'. Refute it at one input. -/
def fnExactWithinRelWrong : ChangeSpec := { name := "fnExactWithinRel", fn := fun _ => fun
  | [d1, d2] => { results := [.lit (.bool false)], args := [d1, d2] }
  | _ => none }
def FnExactWithinRelWrongFalsely : Prop := fnExactWithinRelRow.holds Try.pinned (OpenSpec.ofChange fnExactWithinRelWrong)

/-- 'laws.FnExactInverseRel': WHATEVER THE INPUT: true; the input reads as it did. -/
def fnExactInverseRelSpec : ChangeSpec := { name := "fnExactInverseRel", fn := fun _ => fun
  | [d] => { results := [.lit (.bool true)], args := [d] }
  | _ => none }
def fnExactInverseRelRow : OpenClaim := { program := "ytomckiglgnidaaa", sum := "a703728ae6dab6fc1c059853383effcd9f5ff2db53520b57c6f38cc1e9823ce6", func := "loop.example/weakmemory/laws.FnExactInverseRel", spec := "fnExactInverseRel", unfollowed := true, recurses := true, apart := false }
def FnExactInverseRelSaid : Prop := fnExactInverseRelRow.holds Try.pinned (OpenSpec.ofChange fnExactInverseRelSpec)

/-- ITS FALSE NEIGHBOUR: 'it returns false'. Refute it at one input. -/
def fnExactInverseRelWrong : ChangeSpec := { name := "fnExactInverseRel", fn := fun _ => fun
  | [d] => { results := [.lit (.bool false)], args := [d] }
  | _ => none }
def FnExactInverseRelWrongFalsely : Prop := fnExactInverseRelRow.holds Try.pinned (OpenSpec.ofChange fnExactInverseRelWrong)

/-- 'laws.FnExactComposeRel': WHATEVER THE INPUT: true; the input reads as it did. -/
def fnExactComposeRelSpec : ChangeSpec := { name := "fnExactComposeRel", fn := fun _ => fun
  | [d1, d2] => { results := [.lit (.bool true)], args := [d1, d2] }
  | _ => none }
def fnExactComposeRelRow : OpenClaim := { program := "ytomckiglgnidaaa", sum := "a703728ae6dab6fc1c059853383effcd9f5ff2db53520b57c6f38cc1e9823ce6", func := "loop.example/weakmemory/laws.FnExactComposeRel", spec := "fnExactComposeRel", unfollowed := true, recurses := true, apart := false }
def FnExactComposeRelSaid : Prop := fnExactComposeRelRow.holds Try.pinned (OpenSpec.ofChange fnExactComposeRelSpec)

/-- ITS FALSE NEIGHBOUR: 'it returns false'. Refute it at one input. -/
def fnExactComposeRelWrong : ChangeSpec := { name := "fnExactComposeRel", fn := fun _ => fun
  | [d1, d2] => { results := [.lit (.bool false)], args := [d1, d2] }
  | _ => none }
def FnExactComposeRelWrongFalsely : Prop := fnExactComposeRelRow.holds Try.pinned (OpenSpec.ofChange fnExactComposeRelWrong)

/-- 'laws.FnExactAcyclicRel': WHATEVER THE INPUT: true; the input reads as it did. -/
def fnExactAcyclicRelSpec : ChangeSpec := { name := "fnExactAcyclicRel", fn := fun _ => fun
  | [d] => { results := [.lit (.bool true)], args := [d] }
  | _ => none }
def fnExactAcyclicRelRow : OpenClaim := { program := "ytomckiglgnidaaa", sum := "a703728ae6dab6fc1c059853383effcd9f5ff2db53520b57c6f38cc1e9823ce6", func := "loop.example/weakmemory/laws.FnExactAcyclicRel", spec := "fnExactAcyclicRel", unfollowed := true, recurses := true, apart := false }
def FnExactAcyclicRelSaid : Prop := fnExactAcyclicRelRow.holds Try.pinned (OpenSpec.ofChange fnExactAcyclicRelSpec)

/-- ITS FALSE NEIGHBOUR: 'it returns false'. Refute it at one input. -/
def fnExactAcyclicRelWrong : ChangeSpec := { name := "fnExactAcyclicRel", fn := fun _ => fun
  | [d] => { results := [.lit (.bool false)], args := [d] }
  | _ => none }
def FnExactAcyclicRelWrongFalsely : Prop := fnExactAcyclicRelRow.holds Try.pinned (OpenSpec.ofChange fnExactAcyclicRelWrong)

/-- 'laws.FnExactClosureRel': WHATEVER THE INPUT: true; the input reads as it did. -/
def fnExactClosureRelSpec : ChangeSpec := { name := "fnExactClosureRel", fn := fun _ => fun
  | [d] => { results := [.lit (.bool true)], args := [d] }
  | _ => none }
def fnExactClosureRelRow : OpenClaim := { program := "ytomckiglgnidaaa", sum := "a703728ae6dab6fc1c059853383effcd9f5ff2db53520b57c6f38cc1e9823ce6", func := "loop.example/weakmemory/laws.FnExactClosureRel", spec := "fnExactClosureRel", unfollowed := true, recurses := true, apart := false }
def FnExactClosureRelSaid : Prop := fnExactClosureRelRow.holds Try.pinned (OpenSpec.ofChange fnExactClosureRelSpec)

/-- ITS FALSE NEIGHBOUR: 'it returns false'. Refute it at one input. -/
def fnExactClosureRelWrong : ChangeSpec := { name := "fnExactClosureRel", fn := fun _ => fun
  | [d] => { results := [.lit (.bool false)], args := [d] }
  | _ => none }
def FnExactClosureRelWrongFalsely : Prop := fnExactClosureRelRow.holds Try.pinned (OpenSpec.ofChange fnExactClosureRelWrong)

/-- 'laws.FnExactCountRel': WHATEVER THE INPUT: true; the input reads as it did. -/
def fnExactCountRelSpec : ChangeSpec := { name := "fnExactCountRel", fn := fun _ => fun
  | [d] => { results := [.lit (.bool true)], args := [d] }
  | _ => none }
def fnExactCountRelRow : OpenClaim := { program := "ytomckiglgnidaaa", sum := "a703728ae6dab6fc1c059853383effcd9f5ff2db53520b57c6f38cc1e9823ce6", func := "loop.example/weakmemory/laws.FnExactCountRel", spec := "fnExactCountRel", unfollowed := true, recurses := true, apart := false }
def FnExactCountRelSaid : Prop := fnExactCountRelRow.holds Try.pinned (OpenSpec.ofChange fnExactCountRelSpec)

/-- ITS FALSE NEIGHBOUR: 'it returns false'. Refute it at one input. -/
def fnExactCountRelWrong : ChangeSpec := { name := "fnExactCountRel", fn := fun _ => fun
  | [d] => { results := [.lit (.bool false)], args := [d] }
  | _ => none }
def FnExactCountRelWrongFalsely : Prop := fnExactCountRelRow.holds Try.pinned (OpenSpec.ofChange fnExactCountRelWrong)

/-- 'laws.FnExactFindCycle': WHATEVER THE INPUT: true; the input reads as it did. -/
def fnExactFindCycleSpec : ChangeSpec := { name := "fnExactFindCycle", fn := fun _ => fun
  | [d] => { results := [.lit (.bool true)], args := [d] }
  | _ => none }
def fnExactFindCycleRow : OpenClaim := { program := "ytomckiglgnidaaa", sum := "a703728ae6dab6fc1c059853383effcd9f5ff2db53520b57c6f38cc1e9823ce6", func := "loop.example/weakmemory/laws.FnExactFindCycle", spec := "fnExactFindCycle", unfollowed := true, recurses := true, apart := false }
def FnExactFindCycleSaid : Prop := fnExactFindCycleRow.holds Try.pinned (OpenSpec.ofChange fnExactFindCycleSpec)

/-- ITS FALSE NEIGHBOUR: 'it returns false'. Refute it at one input. -/
def fnExactFindCycleWrong : ChangeSpec := { name := "fnExactFindCycle", fn := fun _ => fun
  | [d] => { results := [.lit (.bool false)], args := [d] }
  | _ => none }
def FnExactFindCycleWrongFalsely : Prop := fnExactFindCycleRow.holds Try.pinned (OpenSpec.ofChange fnExactFindCycleWrong)

/- THE SECOND FORM. 'bulk': how many values and letters a reading holds, each counted each time it is reached (what is shared counts as often as it is met; a slice's spare places count too). A statement '..UptoSaid' is the law's where the arguments, and the package variables that the reading takes, are together of bulk at most 1048576: NARROWER than '..Said'. Prove '..Said' where nothing that the law and all that it calls make is longer than what came in: it says more and counts as full. Else prove '..UptoSaid'. A law counts once. -/
mutual
def uptoBulk {H : Type} : DataW H → Nat
  | .lit (.string bytes) => bytes.length + 1
  | .lit _ => 1
  | .nil => 1
  | .ptr d => uptoBulk d + 1
  | .slice elems spare => uptoBulkAll elems + uptoBulkAll spare + 1
  | .agg parts => uptoBulkAll parts + 1
  | .iface _ d => uptoBulk d + 1
  | .map entries => uptoBulkEntries entries + 1
  | .held _ => 1
def uptoBulkAll {H : Type} : List (DataW H) → Nat
  | [] => 0
  | d :: r => uptoBulk d + uptoBulkAll r
def uptoBulkEntries {H : Type} : List (Lit × DataW H) → Nat
  | [] => 0
  | x :: r => uptoBulkEntry x + uptoBulkEntries r
def uptoBulkEntry {H : Type} : Lit × DataW H → Nat
  | (.string bytes, d) => bytes.length + uptoBulk d + 1
  | (_, d) => uptoBulk d + 1
 end
def uptoSmall : (H : Type) → List (DataW H) → Bool := fun _ ds => decide (uptoBulkAll ds ≤ 1048576)
def OpenSpec.upto (s : _root_.Go.ChangeSpec) : _root_.Go.OpenSpec := { _root_.Go.OpenSpec.ofChange s with cond := some uptoSmall }

/-- 'laws.FnExactRelValid', WHERE WHAT IT READS IS OF BULK AT MOST 1048576: true; the input reads as it did. -/
def fnExactRelValidUptoRow : OpenClaim := { program := "ytomckiglgnidaaa", sum := "a703728ae6dab6fc1c059853383effcd9f5ff2db53520b57c6f38cc1e9823ce6", func := "loop.example/weakmemory/laws.FnExactRelValid", spec := "fnExactRelValid", unfollowed := true, recurses := true, apart := false, narrowed := true }
def FnExactRelValidUptoSaid : Prop := fnExactRelValidUptoRow.holds Try.pinned (OpenSpec.upto fnExactRelValidSpec)

/-- 'laws.FnExactMeetRel', WHERE WHAT IT READS IS OF BULK AT MOST 1048576: true; the input reads as it did. -/
def fnExactMeetRelUptoRow : OpenClaim := { program := "ytomckiglgnidaaa", sum := "a703728ae6dab6fc1c059853383effcd9f5ff2db53520b57c6f38cc1e9823ce6", func := "loop.example/weakmemory/laws.FnExactMeetRel", spec := "fnExactMeetRel", unfollowed := true, recurses := true, apart := false, narrowed := true }
def FnExactMeetRelUptoSaid : Prop := fnExactMeetRelUptoRow.holds Try.pinned (OpenSpec.upto fnExactMeetRelSpec)

/-- 'laws.FnExactMinusRel', WHERE WHAT IT READS IS OF BULK AT MOST 1048576: true; the input reads as it did. -/
def fnExactMinusRelUptoRow : OpenClaim := { program := "ytomckiglgnidaaa", sum := "a703728ae6dab6fc1c059853383effcd9f5ff2db53520b57c6f38cc1e9823ce6", func := "loop.example/weakmemory/laws.FnExactMinusRel", spec := "fnExactMinusRel", unfollowed := true, recurses := true, apart := false, narrowed := true }
def FnExactMinusRelUptoSaid : Prop := fnExactMinusRelUptoRow.holds Try.pinned (OpenSpec.upto fnExactMinusRelSpec)

/-- 'laws.FnExactUnionRel', WHERE WHAT IT READS IS OF BULK AT MOST 1048576: true; the input reads as it did. -/
def fnExactUnionRelUptoRow : OpenClaim := { program := "ytomckiglgnidaaa", sum := "a703728ae6dab6fc1c059853383effcd9f5ff2db53520b57c6f38cc1e9823ce6", func := "loop.example/weakmemory/laws.FnExactUnionRel", spec := "fnExactUnionRel", unfollowed := true, recurses := true, apart := false, narrowed := true }
def FnExactUnionRelUptoSaid : Prop := fnExactUnionRelUptoRow.holds Try.pinned (OpenSpec.upto fnExactUnionRelSpec)

/-- 'laws.FnExactWithinRel', WHERE WHAT IT READS IS OF BULK AT MOST 1048576: true; the input reads as it did. -/
def fnExactWithinRelUptoRow : OpenClaim := { program := "ytomckiglgnidaaa", sum := "a703728ae6dab6fc1c059853383effcd9f5ff2db53520b57c6f38cc1e9823ce6", func := "loop.example/weakmemory/laws.FnExactWithinRel", spec := "fnExactWithinRel", unfollowed := true, recurses := true, apart := false, narrowed := true }
def FnExactWithinRelUptoSaid : Prop := fnExactWithinRelUptoRow.holds Try.pinned (OpenSpec.upto fnExactWithinRelSpec)

/-- 'laws.FnExactInverseRel', WHERE WHAT IT READS IS OF BULK AT MOST 1048576: true; the input reads as it did. -/
def fnExactInverseRelUptoRow : OpenClaim := { program := "ytomckiglgnidaaa", sum := "a703728ae6dab6fc1c059853383effcd9f5ff2db53520b57c6f38cc1e9823ce6", func := "loop.example/weakmemory/laws.FnExactInverseRel", spec := "fnExactInverseRel", unfollowed := true, recurses := true, apart := false, narrowed := true }
def FnExactInverseRelUptoSaid : Prop := fnExactInverseRelUptoRow.holds Try.pinned (OpenSpec.upto fnExactInverseRelSpec)

/-- 'laws.FnExactComposeRel', WHERE WHAT IT READS IS OF BULK AT MOST 1048576: true; the input reads as it did. -/
def fnExactComposeRelUptoRow : OpenClaim := { program := "ytomckiglgnidaaa", sum := "a703728ae6dab6fc1c059853383effcd9f5ff2db53520b57c6f38cc1e9823ce6", func := "loop.example/weakmemory/laws.FnExactComposeRel", spec := "fnExactComposeRel", unfollowed := true, recurses := true, apart := false, narrowed := true }
def FnExactComposeRelUptoSaid : Prop := fnExactComposeRelUptoRow.holds Try.pinned (OpenSpec.upto fnExactComposeRelSpec)

/-- 'laws.FnExactAcyclicRel', WHERE WHAT IT READS IS OF BULK AT MOST 1048576: true; the input reads as it did. -/
def fnExactAcyclicRelUptoRow : OpenClaim := { program := "ytomckiglgnidaaa", sum := "a703728ae6dab6fc1c059853383effcd9f5ff2db53520b57c6f38cc1e9823ce6", func := "loop.example/weakmemory/laws.FnExactAcyclicRel", spec := "fnExactAcyclicRel", unfollowed := true, recurses := true, apart := false, narrowed := true }
def FnExactAcyclicRelUptoSaid : Prop := fnExactAcyclicRelUptoRow.holds Try.pinned (OpenSpec.upto fnExactAcyclicRelSpec)

/-- 'laws.FnExactClosureRel', WHERE WHAT IT READS IS OF BULK AT MOST 1048576: true; the input reads as it did. -/
def fnExactClosureRelUptoRow : OpenClaim := { program := "ytomckiglgnidaaa", sum := "a703728ae6dab6fc1c059853383effcd9f5ff2db53520b57c6f38cc1e9823ce6", func := "loop.example/weakmemory/laws.FnExactClosureRel", spec := "fnExactClosureRel", unfollowed := true, recurses := true, apart := false, narrowed := true }
def FnExactClosureRelUptoSaid : Prop := fnExactClosureRelUptoRow.holds Try.pinned (OpenSpec.upto fnExactClosureRelSpec)

/-- 'laws.FnExactCountRel', WHERE WHAT IT READS IS OF BULK AT MOST 1048576: true; the input reads as it did. -/
def fnExactCountRelUptoRow : OpenClaim := { program := "ytomckiglgnidaaa", sum := "a703728ae6dab6fc1c059853383effcd9f5ff2db53520b57c6f38cc1e9823ce6", func := "loop.example/weakmemory/laws.FnExactCountRel", spec := "fnExactCountRel", unfollowed := true, recurses := true, apart := false, narrowed := true }
def FnExactCountRelUptoSaid : Prop := fnExactCountRelUptoRow.holds Try.pinned (OpenSpec.upto fnExactCountRelSpec)

/-- 'laws.FnExactFindCycle', WHERE WHAT IT READS IS OF BULK AT MOST 1048576: true; the input reads as it did. -/
def fnExactFindCycleUptoRow : OpenClaim := { program := "ytomckiglgnidaaa", sum := "a703728ae6dab6fc1c059853383effcd9f5ff2db53520b57c6f38cc1e9823ce6", func := "loop.example/weakmemory/laws.FnExactFindCycle", spec := "fnExactFindCycle", unfollowed := true, recurses := true, apart := false, narrowed := true }
def FnExactFindCycleUptoSaid : Prop := fnExactFindCycleUptoRow.holds Try.pinned (OpenSpec.upto fnExactFindCycleSpec)

end Rows
end Go.Proofs.Ytomckiglgnidaaa
