/-
  No cell of these rows narrows 'for every input' (looked for: loops, veiled, ifaces, maps, wideKeys, modest, calm, conditions, laid).
  DERIVED. THE GIVEN ROWS OF THIS SEAT. 11 by the template 'for every input the law returns true; each argument reads behind the call as it read before'; 0 by the template 'total and deterministic' (their statements: YtdppidhnlbfpmaaTotals.lean).
  GIVEN WITH THE SEED: the statements are not yours to turn. If you find one false, say at which input.
  Laid BY PROGRAM, IN A SANDBOX (cutbox-rows.mjs): the forced cells as the released guide's own fill.sh prints them over the translation 92e3a68d59de187a… (all of the seat's roots in one cut). By AI agents, Wed Nov 11 2026. No macro, syntax, notation, axiom, sorry.
-/
import Derived.Test.YtdppidhnlbfpmaaChecked
import GoSem.Claim
import GoSem.ClaimJoined
import GoSem.ClaimMapViews
import Derived.JoinedTies
import Derived.KernelRfl
namespace Go.Proofs.Ytdppidhnlbfpmaa
/- THE CELL 'sum', in the pinned program and in every row, IS THE sha256 OF THE DUMP (.gsa) THAT YtdppidhnlbfpmaaProg.lean LOADS. Nothing in Lean hashes anything: it is a label: what it is worth is what the hold of that sum in a sandbox is worth. -/
noncomputable def Try.pinned : Pinned := { name := "ytdppidhnlbfpmaa", sum := "92e3a68d59de187ab0287aafa6d884baefef267237826047e26fb4d54a09ce9b", checked := Try.checked }
namespace Rows
def none {H : Type} : Left H := { results := [], args := [] }

/-- 'laws.FnComposeThree': WHATEVER THE INPUT: true; the input reads as it did. -/
def fnComposeThreeSpec : ChangeSpec := { name := "fnComposeThree", fn := fun _ => fun
  | [d1, d2] => { results := [.lit (.bool true)], args := [d1, d2] }
  | _ => none }
def fnComposeThreeRow : OpenClaim := { program := "ytdppidhnlbfpmaa", sum := "92e3a68d59de187ab0287aafa6d884baefef267237826047e26fb4d54a09ce9b", func := "loop.example/weakmemory/laws.FnComposeThree", spec := "fnComposeThree", unfollowed := true, recurses := true, apart := false }
def FnComposeThreeSaid : Prop := fnComposeThreeRow.holds Try.pinned (OpenSpec.ofChange fnComposeThreeSpec)

/-- ITS FALSE NEIGHBOUR: 'it returns false'. Refute it at one input. -/
def fnComposeThreeWrong : ChangeSpec := { name := "fnComposeThree", fn := fun _ => fun
  | [d1, d2] => { results := [.lit (.bool false)], args := [d1, d2] }
  | _ => none }
def FnComposeThreeWrongFalsely : Prop := fnComposeThreeRow.holds Try.pinned (OpenSpec.ofChange fnComposeThreeWrong)

/-- 'laws.FnMeetRel': WHATEVER THE INPUT: true; the input reads as it did. -/
def fnMeetRelSpec : ChangeSpec := { name := "fnMeetRel", fn := fun _ => fun
  | [d] => { results := [.lit (.bool true)], args := [d] }
  | _ => none }
def fnMeetRelRow : OpenClaim := { program := "ytdppidhnlbfpmaa", sum := "92e3a68d59de187ab0287aafa6d884baefef267237826047e26fb4d54a09ce9b", func := "loop.example/weakmemory/laws.FnMeetRel", spec := "fnMeetRel", unfollowed := true, recurses := true, apart := false }
def FnMeetRelSaid : Prop := fnMeetRelRow.holds Try.pinned (OpenSpec.ofChange fnMeetRelSpec)

/-- ITS FALSE NEIGHBOUR: 'it returns false'. Refute it at one input. -/
def fnMeetRelWrong : ChangeSpec := { name := "fnMeetRel", fn := fun _ => fun
  | [d] => { results := [.lit (.bool false)], args := [d] }
  | _ => none }
def FnMeetRelWrongFalsely : Prop := fnMeetRelRow.holds Try.pinned (OpenSpec.ofChange fnMeetRelWrong)

/-- 'laws.FnComposeRel': WHATEVER THE INPUT: true; the input reads as it did. -/
def fnComposeRelSpec : ChangeSpec := { name := "fnComposeRel", fn := fun _ => fun
  | [d1, d2] => { results := [.lit (.bool true)], args := [d1, d2] }
  | _ => none }
def fnComposeRelRow : OpenClaim := { program := "ytdppidhnlbfpmaa", sum := "92e3a68d59de187ab0287aafa6d884baefef267237826047e26fb4d54a09ce9b", func := "loop.example/weakmemory/laws.FnComposeRel", spec := "fnComposeRel", unfollowed := true, recurses := true, apart := false }
def FnComposeRelSaid : Prop := fnComposeRelRow.holds Try.pinned (OpenSpec.ofChange fnComposeRelSpec)

/-- ITS FALSE NEIGHBOUR: 'it returns false'. Refute it at one input. -/
def fnComposeRelWrong : ChangeSpec := { name := "fnComposeRel", fn := fun _ => fun
  | [d1, d2] => { results := [.lit (.bool false)], args := [d1, d2] }
  | _ => none }
def FnComposeRelWrongFalsely : Prop := fnComposeRelRow.holds Try.pinned (OpenSpec.ofChange fnComposeRelWrong)

/-- 'laws.FnClosureRel': WHATEVER THE INPUT: true; the input reads as it did. -/
def fnClosureRelSpec : ChangeSpec := { name := "fnClosureRel", fn := fun _ => fun
  | [d1, d2] => { results := [.lit (.bool true)], args := [d1, d2] }
  | _ => none }
def fnClosureRelRow : OpenClaim := { program := "ytdppidhnlbfpmaa", sum := "92e3a68d59de187ab0287aafa6d884baefef267237826047e26fb4d54a09ce9b", func := "loop.example/weakmemory/laws.FnClosureRel", spec := "fnClosureRel", unfollowed := true, recurses := true, apart := false }
def FnClosureRelSaid : Prop := fnClosureRelRow.holds Try.pinned (OpenSpec.ofChange fnClosureRelSpec)

/-- ITS FALSE NEIGHBOUR: 'it returns false'. Refute it at one input. -/
def fnClosureRelWrong : ChangeSpec := { name := "fnClosureRel", fn := fun _ => fun
  | [d1, d2] => { results := [.lit (.bool false)], args := [d1, d2] }
  | _ => none }
def FnClosureRelWrongFalsely : Prop := fnClosureRelRow.holds Try.pinned (OpenSpec.ofChange fnClosureRelWrong)

/-- 'laws.FnAcyclicRel': WHATEVER THE INPUT: true; the input reads as it did. -/
def fnAcyclicRelSpec : ChangeSpec := { name := "fnAcyclicRel", fn := fun _ => fun
  | [d1, d2] => { results := [.lit (.bool true)], args := [d1, d2] }
  | _ => none }
def fnAcyclicRelRow : OpenClaim := { program := "ytdppidhnlbfpmaa", sum := "92e3a68d59de187ab0287aafa6d884baefef267237826047e26fb4d54a09ce9b", func := "loop.example/weakmemory/laws.FnAcyclicRel", spec := "fnAcyclicRel", unfollowed := true, recurses := true, apart := false }
def FnAcyclicRelSaid : Prop := fnAcyclicRelRow.holds Try.pinned (OpenSpec.ofChange fnAcyclicRelSpec)

/-- ITS FALSE NEIGHBOUR: 'it returns false'. Refute it at one input. -/
def fnAcyclicRelWrong : ChangeSpec := { name := "fnAcyclicRel", fn := fun _ => fun
  | [d1, d2] => { results := [.lit (.bool false)], args := [d1, d2] }
  | _ => none }
def FnAcyclicRelWrongFalsely : Prop := fnAcyclicRelRow.holds Try.pinned (OpenSpec.ofChange fnAcyclicRelWrong)

/-- 'laws.FnClosureUnion': WHATEVER THE INPUT: true; the input reads as it did. -/
def fnClosureUnionSpec : ChangeSpec := { name := "fnClosureUnion", fn := fun _ => fun
  | [d1, d2] => { results := [.lit (.bool true)], args := [d1, d2] }
  | _ => none }
def fnClosureUnionRow : OpenClaim := { program := "ytdppidhnlbfpmaa", sum := "92e3a68d59de187ab0287aafa6d884baefef267237826047e26fb4d54a09ce9b", func := "loop.example/weakmemory/laws.FnClosureUnion", spec := "fnClosureUnion", unfollowed := true, recurses := true, apart := false }
def FnClosureUnionSaid : Prop := fnClosureUnionRow.holds Try.pinned (OpenSpec.ofChange fnClosureUnionSpec)

/-- ITS FALSE NEIGHBOUR: 'it returns false'. Refute it at one input. -/
def fnClosureUnionWrong : ChangeSpec := { name := "fnClosureUnion", fn := fun _ => fun
  | [d1, d2] => { results := [.lit (.bool false)], args := [d1, d2] }
  | _ => none }
def FnClosureUnionWrongFalsely : Prop := fnClosureUnionRow.holds Try.pinned (OpenSpec.ofChange fnClosureUnionWrong)

/-- 'laws.FnMinusRel': WHATEVER THE INPUT: true; the input reads as it did. -/
def fnMinusRelSpec : ChangeSpec := { name := "fnMinusRel", fn := fun _ => fun
  | [d] => { results := [.lit (.bool true)], args := [d] }
  | _ => none }
def fnMinusRelRow : OpenClaim := { program := "ytdppidhnlbfpmaa", sum := "92e3a68d59de187ab0287aafa6d884baefef267237826047e26fb4d54a09ce9b", func := "loop.example/weakmemory/laws.FnMinusRel", spec := "fnMinusRel", unfollowed := true, recurses := true, apart := false }
def FnMinusRelSaid : Prop := fnMinusRelRow.holds Try.pinned (OpenSpec.ofChange fnMinusRelSpec)

/-- ITS FALSE NEIGHBOUR: 'it returns false'. Refute it at one input. -/
def fnMinusRelWrong : ChangeSpec := { name := "fnMinusRel", fn := fun _ => fun
  | [d] => { results := [.lit (.bool false)], args := [d] }
  | _ => none }
def FnMinusRelWrongFalsely : Prop := fnMinusRelRow.holds Try.pinned (OpenSpec.ofChange fnMinusRelWrong)

/-- 'laws.FnInverseRel': WHATEVER THE INPUT: true; the input reads as it did. -/
def fnInverseRelSpec : ChangeSpec := { name := "fnInverseRel", fn := fun _ => fun
  | [d] => { results := [.lit (.bool true)], args := [d] }
  | _ => none }
def fnInverseRelRow : OpenClaim := { program := "ytdppidhnlbfpmaa", sum := "92e3a68d59de187ab0287aafa6d884baefef267237826047e26fb4d54a09ce9b", func := "loop.example/weakmemory/laws.FnInverseRel", spec := "fnInverseRel", unfollowed := true, recurses := true, apart := false }
def FnInverseRelSaid : Prop := fnInverseRelRow.holds Try.pinned (OpenSpec.ofChange fnInverseRelSpec)

/-- ITS FALSE NEIGHBOUR: 'it returns false'. Refute it at one input. -/
def fnInverseRelWrong : ChangeSpec := { name := "fnInverseRel", fn := fun _ => fun
  | [d] => { results := [.lit (.bool false)], args := [d] }
  | _ => none }
def FnInverseRelWrongFalsely : Prop := fnInverseRelRow.holds Try.pinned (OpenSpec.ofChange fnInverseRelWrong)

/-- 'laws.FnWithinRel': WHATEVER THE INPUT: true; the input reads as it did. -/
def fnWithinRelSpec : ChangeSpec := { name := "fnWithinRel", fn := fun _ => fun
  | [d] => { results := [.lit (.bool true)], args := [d] }
  | _ => none }
def fnWithinRelRow : OpenClaim := { program := "ytdppidhnlbfpmaa", sum := "92e3a68d59de187ab0287aafa6d884baefef267237826047e26fb4d54a09ce9b", func := "loop.example/weakmemory/laws.FnWithinRel", spec := "fnWithinRel", unfollowed := true, recurses := true, apart := false }
def FnWithinRelSaid : Prop := fnWithinRelRow.holds Try.pinned (OpenSpec.ofChange fnWithinRelSpec)

/-- ITS FALSE NEIGHBOUR: 'it returns false'. Refute it at one input. -/
def fnWithinRelWrong : ChangeSpec := { name := "fnWithinRel", fn := fun _ => fun
  | [d] => { results := [.lit (.bool false)], args := [d] }
  | _ => none }
def FnWithinRelWrongFalsely : Prop := fnWithinRelRow.holds Try.pinned (OpenSpec.ofChange fnWithinRelWrong)

/-- 'laws.FnUnionRel': WHATEVER THE INPUT: true; the input reads as it did. -/
def fnUnionRelSpec : ChangeSpec := { name := "fnUnionRel", fn := fun _ => fun
  | [d] => { results := [.lit (.bool true)], args := [d] }
  | _ => none }
def fnUnionRelRow : OpenClaim := { program := "ytdppidhnlbfpmaa", sum := "92e3a68d59de187ab0287aafa6d884baefef267237826047e26fb4d54a09ce9b", func := "loop.example/weakmemory/laws.FnUnionRel", spec := "fnUnionRel", unfollowed := true, recurses := true, apart := false }
def FnUnionRelSaid : Prop := fnUnionRelRow.holds Try.pinned (OpenSpec.ofChange fnUnionRelSpec)

/-- ITS FALSE NEIGHBOUR: 'it returns false'. Refute it at one input. -/
def fnUnionRelWrong : ChangeSpec := { name := "fnUnionRel", fn := fun _ => fun
  | [d] => { results := [.lit (.bool false)], args := [d] }
  | _ => none }
def FnUnionRelWrongFalsely : Prop := fnUnionRelRow.holds Try.pinned (OpenSpec.ofChange fnUnionRelWrong)

/-- 'laws.FnFindCycle': WHATEVER THE INPUT: true; the input reads as it did. -/
def fnFindCycleSpec : ChangeSpec := { name := "fnFindCycle", fn := fun _ => fun
  | [d] => { results := [.lit (.bool true)], args := [d] }
  | _ => none }
def fnFindCycleRow : OpenClaim := { program := "ytdppidhnlbfpmaa", sum := "92e3a68d59de187ab0287aafa6d884baefef267237826047e26fb4d54a09ce9b", func := "loop.example/weakmemory/laws.FnFindCycle", spec := "fnFindCycle", unfollowed := true, recurses := true, apart := false }
def FnFindCycleSaid : Prop := fnFindCycleRow.holds Try.pinned (OpenSpec.ofChange fnFindCycleSpec)

/-- ITS FALSE NEIGHBOUR: 'it returns false'. Refute it at one input. -/
def fnFindCycleWrong : ChangeSpec := { name := "fnFindCycle", fn := fun _ => fun
  | [d] => { results := [.lit (.bool false)], args := [d] }
  | _ => none }
def FnFindCycleWrongFalsely : Prop := fnFindCycleRow.holds Try.pinned (OpenSpec.ofChange fnFindCycleWrong)

/- THE SECOND FORM. 'bulk': how many values and letters a reading holds, each counted each time it is reached (what is shared counts as often as it is met; a slice's spare places count too). A statement '..UptoSaid' is the law's where the arguments, and the package variables that the reading takes, are together of bulk at most 1048576: NARROWER than '..Said'. Prove '..Said' where nothing that the law and all that it calls make is longer than what came in: it says more and counts as full. Else prove '..UptoSaid'. A law counts once. -/
mutual
def uptoBulk {H : Type} : DataW H → Nat
  | .lit (.string bytes) => bytes.length + 1
  | .lit _ => 1
  | .nil => 1
  | .ptr d => uptoBulk d + 1
  | .slice elems spare => uptoBulkAll elems + uptoBulkAll spare + 1
  | .agg parts => uptoBulkAll parts + 1
  | .iface _ d => uptoBulk d + 1
  | .map entries => uptoBulkEntries entries + 1
  | .held _ => 1
def uptoBulkAll {H : Type} : List (DataW H) → Nat
  | [] => 0
  | d :: r => uptoBulk d + uptoBulkAll r
def uptoBulkEntries {H : Type} : List (Lit × DataW H) → Nat
  | [] => 0
  | x :: r => uptoBulkEntry x + uptoBulkEntries r
def uptoBulkEntry {H : Type} : Lit × DataW H → Nat
  | (.string bytes, d) => bytes.length + uptoBulk d + 1
  | (_, d) => uptoBulk d + 1
 end
def uptoSmall : (H : Type) → List (DataW H) → Bool := fun _ ds => decide (uptoBulkAll ds ≤ 1048576)
def OpenSpec.upto (s : _root_.Go.ChangeSpec) : _root_.Go.OpenSpec := { _root_.Go.OpenSpec.ofChange s with cond := some uptoSmall }

/-- 'laws.FnComposeThree', WHERE WHAT IT READS IS OF BULK AT MOST 1048576: true; the input reads as it did. -/
def fnComposeThreeUptoRow : OpenClaim := { program := "ytdppidhnlbfpmaa", sum := "92e3a68d59de187ab0287aafa6d884baefef267237826047e26fb4d54a09ce9b", func := "loop.example/weakmemory/laws.FnComposeThree", spec := "fnComposeThree", unfollowed := true, recurses := true, apart := false, narrowed := true }
def FnComposeThreeUptoSaid : Prop := fnComposeThreeUptoRow.holds Try.pinned (OpenSpec.upto fnComposeThreeSpec)

/-- 'laws.FnMeetRel', WHERE WHAT IT READS IS OF BULK AT MOST 1048576: true; the input reads as it did. -/
def fnMeetRelUptoRow : OpenClaim := { program := "ytdppidhnlbfpmaa", sum := "92e3a68d59de187ab0287aafa6d884baefef267237826047e26fb4d54a09ce9b", func := "loop.example/weakmemory/laws.FnMeetRel", spec := "fnMeetRel", unfollowed := true, recurses := true, apart := false, narrowed := true }
def FnMeetRelUptoSaid : Prop := fnMeetRelUptoRow.holds Try.pinned (OpenSpec.upto fnMeetRelSpec)

/-- 'laws.FnComposeRel', WHERE WHAT IT READS IS OF BULK AT MOST 1048576: true; the input reads as it did. -/
def fnComposeRelUptoRow : OpenClaim := { program := "ytdppidhnlbfpmaa", sum := "92e3a68d59de187ab0287aafa6d884baefef267237826047e26fb4d54a09ce9b", func := "loop.example/weakmemory/laws.FnComposeRel", spec := "fnComposeRel", unfollowed := true, recurses := true, apart := false, narrowed := true }
def FnComposeRelUptoSaid : Prop := fnComposeRelUptoRow.holds Try.pinned (OpenSpec.upto fnComposeRelSpec)

/-- 'laws.FnClosureRel', WHERE WHAT IT READS IS OF BULK AT MOST 1048576: true; the input reads as it did. -/
def fnClosureRelUptoRow : OpenClaim := { program := "ytdppidhnlbfpmaa", sum := "92e3a68d59de187ab0287aafa6d884baefef267237826047e26fb4d54a09ce9b", func := "loop.example/weakmemory/laws.FnClosureRel", spec := "fnClosureRel", unfollowed := true, recurses := true, apart := false, narrowed := true }
def FnClosureRelUptoSaid : Prop := fnClosureRelUptoRow.holds Try.pinned (OpenSpec.upto fnClosureRelSpec)

/-- 'laws.FnAcyclicRel', WHERE WHAT IT READS IS OF BULK AT MOST 1048576: true; the input reads as it did. -/
def fnAcyclicRelUptoRow : OpenClaim := { program := "ytdppidhnlbfpmaa", sum := "92e3a68d59de187ab0287aafa6d884baefef267237826047e26fb4d54a09ce9b", func := "loop.example/weakmemory/laws.FnAcyclicRel", spec := "fnAcyclicRel", unfollowed := true, recurses := true, apart := false, narrowed := true }
def FnAcyclicRelUptoSaid : Prop := fnAcyclicRelUptoRow.holds Try.pinned (OpenSpec.upto fnAcyclicRelSpec)

/-- 'laws.FnClosureUnion', WHERE WHAT IT READS IS OF BULK AT MOST 1048576: true; the input reads as it did. -/
def fnClosureUnionUptoRow : OpenClaim := { program := "ytdppidhnlbfpmaa", sum := "92e3a68d59de187ab0287aafa6d884baefef267237826047e26fb4d54a09ce9b", func := "loop.example/weakmemory/laws.FnClosureUnion", spec := "fnClosureUnion", unfollowed := true, recurses := true, apart := false, narrowed := true }
def FnClosureUnionUptoSaid : Prop := fnClosureUnionUptoRow.holds Try.pinned (OpenSpec.upto fnClosureUnionSpec)

/-- 'laws.FnMinusRel', WHERE WHAT IT READS IS OF BULK AT MOST 1048576: true; the input reads as it did. -/
def fnMinusRelUptoRow : OpenClaim := { program := "ytdppidhnlbfpmaa", sum := "92e3a68d59de187ab0287aafa6d884baefef267237826047e26fb4d54a09ce9b", func := "loop.example/weakmemory/laws.FnMinusRel", spec := "fnMinusRel", unfollowed := true, recurses := true, apart := false, narrowed := true }
def FnMinusRelUptoSaid : Prop := fnMinusRelUptoRow.holds Try.pinned (OpenSpec.upto fnMinusRelSpec)

/-- 'laws.FnInverseRel', WHERE WHAT IT READS IS OF BULK AT MOST 1048576: true; the input reads as it did. -/
def fnInverseRelUptoRow : OpenClaim := { program := "ytdppidhnlbfpmaa", sum := "92e3a68d59de187ab0287aafa6d884baefef267237826047e26fb4d54a09ce9b", func := "loop.example/weakmemory/laws.FnInverseRel", spec := "fnInverseRel", unfollowed := true, recurses := true, apart := false, narrowed := true }
def FnInverseRelUptoSaid : Prop := fnInverseRelUptoRow.holds Try.pinned (OpenSpec.upto fnInverseRelSpec)

/-- 'laws.FnWithinRel', WHERE WHAT IT READS IS OF BULK AT MOST 1048576: true; the input reads as it did. -/
def fnWithinRelUptoRow : OpenClaim := { program := "ytdppidhnlbfpmaa", sum := "92e3a68d59de187ab0287aafa6d884baefef267237826047e26fb4d54a09ce9b", func := "loop.example/weakmemory/laws.FnWithinRel", spec := "fnWithinRel", unfollowed := true, recurses := true, apart := false, narrowed := true }
def FnWithinRelUptoSaid : Prop := fnWithinRelUptoRow.holds Try.pinned (OpenSpec.upto fnWithinRelSpec)

/-- 'laws.FnUnionRel', WHERE WHAT IT READS IS OF BULK AT MOST 1048576: true; the input reads as it did. -/
def fnUnionRelUptoRow : OpenClaim := { program := "ytdppidhnlbfpmaa", sum := "92e3a68d59de187ab0287aafa6d884baefef267237826047e26fb4d54a09ce9b", func := "loop.example/weakmemory/laws.FnUnionRel", spec := "fnUnionRel", unfollowed := true, recurses := true, apart := false, narrowed := true }
def FnUnionRelUptoSaid : Prop := fnUnionRelUptoRow.holds Try.pinned (OpenSpec.upto fnUnionRelSpec)

/-- 'laws.FnFindCycle', WHERE WHAT IT READS IS OF BULK AT MOST 1048576: true; the input reads as it did. -/
def fnFindCycleUptoRow : OpenClaim := { program := "ytdppidhnlbfpmaa", sum := "92e3a68d59de187ab0287aafa6d884baefef267237826047e26fb4d54a09ce9b", func := "loop.example/weakmemory/laws.FnFindCycle", spec := "fnFindCycle", unfollowed := true, recurses := true, apart := false, narrowed := true }
def FnFindCycleUptoSaid : Prop := fnFindCycleUptoRow.holds Try.pinned (OpenSpec.upto fnFindCycleSpec)

end Rows
end Go.Proofs.Ytdppidhnlbfpmaa
