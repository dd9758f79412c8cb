/-
  No cell of these rows narrows 'for every input' (looked for: loops, veiled, ifaces, maps, wideKeys, modest, calm, conditions, laid).
  DERIVED. THE GIVEN ROWS OF THIS SEAT. 12 by the template 'for every input the law returns true; each argument reads behind the call as it read before'; 0 by the template 'total and deterministic' (their statements: YtlipcdceeapmgaaTotals.lean).
  GIVEN WITH THE SEED: the statements are not yours to turn. If you find one false, say at which input.
  Laid BY PROGRAM, IN A SANDBOX (cutbox-rows.mjs): the forced cells as the released guide's own fill.sh prints them over the translation 72a50f6d5f5826ef… (all of the seat's roots in one cut). By AI agents, Wed Nov 11 2026. No macro, syntax, notation, axiom, sorry.
-/
import Derived.Test.YtlipcdceeapmgaaChecked
import GoSem.Claim
import GoSem.ClaimJoined
import GoSem.ClaimMapViews
import Derived.JoinedTies
import Derived.KernelRfl
namespace Go.Proofs.Ytlipcdceeapmgaa
/- THE CELL 'sum', in the pinned program and in every row, IS THE sha256 OF THE DUMP (.gsa) THAT YtlipcdceeapmgaaProg.lean LOADS. Nothing in Lean hashes anything: it is a label: what it is worth is what the hold of that sum in a sandbox is worth. -/
noncomputable def Try.pinned : Pinned := { name := "ytlipcdceeapmgaa", sum := "72a50f6d5f5826efd052455d4d452f68a59c801755e5f32ff942c2d50d6fa9ba", checked := Try.checked }
namespace Rows
def none {H : Type} : Left H := { results := [], args := [] }

/-- 'laws.FnExactInstrValid': WHATEVER THE INPUT: true; the input reads as it did. -/
def fnExactInstrValidSpec : ChangeSpec := { name := "fnExactInstrValid", fn := fun _ => fun
  | [d] => { results := [.lit (.bool true)], args := [d] }
  | _ => none }
def fnExactInstrValidRow : OpenClaim := { program := "ytlipcdceeapmgaa", sum := "72a50f6d5f5826efd052455d4d452f68a59c801755e5f32ff942c2d50d6fa9ba", func := "loop.example/weakmemory/laws.FnExactInstrValid", spec := "fnExactInstrValid", apart := false }
def FnExactInstrValidSaid : Prop := fnExactInstrValidRow.holds Try.pinned (OpenSpec.ofChange fnExactInstrValidSpec)

/-- ITS FALSE NEIGHBOUR: 'it returns false'. Refute it at one input. -/
def fnExactInstrValidWrong : ChangeSpec := { name := "fnExactInstrValid", fn := fun _ => fun
  | [d] => { results := [.lit (.bool false)], args := [d] }
  | _ => none }
def FnExactInstrValidWrongFalsely : Prop := fnExactInstrValidRow.holds Try.pinned (OpenSpec.ofChange fnExactInstrValidWrong)

/-- 'laws.FnExactFormatInstr': WHATEVER THE INPUT: true; the input reads as it did. -/
def fnExactFormatInstrSpec : ChangeSpec := { name := "fnExactFormatInstr", fn := fun _ => fun
  | [d] => { results := [.lit (.bool true)], args := [d] }
  | _ => none }
def fnExactFormatInstrRow : OpenClaim := { program := "ytlipcdceeapmgaa", sum := "72a50f6d5f5826efd052455d4d452f68a59c801755e5f32ff942c2d50d6fa9ba", func := "loop.example/weakmemory/laws.FnExactFormatInstr", spec := "fnExactFormatInstr", recurses := true, apart := false }
def FnExactFormatInstrSaid : Prop := fnExactFormatInstrRow.holds Try.pinned (OpenSpec.ofChange fnExactFormatInstrSpec)

/-- ITS FALSE NEIGHBOUR: 'it returns false'. Refute it at one input. -/
def fnExactFormatInstrWrong : ChangeSpec := { name := "fnExactFormatInstr", fn := fun _ => fun
  | [d] => { results := [.lit (.bool false)], args := [d] }
  | _ => none }
def FnExactFormatInstrWrongFalsely : Prop := fnExactFormatInstrRow.holds Try.pinned (OpenSpec.ofChange fnExactFormatInstrWrong)

/-- 'laws.FnExactProgramSame': WHATEVER THE INPUT: true; the input reads as it did. -/
def fnExactProgramSameSpec : ChangeSpec := { name := "fnExactProgramSame", fn := fun _ => fun
  | [d1, d2] => { results := [.lit (.bool true)], args := [d1, d2] }
  | _ => none }
def fnExactProgramSameRow : OpenClaim := { program := "ytlipcdceeapmgaa", sum := "72a50f6d5f5826efd052455d4d452f68a59c801755e5f32ff942c2d50d6fa9ba", func := "loop.example/weakmemory/laws.FnExactProgramSame", spec := "fnExactProgramSame", unfollowed := true, recurses := true, apart := false }
def FnExactProgramSameSaid : Prop := fnExactProgramSameRow.holds Try.pinned (OpenSpec.ofChange fnExactProgramSameSpec)

/-- ITS FALSE NEIGHBOUR: 'it returns false'. Refute it at one input. -/
def fnExactProgramSameWrong : ChangeSpec := { name := "fnExactProgramSame", fn := fun _ => fun
  | [d1, d2] => { results := [.lit (.bool false)], args := [d1, d2] }
  | _ => none }
def FnExactProgramSameWrongFalsely : Prop := fnExactProgramSameRow.holds Try.pinned (OpenSpec.ofChange fnExactProgramSameWrong)

/-- 'laws.FnExactProgramValid': WHATEVER THE INPUT: true; the input reads as it did. -/
def fnExactProgramValidSpec : ChangeSpec := { name := "fnExactProgramValid", fn := fun _ => fun
  | [d] => { results := [.lit (.bool true)], args := [d] }
  | _ => none }
def fnExactProgramValidRow : OpenClaim := { program := "ytlipcdceeapmgaa", sum := "72a50f6d5f5826efd052455d4d452f68a59c801755e5f32ff942c2d50d6fa9ba", func := "loop.example/weakmemory/laws.FnExactProgramValid", spec := "fnExactProgramValid", unfollowed := true, recurses := true, apart := false }
def FnExactProgramValidSaid : Prop := fnExactProgramValidRow.holds Try.pinned (OpenSpec.ofChange fnExactProgramValidSpec)

/-- ITS FALSE NEIGHBOUR: 'it returns false'. Refute it at one input. -/
def fnExactProgramValidWrong : ChangeSpec := { name := "fnExactProgramValid", fn := fun _ => fun
  | [d] => { results := [.lit (.bool false)], args := [d] }
  | _ => none }
def FnExactProgramValidWrongFalsely : Prop := fnExactProgramValidRow.holds Try.pinned (OpenSpec.ofChange fnExactProgramValidWrong)

/-- 'laws.FnExactCountExecs': WHATEVER THE INPUT: true; the input reads as it did. -/
def fnExactCountExecsSpec : ChangeSpec := { name := "fnExactCountExecs", fn := fun _ => fun
  | [d] => { results := [.lit (.bool true)], args := [d] }
  | _ => none }
def fnExactCountExecsRow : OpenClaim := { program := "ytlipcdceeapmgaa", sum := "72a50f6d5f5826efd052455d4d452f68a59c801755e5f32ff942c2d50d6fa9ba", func := "loop.example/weakmemory/laws.FnExactCountExecs", spec := "fnExactCountExecs", unfollowed := true, recurses := true, apart := false }
def FnExactCountExecsSaid : Prop := fnExactCountExecsRow.holds Try.pinned (OpenSpec.ofChange fnExactCountExecsSpec)

/-- ITS FALSE NEIGHBOUR: 'it returns false'. Refute it at one input. -/
def fnExactCountExecsWrong : ChangeSpec := { name := "fnExactCountExecs", fn := fun _ => fun
  | [d] => { results := [.lit (.bool false)], args := [d] }
  | _ => none }
def FnExactCountExecsWrongFalsely : Prop := fnExactCountExecsRow.holds Try.pinned (OpenSpec.ofChange fnExactCountExecsWrong)

/-- 'laws.FnExactCountOps': WHATEVER THE INPUT: true; the input reads as it did. -/
def fnExactCountOpsSpec : ChangeSpec := { name := "fnExactCountOps", fn := fun _ => fun
  | [d1, d2] => { results := [.lit (.bool true)], args := [d1, d2] }
  | _ => none }
def fnExactCountOpsRow : OpenClaim := { program := "ytlipcdceeapmgaa", sum := "72a50f6d5f5826efd052455d4d452f68a59c801755e5f32ff942c2d50d6fa9ba", func := "loop.example/weakmemory/laws.FnExactCountOps", spec := "fnExactCountOps", unfollowed := true, recurses := true, apart := false }
def FnExactCountOpsSaid : Prop := fnExactCountOpsRow.holds Try.pinned (OpenSpec.ofChange fnExactCountOpsSpec)

/-- ITS FALSE NEIGHBOUR: 'it returns false'. Refute it at one input. -/
def fnExactCountOpsWrong : ChangeSpec := { name := "fnExactCountOps", fn := fun _ => fun
  | [d1, d2] => { results := [.lit (.bool false)], args := [d1, d2] }
  | _ => none }
def FnExactCountOpsWrongFalsely : Prop := fnExactCountOpsRow.holds Try.pinned (OpenSpec.ofChange fnExactCountOpsWrong)

/-- 'laws.FnExactCountSchedules': WHATEVER THE INPUT: true; the input reads as it did. -/
def fnExactCountSchedulesSpec : ChangeSpec := { name := "fnExactCountSchedules", fn := fun _ => fun
  | [d] => { results := [.lit (.bool true)], args := [d] }
  | _ => none }
def fnExactCountSchedulesRow : OpenClaim := { program := "ytlipcdceeapmgaa", sum := "72a50f6d5f5826efd052455d4d452f68a59c801755e5f32ff942c2d50d6fa9ba", func := "loop.example/weakmemory/laws.FnExactCountSchedules", spec := "fnExactCountSchedules", unfollowed := true, recurses := true, apart := false }
def FnExactCountSchedulesSaid : Prop := fnExactCountSchedulesRow.holds Try.pinned (OpenSpec.ofChange fnExactCountSchedulesSpec)

/-- ITS FALSE NEIGHBOUR: 'it returns false'. Refute it at one input. -/
def fnExactCountSchedulesWrong : ChangeSpec := { name := "fnExactCountSchedules", fn := fun _ => fun
  | [d] => { results := [.lit (.bool false)], args := [d] }
  | _ => none }
def FnExactCountSchedulesWrongFalsely : Prop := fnExactCountSchedulesRow.holds Try.pinned (OpenSpec.ofChange fnExactCountSchedulesWrong)

/-- 'laws.FnExactOutcomeValid': WHATEVER THE INPUT: true; the input reads as it did. -/
def fnExactOutcomeValidSpec : ChangeSpec := { name := "fnExactOutcomeValid", fn := fun _ => fun
  | [d1, d2] => { results := [.lit (.bool true)], args := [d1, d2] }
  | _ => none }
def fnExactOutcomeValidRow : OpenClaim := { program := "ytlipcdceeapmgaa", sum := "72a50f6d5f5826efd052455d4d452f68a59c801755e5f32ff942c2d50d6fa9ba", func := "loop.example/weakmemory/laws.FnExactOutcomeValid", spec := "fnExactOutcomeValid", unfollowed := true, recurses := true, apart := false }
def FnExactOutcomeValidSaid : Prop := fnExactOutcomeValidRow.holds Try.pinned (OpenSpec.ofChange fnExactOutcomeValidSpec)

/-- ITS FALSE NEIGHBOUR: 'it returns false'. Refute it at one input. -/
def fnExactOutcomeValidWrong : ChangeSpec := { name := "fnExactOutcomeValid", fn := fun _ => fun
  | [d1, d2] => { results := [.lit (.bool false)], args := [d1, d2] }
  | _ => none }
def FnExactOutcomeValidWrongFalsely : Prop := fnExactOutcomeValidRow.holds Try.pinned (OpenSpec.ofChange fnExactOutcomeValidWrong)

/-- 'laws.FnExactFormatOutcome': WHATEVER THE INPUT: true; the input reads as it did. -/
def fnExactFormatOutcomeSpec : ChangeSpec := { name := "fnExactFormatOutcome", fn := fun _ => fun
  | [d1, d2] => { results := [.lit (.bool true)], args := [d1, d2] }
  | _ => none }
def fnExactFormatOutcomeRow : OpenClaim := { program := "ytlipcdceeapmgaa", sum := "72a50f6d5f5826efd052455d4d452f68a59c801755e5f32ff942c2d50d6fa9ba", func := "loop.example/weakmemory/laws.FnExactFormatOutcome", spec := "fnExactFormatOutcome", inPlace := ["internal/abi.NoEscape"], unfollowed := true, recurses := true, apart := false }
def FnExactFormatOutcomeSaid : Prop := fnExactFormatOutcomeRow.holds Try.pinned (OpenSpec.ofChange fnExactFormatOutcomeSpec)

/-- ITS FALSE NEIGHBOUR: 'it returns false'. Refute it at one input. -/
def fnExactFormatOutcomeWrong : ChangeSpec := { name := "fnExactFormatOutcome", fn := fun _ => fun
  | [d1, d2] => { results := [.lit (.bool false)], args := [d1, d2] }
  | _ => none }
def FnExactFormatOutcomeWrongFalsely : Prop := fnExactFormatOutcomeRow.holds Try.pinned (OpenSpec.ofChange fnExactFormatOutcomeWrong)

/-- 'laws.FnExactFormatProgram': WHATEVER THE INPUT: true; the input reads as it did. -/
def fnExactFormatProgramSpec : ChangeSpec := { name := "fnExactFormatProgram", fn := fun _ => fun
  | [d] => { results := [.lit (.bool true)], args := [d] }
  | _ => none }
def fnExactFormatProgramRow : OpenClaim := { program := "ytlipcdceeapmgaa", sum := "72a50f6d5f5826efd052455d4d452f68a59c801755e5f32ff942c2d50d6fa9ba", func := "loop.example/weakmemory/laws.FnExactFormatProgram", spec := "fnExactFormatProgram", inPlace := ["internal/abi.NoEscape", "internal/bytealg.MakeNoZero"], unfollowed := true, recurses := true, apart := false }
def FnExactFormatProgramSaid : Prop := fnExactFormatProgramRow.holds Try.pinned (OpenSpec.ofChange fnExactFormatProgramSpec)

/-- ITS FALSE NEIGHBOUR: 'it returns false'. Refute it at one input. -/
def fnExactFormatProgramWrong : ChangeSpec := { name := "fnExactFormatProgram", fn := fun _ => fun
  | [d] => { results := [.lit (.bool false)], args := [d] }
  | _ => none }
def FnExactFormatProgramWrongFalsely : Prop := fnExactFormatProgramRow.holds Try.pinned (OpenSpec.ofChange fnExactFormatProgramWrong)

/-- 'laws.FnExactParseOutcome': WHATEVER THE INPUT: true; the input reads as it did. -/
def fnExactParseOutcomeSpec : ChangeSpec := { name := "fnExactParseOutcome", fn := fun _ => fun
  | [d1, d2] => { results := [.lit (.bool true)], args := [d1, d2] }
  | _ => none }
def fnExactParseOutcomeRow : OpenClaim := { program := "ytlipcdceeapmgaa", sum := "72a50f6d5f5826efd052455d4d452f68a59c801755e5f32ff942c2d50d6fa9ba", func := "loop.example/weakmemory/laws.FnExactParseOutcome", spec := "fnExactParseOutcome", inPlace := ["internal/abi.NoEscape"], unfollowed := true, recurses := true, apart := false }
def FnExactParseOutcomeSaid : Prop := fnExactParseOutcomeRow.holds Try.pinned (OpenSpec.ofChange fnExactParseOutcomeSpec)

/-- ITS FALSE NEIGHBOUR: 'it returns false'. Refute it at one input. -/
def fnExactParseOutcomeWrong : ChangeSpec := { name := "fnExactParseOutcome", fn := fun _ => fun
  | [d1, d2] => { results := [.lit (.bool false)], args := [d1, d2] }
  | _ => none }
def FnExactParseOutcomeWrongFalsely : Prop := fnExactParseOutcomeRow.holds Try.pinned (OpenSpec.ofChange fnExactParseOutcomeWrong)

/-- 'laws.FnExactLocsOf': WHATEVER THE INPUT: true; the input reads as it did. -/
def fnExactLocsOfSpec : ChangeSpec := { name := "fnExactLocsOf", fn := fun _ => fun
  | [d] => { results := [.lit (.bool true)], args := [d] }
  | _ => none }
def fnExactLocsOfRow : OpenClaim := { program := "ytlipcdceeapmgaa", sum := "72a50f6d5f5826efd052455d4d452f68a59c801755e5f32ff942c2d50d6fa9ba", func := "loop.example/weakmemory/laws.FnExactLocsOf", spec := "fnExactLocsOf", unfollowed := true, recurses := true, apart := false }
def FnExactLocsOfSaid : Prop := fnExactLocsOfRow.holds Try.pinned (OpenSpec.ofChange fnExactLocsOfSpec)

/-- ITS FALSE NEIGHBOUR: 'it returns false'. Refute it at one input. -/
def fnExactLocsOfWrong : ChangeSpec := { name := "fnExactLocsOf", fn := fun _ => fun
  | [d] => { results := [.lit (.bool false)], args := [d] }
  | _ => none }
def FnExactLocsOfWrongFalsely : Prop := fnExactLocsOfRow.holds Try.pinned (OpenSpec.ofChange fnExactLocsOfWrong)

/- THE SECOND FORM. 'bulk': how many values and letters a reading holds, each counted each time it is reached (what is shared counts as often as it is met; a slice's spare places count too). A statement '..UptoSaid' is the law's where the arguments, and the package variables that the reading takes, are together of bulk at most 1048576: NARROWER than '..Said'. Prove '..Said' where nothing that the law and all that it calls make is longer than what came in: it says more and counts as full. Else prove '..UptoSaid'. A law counts once. -/
mutual
def uptoBulk {H : Type} : DataW H → Nat
  | .lit (.string bytes) => bytes.length + 1
  | .lit _ => 1
  | .nil => 1
  | .ptr d => uptoBulk d + 1
  | .slice elems spare => uptoBulkAll elems + uptoBulkAll spare + 1
  | .agg parts => uptoBulkAll parts + 1
  | .iface _ d => uptoBulk d + 1
  | .map entries => uptoBulkEntries entries + 1
  | .held _ => 1
def uptoBulkAll {H : Type} : List (DataW H) → Nat
  | [] => 0
  | d :: r => uptoBulk d + uptoBulkAll r
def uptoBulkEntries {H : Type} : List (Lit × DataW H) → Nat
  | [] => 0
  | x :: r => uptoBulkEntry x + uptoBulkEntries r
def uptoBulkEntry {H : Type} : Lit × DataW H → Nat
  | (.string bytes, d) => bytes.length + uptoBulk d + 1
  | (_, d) => uptoBulk d + 1
 end
def uptoSmall : (H : Type) → List (DataW H) → Bool := fun _ ds => decide (uptoBulkAll ds ≤ 1048576)
def OpenSpec.upto (s : _root_.Go.ChangeSpec) : _root_.Go.OpenSpec := { _root_.Go.OpenSpec.ofChange s with cond := some uptoSmall }

/-- 'laws.FnExactInstrValid', WHERE WHAT IT READS IS OF BULK AT MOST 1048576: true; the input reads as it did. -/
def fnExactInstrValidUptoRow : OpenClaim := { program := "ytlipcdceeapmgaa", sum := "72a50f6d5f5826efd052455d4d452f68a59c801755e5f32ff942c2d50d6fa9ba", func := "loop.example/weakmemory/laws.FnExactInstrValid", spec := "fnExactInstrValid", apart := false, narrowed := true }
def FnExactInstrValidUptoSaid : Prop := fnExactInstrValidUptoRow.holds Try.pinned (OpenSpec.upto fnExactInstrValidSpec)

/-- 'laws.FnExactFormatInstr', WHERE WHAT IT READS IS OF BULK AT MOST 1048576: true; the input reads as it did. -/
def fnExactFormatInstrUptoRow : OpenClaim := { program := "ytlipcdceeapmgaa", sum := "72a50f6d5f5826efd052455d4d452f68a59c801755e5f32ff942c2d50d6fa9ba", func := "loop.example/weakmemory/laws.FnExactFormatInstr", spec := "fnExactFormatInstr", recurses := true, apart := false, narrowed := true }
def FnExactFormatInstrUptoSaid : Prop := fnExactFormatInstrUptoRow.holds Try.pinned (OpenSpec.upto fnExactFormatInstrSpec)

/-- 'laws.FnExactProgramSame', WHERE WHAT IT READS IS OF BULK AT MOST 1048576: true; the input reads as it did. -/
def fnExactProgramSameUptoRow : OpenClaim := { program := "ytlipcdceeapmgaa", sum := "72a50f6d5f5826efd052455d4d452f68a59c801755e5f32ff942c2d50d6fa9ba", func := "loop.example/weakmemory/laws.FnExactProgramSame", spec := "fnExactProgramSame", unfollowed := true, recurses := true, apart := false, narrowed := true }
def FnExactProgramSameUptoSaid : Prop := fnExactProgramSameUptoRow.holds Try.pinned (OpenSpec.upto fnExactProgramSameSpec)

/-- 'laws.FnExactProgramValid', WHERE WHAT IT READS IS OF BULK AT MOST 1048576: true; the input reads as it did. -/
def fnExactProgramValidUptoRow : OpenClaim := { program := "ytlipcdceeapmgaa", sum := "72a50f6d5f5826efd052455d4d452f68a59c801755e5f32ff942c2d50d6fa9ba", func := "loop.example/weakmemory/laws.FnExactProgramValid", spec := "fnExactProgramValid", unfollowed := true, recurses := true, apart := false, narrowed := true }
def FnExactProgramValidUptoSaid : Prop := fnExactProgramValidUptoRow.holds Try.pinned (OpenSpec.upto fnExactProgramValidSpec)

/-- 'laws.FnExactCountExecs', WHERE WHAT IT READS IS OF BULK AT MOST 1048576: true; the input reads as it did. -/
def fnExactCountExecsUptoRow : OpenClaim := { program := "ytlipcdceeapmgaa", sum := "72a50f6d5f5826efd052455d4d452f68a59c801755e5f32ff942c2d50d6fa9ba", func := "loop.example/weakmemory/laws.FnExactCountExecs", spec := "fnExactCountExecs", unfollowed := true, recurses := true, apart := false, narrowed := true }
def FnExactCountExecsUptoSaid : Prop := fnExactCountExecsUptoRow.holds Try.pinned (OpenSpec.upto fnExactCountExecsSpec)

/-- 'laws.FnExactCountOps', WHERE WHAT IT READS IS OF BULK AT MOST 1048576: true; the input reads as it did. -/
def fnExactCountOpsUptoRow : OpenClaim := { program := "ytlipcdceeapmgaa", sum := "72a50f6d5f5826efd052455d4d452f68a59c801755e5f32ff942c2d50d6fa9ba", func := "loop.example/weakmemory/laws.FnExactCountOps", spec := "fnExactCountOps", unfollowed := true, recurses := true, apart := false, narrowed := true }
def FnExactCountOpsUptoSaid : Prop := fnExactCountOpsUptoRow.holds Try.pinned (OpenSpec.upto fnExactCountOpsSpec)

/-- 'laws.FnExactCountSchedules', WHERE WHAT IT READS IS OF BULK AT MOST 1048576: true; the input reads as it did. -/
def fnExactCountSchedulesUptoRow : OpenClaim := { program := "ytlipcdceeapmgaa", sum := "72a50f6d5f5826efd052455d4d452f68a59c801755e5f32ff942c2d50d6fa9ba", func := "loop.example/weakmemory/laws.FnExactCountSchedules", spec := "fnExactCountSchedules", unfollowed := true, recurses := true, apart := false, narrowed := true }
def FnExactCountSchedulesUptoSaid : Prop := fnExactCountSchedulesUptoRow.holds Try.pinned (OpenSpec.upto fnExactCountSchedulesSpec)

/-- 'laws.FnExactOutcomeValid', WHERE WHAT IT READS IS OF BULK AT MOST 1048576: true; the input reads as it did. -/
def fnExactOutcomeValidUptoRow : OpenClaim := { program := "ytlipcdceeapmgaa", sum := "72a50f6d5f5826efd052455d4d452f68a59c801755e5f32ff942c2d50d6fa9ba", func := "loop.example/weakmemory/laws.FnExactOutcomeValid", spec := "fnExactOutcomeValid", unfollowed := true, recurses := true, apart := false, narrowed := true }
def FnExactOutcomeValidUptoSaid : Prop := fnExactOutcomeValidUptoRow.holds Try.pinned (OpenSpec.upto fnExactOutcomeValidSpec)

/-- 'laws.FnExactFormatOutcome', WHERE WHAT IT READS IS OF BULK AT MOST 1048576: true; the input reads as it did. -/
def fnExactFormatOutcomeUptoRow : OpenClaim := { program := "ytlipcdceeapmgaa", sum := "72a50f6d5f5826efd052455d4d452f68a59c801755e5f32ff942c2d50d6fa9ba", func := "loop.example/weakmemory/laws.FnExactFormatOutcome", spec := "fnExactFormatOutcome", inPlace := ["internal/abi.NoEscape"], unfollowed := true, recurses := true, apart := false, narrowed := true }
def FnExactFormatOutcomeUptoSaid : Prop := fnExactFormatOutcomeUptoRow.holds Try.pinned (OpenSpec.upto fnExactFormatOutcomeSpec)

/-- 'laws.FnExactFormatProgram', WHERE WHAT IT READS IS OF BULK AT MOST 1048576: true; the input reads as it did. -/
def fnExactFormatProgramUptoRow : OpenClaim := { program := "ytlipcdceeapmgaa", sum := "72a50f6d5f5826efd052455d4d452f68a59c801755e5f32ff942c2d50d6fa9ba", func := "loop.example/weakmemory/laws.FnExactFormatProgram", spec := "fnExactFormatProgram", inPlace := ["internal/abi.NoEscape", "internal/bytealg.MakeNoZero"], unfollowed := true, recurses := true, apart := false, narrowed := true }
def FnExactFormatProgramUptoSaid : Prop := fnExactFormatProgramUptoRow.holds Try.pinned (OpenSpec.upto fnExactFormatProgramSpec)

/-- 'laws.FnExactParseOutcome', WHERE WHAT IT READS IS OF BULK AT MOST 1048576: true; the input reads as it did. -/
def fnExactParseOutcomeUptoRow : OpenClaim := { program := "ytlipcdceeapmgaa", sum := "72a50f6d5f5826efd052455d4d452f68a59c801755e5f32ff942c2d50d6fa9ba", func := "loop.example/weakmemory/laws.FnExactParseOutcome", spec := "fnExactParseOutcome", inPlace := ["internal/abi.NoEscape"], unfollowed := true, recurses := true, apart := false, narrowed := true }
def FnExactParseOutcomeUptoSaid : Prop := fnExactParseOutcomeUptoRow.holds Try.pinned (OpenSpec.upto fnExactParseOutcomeSpec)

/-- 'laws.FnExactLocsOf', WHERE WHAT IT READS IS OF BULK AT MOST 1048576: true; the input reads as it did. -/
def fnExactLocsOfUptoRow : OpenClaim := { program := "ytlipcdceeapmgaa", sum := "72a50f6d5f5826efd052455d4d452f68a59c801755e5f32ff942c2d50d6fa9ba", func := "loop.example/weakmemory/laws.FnExactLocsOf", spec := "fnExactLocsOf", unfollowed := true, recurses := true, apart := false, narrowed := true }
def FnExactLocsOfUptoSaid : Prop := fnExactLocsOfUptoRow.holds Try.pinned (OpenSpec.upto fnExactLocsOfSpec)

end Rows
end Go.Proofs.Ytlipcdceeapmgaa
