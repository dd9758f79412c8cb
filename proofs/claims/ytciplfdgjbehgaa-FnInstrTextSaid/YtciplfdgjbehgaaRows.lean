/-
  No cell of these rows narrows 'for every input' (looked for: loops, veiled, ifaces, maps, wideKeys, modest, calm, conditions, laid).
  DERIVED. THE GIVEN ROWS OF THIS SEAT. 9 by the template 'for every input the law returns true; each argument reads behind the call as it read before'; 0 by the template 'total and deterministic' (their statements: YtciplfdgjbehgaaTotals.lean).
  GIVEN WITH THE SEED: the statements are not yours to turn. If you find one false, say at which input.
  Laid BY PROGRAM, IN A SANDBOX (cutbox-rows.mjs): the forced cells as the released guide's own fill.sh prints them over the translation a12706cfa77f7a0d… (all of the seat's roots in one cut). By AI agents, Wed Nov 11 2026. No macro, syntax, notation, axiom, sorry.
-/
import Derived.Test.YtciplfdgjbehgaaChecked
import GoSem.Claim
import GoSem.ClaimJoined
import GoSem.ClaimMapViews
import Derived.JoinedTies
import Derived.KernelRfl
namespace Go.Proofs.Ytciplfdgjbehgaa
/- THE CELL 'sum', in the pinned program and in every row, IS THE sha256 OF THE DUMP (.gsa) THAT YtciplfdgjbehgaaProg.lean LOADS. Nothing in Lean hashes anything: it is a label: what it is worth is what the hold of that sum in a sandbox is worth. -/
noncomputable def Try.pinned : Pinned := { name := "ytciplfdgjbehgaa", sum := "a12706cfa77f7a0d57b8718bf288c176b83c97a8dfa760986d824d4f35c2e4d3", checked := Try.checked }
namespace Rows
def none {H : Type} : Left H := { results := [], args := [] }

/-- 'laws.FnInstrText': WHATEVER THE INPUT: true; the input reads as it did. -/
def fnInstrTextSpec : ChangeSpec := { name := "fnInstrText", fn := fun _ => fun
  | [d1, d2] => { results := [.lit (.bool true)], args := [d1, d2] }
  | _ => none }
def fnInstrTextRow : OpenClaim := { program := "ytciplfdgjbehgaa", sum := "a12706cfa77f7a0d57b8718bf288c176b83c97a8dfa760986d824d4f35c2e4d3", func := "loop.example/weakmemory/laws.FnInstrText", spec := "fnInstrText", recurses := true, apart := false }
def FnInstrTextSaid : Prop := fnInstrTextRow.holds Try.pinned (OpenSpec.ofChange fnInstrTextSpec)

/-- ITS FALSE NEIGHBOUR: 'it returns false'. Refute it at one input. -/
def fnInstrTextWrong : ChangeSpec := { name := "fnInstrText", fn := fun _ => fun
  | [d1, d2] => { results := [.lit (.bool false)], args := [d1, d2] }
  | _ => none }
def FnInstrTextWrongFalsely : Prop := fnInstrTextRow.holds Try.pinned (OpenSpec.ofChange fnInstrTextWrong)

/-- 'laws.FnInstrAlone': WHATEVER THE INPUT: true; the input reads as it did. -/
def fnInstrAloneSpec : ChangeSpec := { name := "fnInstrAlone", fn := fun _ => fun
  | [d] => { results := [.lit (.bool true)], args := [d] }
  | _ => none }
def fnInstrAloneRow : OpenClaim := { program := "ytciplfdgjbehgaa", sum := "a12706cfa77f7a0d57b8718bf288c176b83c97a8dfa760986d824d4f35c2e4d3", func := "loop.example/weakmemory/laws.FnInstrAlone", spec := "fnInstrAlone", inPlace := ["internal/abi.NoEscape", "internal/bytealg.MakeNoZero"], unfollowed := true, recurses := true, apart := false }
def FnInstrAloneSaid : Prop := fnInstrAloneRow.holds Try.pinned (OpenSpec.ofChange fnInstrAloneSpec)

/-- ITS FALSE NEIGHBOUR: 'it returns false'. Refute it at one input. -/
def fnInstrAloneWrong : ChangeSpec := { name := "fnInstrAlone", fn := fun _ => fun
  | [d] => { results := [.lit (.bool false)], args := [d] }
  | _ => none }
def FnInstrAloneWrongFalsely : Prop := fnInstrAloneRow.holds Try.pinned (OpenSpec.ofChange fnInstrAloneWrong)

/-- 'laws.FnCountExecs': WHATEVER THE INPUT: true; the input reads as it did. -/
def fnCountExecsSpec : ChangeSpec := { name := "fnCountExecs", fn := fun _ => fun
  | [d] => { results := [.lit (.bool true)], args := [d] }
  | _ => none }
def fnCountExecsRow : OpenClaim := { program := "ytciplfdgjbehgaa", sum := "a12706cfa77f7a0d57b8718bf288c176b83c97a8dfa760986d824d4f35c2e4d3", func := "loop.example/weakmemory/laws.FnCountExecs", spec := "fnCountExecs", unfollowed := true, recurses := true, apart := false }
def FnCountExecsSaid : Prop := fnCountExecsRow.holds Try.pinned (OpenSpec.ofChange fnCountExecsSpec)

/-- ITS FALSE NEIGHBOUR: 'it returns false'. Refute it at one input. -/
def fnCountExecsWrong : ChangeSpec := { name := "fnCountExecs", fn := fun _ => fun
  | [d] => { results := [.lit (.bool false)], args := [d] }
  | _ => none }
def FnCountExecsWrongFalsely : Prop := fnCountExecsRow.holds Try.pinned (OpenSpec.ofChange fnCountExecsWrong)

/-- 'laws.FnProgramThreads': WHATEVER THE INPUT: true; the input reads as it did. -/
def fnProgramThreadsSpec : ChangeSpec := { name := "fnProgramThreads", fn := fun _ => fun
  | [d] => { results := [.lit (.bool true)], args := [d] }
  | _ => none }
def fnProgramThreadsRow : OpenClaim := { program := "ytciplfdgjbehgaa", sum := "a12706cfa77f7a0d57b8718bf288c176b83c97a8dfa760986d824d4f35c2e4d3", func := "loop.example/weakmemory/laws.FnProgramThreads", spec := "fnProgramThreads", unfollowed := true, recurses := true, apart := false }
def FnProgramThreadsSaid : Prop := fnProgramThreadsRow.holds Try.pinned (OpenSpec.ofChange fnProgramThreadsSpec)

/-- ITS FALSE NEIGHBOUR: 'it returns false'. Refute it at one input. -/
def fnProgramThreadsWrong : ChangeSpec := { name := "fnProgramThreads", fn := fun _ => fun
  | [d] => { results := [.lit (.bool false)], args := [d] }
  | _ => none }
def FnProgramThreadsWrongFalsely : Prop := fnProgramThreadsRow.holds Try.pinned (OpenSpec.ofChange fnProgramThreadsWrong)

/-- 'laws.FnCountOps': WHATEVER THE INPUT: true; the input reads as it did. -/
def fnCountOpsSpec : ChangeSpec := { name := "fnCountOps", fn := fun _ => fun
  | [d] => { results := [.lit (.bool true)], args := [d] }
  | _ => none }
def fnCountOpsRow : OpenClaim := { program := "ytciplfdgjbehgaa", sum := "a12706cfa77f7a0d57b8718bf288c176b83c97a8dfa760986d824d4f35c2e4d3", func := "loop.example/weakmemory/laws.FnCountOps", spec := "fnCountOps", unfollowed := true, recurses := true, apart := false }
def FnCountOpsSaid : Prop := fnCountOpsRow.holds Try.pinned (OpenSpec.ofChange fnCountOpsSpec)

/-- ITS FALSE NEIGHBOUR: 'it returns false'. Refute it at one input. -/
def fnCountOpsWrong : ChangeSpec := { name := "fnCountOps", fn := fun _ => fun
  | [d] => { results := [.lit (.bool false)], args := [d] }
  | _ => none }
def FnCountOpsWrongFalsely : Prop := fnCountOpsRow.holds Try.pinned (OpenSpec.ofChange fnCountOpsWrong)

/-- 'laws.FnCountSchedules': WHATEVER THE INPUT: true; the input reads as it did. -/
def fnCountSchedulesSpec : ChangeSpec := { name := "fnCountSchedules", fn := fun _ => fun
  | [d] => { results := [.lit (.bool true)], args := [d] }
  | _ => none }
def fnCountSchedulesRow : OpenClaim := { program := "ytciplfdgjbehgaa", sum := "a12706cfa77f7a0d57b8718bf288c176b83c97a8dfa760986d824d4f35c2e4d3", func := "loop.example/weakmemory/laws.FnCountSchedules", spec := "fnCountSchedules", unfollowed := true, recurses := true, apart := false }
def FnCountSchedulesSaid : Prop := fnCountSchedulesRow.holds Try.pinned (OpenSpec.ofChange fnCountSchedulesSpec)

/-- ITS FALSE NEIGHBOUR: 'it returns false'. Refute it at one input. -/
def fnCountSchedulesWrong : ChangeSpec := { name := "fnCountSchedules", fn := fun _ => fun
  | [d] => { results := [.lit (.bool false)], args := [d] }
  | _ => none }
def FnCountSchedulesWrongFalsely : Prop := fnCountSchedulesRow.holds Try.pinned (OpenSpec.ofChange fnCountSchedulesWrong)

/-- 'laws.FnProgramJoin': WHATEVER THE INPUT: true; the input reads as it did. -/
def fnProgramJoinSpec : ChangeSpec := { name := "fnProgramJoin", fn := fun _ => fun
  | [d] => { results := [.lit (.bool true)], args := [d] }
  | _ => none }
def fnProgramJoinRow : OpenClaim := { program := "ytciplfdgjbehgaa", sum := "a12706cfa77f7a0d57b8718bf288c176b83c97a8dfa760986d824d4f35c2e4d3", func := "loop.example/weakmemory/laws.FnProgramJoin", spec := "fnProgramJoin", inPlace := ["internal/abi.NoEscape", "internal/bytealg.MakeNoZero"], unfollowed := true, recurses := true, apart := false }
def FnProgramJoinSaid : Prop := fnProgramJoinRow.holds Try.pinned (OpenSpec.ofChange fnProgramJoinSpec)

/-- ITS FALSE NEIGHBOUR: 'it returns false'. Refute it at one input. -/
def fnProgramJoinWrong : ChangeSpec := { name := "fnProgramJoin", fn := fun _ => fun
  | [d] => { results := [.lit (.bool false)], args := [d] }
  | _ => none }
def FnProgramJoinWrongFalsely : Prop := fnProgramJoinRow.holds Try.pinned (OpenSpec.ofChange fnProgramJoinWrong)

/-- 'laws.FnProgramSame': WHATEVER THE INPUT: true; the input reads as it did. -/
def fnProgramSameSpec : ChangeSpec := { name := "fnProgramSame", fn := fun _ => fun
  | [d] => { results := [.lit (.bool true)], args := [d] }
  | _ => none }
def fnProgramSameRow : OpenClaim := { program := "ytciplfdgjbehgaa", sum := "a12706cfa77f7a0d57b8718bf288c176b83c97a8dfa760986d824d4f35c2e4d3", func := "loop.example/weakmemory/laws.FnProgramSame", spec := "fnProgramSame", inPlace := ["internal/abi.NoEscape", "internal/bytealg.MakeNoZero"], unfollowed := true, recurses := true, apart := false }
def FnProgramSameSaid : Prop := fnProgramSameRow.holds Try.pinned (OpenSpec.ofChange fnProgramSameSpec)

/-- ITS FALSE NEIGHBOUR: 'it returns false'. Refute it at one input. -/
def fnProgramSameWrong : ChangeSpec := { name := "fnProgramSame", fn := fun _ => fun
  | [d] => { results := [.lit (.bool false)], args := [d] }
  | _ => none }
def FnProgramSameWrongFalsely : Prop := fnProgramSameRow.holds Try.pinned (OpenSpec.ofChange fnProgramSameWrong)

/-- 'laws.FnLocsOf': WHATEVER THE INPUT: true; the input reads as it did. -/
def fnLocsOfSpec : ChangeSpec := { name := "fnLocsOf", fn := fun _ => fun
  | [d] => { results := [.lit (.bool true)], args := [d] }
  | _ => none }
def fnLocsOfRow : OpenClaim := { program := "ytciplfdgjbehgaa", sum := "a12706cfa77f7a0d57b8718bf288c176b83c97a8dfa760986d824d4f35c2e4d3", func := "loop.example/weakmemory/laws.FnLocsOf", spec := "fnLocsOf", unfollowed := true, recurses := true, apart := false }
def FnLocsOfSaid : Prop := fnLocsOfRow.holds Try.pinned (OpenSpec.ofChange fnLocsOfSpec)

/-- ITS FALSE NEIGHBOUR: 'it returns false'. Refute it at one input. -/
def fnLocsOfWrong : ChangeSpec := { name := "fnLocsOf", fn := fun _ => fun
  | [d] => { results := [.lit (.bool false)], args := [d] }
  | _ => none }
def FnLocsOfWrongFalsely : Prop := fnLocsOfRow.holds Try.pinned (OpenSpec.ofChange fnLocsOfWrong)

/- THE SECOND FORM. 'bulk': how many values and letters a reading holds, each counted each time it is reached (what is shared counts as often as it is met; a slice's spare places count too). A statement '..UptoSaid' is the law's where the arguments, and the package variables that the reading takes, are together of bulk at most 1048576: NARROWER than '..Said'. Prove '..Said' where nothing that the law and all that it calls make is longer than what came in: it says more and counts as full. Else prove '..UptoSaid'. A law counts once. -/
mutual
def uptoBulk {H : Type} : DataW H → Nat
  | .lit (.string bytes) => bytes.length + 1
  | .lit _ => 1
  | .nil => 1
  | .ptr d => uptoBulk d + 1
  | .slice elems spare => uptoBulkAll elems + uptoBulkAll spare + 1
  | .agg parts => uptoBulkAll parts + 1
  | .iface _ d => uptoBulk d + 1
  | .map entries => uptoBulkEntries entries + 1
  | .held _ => 1
def uptoBulkAll {H : Type} : List (DataW H) → Nat
  | [] => 0
  | d :: r => uptoBulk d + uptoBulkAll r
def uptoBulkEntries {H : Type} : List (Lit × DataW H) → Nat
  | [] => 0
  | x :: r => uptoBulkEntry x + uptoBulkEntries r
def uptoBulkEntry {H : Type} : Lit × DataW H → Nat
  | (.string bytes, d) => bytes.length + uptoBulk d + 1
  | (_, d) => uptoBulk d + 1
 end
def uptoSmall : (H : Type) → List (DataW H) → Bool := fun _ ds => decide (uptoBulkAll ds ≤ 1048576)
def OpenSpec.upto (s : _root_.Go.ChangeSpec) : _root_.Go.OpenSpec := { _root_.Go.OpenSpec.ofChange s with cond := some uptoSmall }

/-- 'laws.FnInstrText', WHERE WHAT IT READS IS OF BULK AT MOST 1048576: true; the input reads as it did. -/
def fnInstrTextUptoRow : OpenClaim := { program := "ytciplfdgjbehgaa", sum := "a12706cfa77f7a0d57b8718bf288c176b83c97a8dfa760986d824d4f35c2e4d3", func := "loop.example/weakmemory/laws.FnInstrText", spec := "fnInstrText", recurses := true, apart := false, narrowed := true }
def FnInstrTextUptoSaid : Prop := fnInstrTextUptoRow.holds Try.pinned (OpenSpec.upto fnInstrTextSpec)

/-- 'laws.FnInstrAlone', WHERE WHAT IT READS IS OF BULK AT MOST 1048576: true; the input reads as it did. -/
def fnInstrAloneUptoRow : OpenClaim := { program := "ytciplfdgjbehgaa", sum := "a12706cfa77f7a0d57b8718bf288c176b83c97a8dfa760986d824d4f35c2e4d3", func := "loop.example/weakmemory/laws.FnInstrAlone", spec := "fnInstrAlone", inPlace := ["internal/abi.NoEscape", "internal/bytealg.MakeNoZero"], unfollowed := true, recurses := true, apart := false, narrowed := true }
def FnInstrAloneUptoSaid : Prop := fnInstrAloneUptoRow.holds Try.pinned (OpenSpec.upto fnInstrAloneSpec)

/-- 'laws.FnCountExecs', WHERE WHAT IT READS IS OF BULK AT MOST 1048576: true; the input reads as it did. -/
def fnCountExecsUptoRow : OpenClaim := { program := "ytciplfdgjbehgaa", sum := "a12706cfa77f7a0d57b8718bf288c176b83c97a8dfa760986d824d4f35c2e4d3", func := "loop.example/weakmemory/laws.FnCountExecs", spec := "fnCountExecs", unfollowed := true, recurses := true, apart := false, narrowed := true }
def FnCountExecsUptoSaid : Prop := fnCountExecsUptoRow.holds Try.pinned (OpenSpec.upto fnCountExecsSpec)

/-- 'laws.FnProgramThreads', WHERE WHAT IT READS IS OF BULK AT MOST 1048576: true; the input reads as it did. -/
def fnProgramThreadsUptoRow : OpenClaim := { program := "ytciplfdgjbehgaa", sum := "a12706cfa77f7a0d57b8718bf288c176b83c97a8dfa760986d824d4f35c2e4d3", func := "loop.example/weakmemory/laws.FnProgramThreads", spec := "fnProgramThreads", unfollowed := true, recurses := true, apart := false, narrowed := true }
def FnProgramThreadsUptoSaid : Prop := fnProgramThreadsUptoRow.holds Try.pinned (OpenSpec.upto fnProgramThreadsSpec)

/-- 'laws.FnCountOps', WHERE WHAT IT READS IS OF BULK AT MOST 1048576: true; the input reads as it did. -/
def fnCountOpsUptoRow : OpenClaim := { program := "ytciplfdgjbehgaa", sum := "a12706cfa77f7a0d57b8718bf288c176b83c97a8dfa760986d824d4f35c2e4d3", func := "loop.example/weakmemory/laws.FnCountOps", spec := "fnCountOps", unfollowed := true, recurses := true, apart := false, narrowed := true }
def FnCountOpsUptoSaid : Prop := fnCountOpsUptoRow.holds Try.pinned (OpenSpec.upto fnCountOpsSpec)

/-- 'laws.FnCountSchedules', WHERE WHAT IT READS IS OF BULK AT MOST 1048576: true; the input reads as it did. -/
def fnCountSchedulesUptoRow : OpenClaim := { program := "ytciplfdgjbehgaa", sum := "a12706cfa77f7a0d57b8718bf288c176b83c97a8dfa760986d824d4f35c2e4d3", func := "loop.example/weakmemory/laws.FnCountSchedules", spec := "fnCountSchedules", unfollowed := true, recurses := true, apart := false, narrowed := true }
def FnCountSchedulesUptoSaid : Prop := fnCountSchedulesUptoRow.holds Try.pinned (OpenSpec.upto fnCountSchedulesSpec)

/-- 'laws.FnProgramJoin', WHERE WHAT IT READS IS OF BULK AT MOST 1048576: true; the input reads as it did. -/
def fnProgramJoinUptoRow : OpenClaim := { program := "ytciplfdgjbehgaa", sum := "a12706cfa77f7a0d57b8718bf288c176b83c97a8dfa760986d824d4f35c2e4d3", func := "loop.example/weakmemory/laws.FnProgramJoin", spec := "fnProgramJoin", inPlace := ["internal/abi.NoEscape", "internal/bytealg.MakeNoZero"], unfollowed := true, recurses := true, apart := false, narrowed := true }
def FnProgramJoinUptoSaid : Prop := fnProgramJoinUptoRow.holds Try.pinned (OpenSpec.upto fnProgramJoinSpec)

/-- 'laws.FnProgramSame', WHERE WHAT IT READS IS OF BULK AT MOST 1048576: true; the input reads as it did. -/
def fnProgramSameUptoRow : OpenClaim := { program := "ytciplfdgjbehgaa", sum := "a12706cfa77f7a0d57b8718bf288c176b83c97a8dfa760986d824d4f35c2e4d3", func := "loop.example/weakmemory/laws.FnProgramSame", spec := "fnProgramSame", inPlace := ["internal/abi.NoEscape", "internal/bytealg.MakeNoZero"], unfollowed := true, recurses := true, apart := false, narrowed := true }
def FnProgramSameUptoSaid : Prop := fnProgramSameUptoRow.holds Try.pinned (OpenSpec.upto fnProgramSameSpec)

/-- 'laws.FnLocsOf', WHERE WHAT IT READS IS OF BULK AT MOST 1048576: true; the input reads as it did. -/
def fnLocsOfUptoRow : OpenClaim := { program := "ytciplfdgjbehgaa", sum := "a12706cfa77f7a0d57b8718bf288c176b83c97a8dfa760986d824d4f35c2e4d3", func := "loop.example/weakmemory/laws.FnLocsOf", spec := "fnLocsOf", unfollowed := true, recurses := true, apart := false, narrowed := true }
def FnLocsOfUptoSaid : Prop := fnLocsOfUptoRow.holds Try.pinned (OpenSpec.upto fnLocsOfSpec)

end Rows
end Go.Proofs.Ytciplfdgjbehgaa
