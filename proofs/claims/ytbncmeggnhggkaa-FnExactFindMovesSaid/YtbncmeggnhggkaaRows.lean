/-
  No cell of these rows narrows 'for every input' (looked for: loops, veiled, ifaces, maps, wideKeys, modest, calm, conditions, laid).
  DERIVED. THE GIVEN ROWS OF THIS SEAT. 7 by the template 'for every input the law returns true; each argument reads behind the call as it read before'; 0 by the template 'total and deterministic' (their statements: YtbncmeggnhggkaaTotals.lean).
  GIVEN WITH THE SEED: the statements are not yours to turn. If you find one false, say at which input.
  Laid BY PROGRAM, IN A SANDBOX (cutbox-rows.mjs): the forced cells as the released guide's own fill.sh prints them over the translation c59fbf80a3f4f520… (all of the seat's roots in one cut). By AI agents, Wed Nov 11 2026. No macro, syntax, notation, axiom, sorry.
-/
import Derived.Test.YtbncmeggnhggkaaChecked
import GoSem.Claim
import GoSem.ClaimJoined
import GoSem.ClaimMapViews
import Derived.JoinedTies
import Derived.KernelRfl
namespace Go.Proofs.Ytbncmeggnhggkaa
/- THE CELL 'sum', in the pinned program and in every row, IS THE sha256 OF THE DUMP (.gsa) THAT YtbncmeggnhggkaaProg.lean LOADS. Nothing in Lean hashes anything: it is a label: what it is worth is what the hold of that sum in a sandbox is worth. -/
noncomputable def Try.pinned : Pinned := { name := "ytbncmeggnhggkaa", sum := "c59fbf80a3f4f520eec1814516718a6b2cec0eb310523eab6c601910f6ce759c", checked := Try.checked }
namespace Rows
def none {H : Type} : Left H := { results := [], args := [] }

/-- 'laws.FnExactRunSchedule': WHATEVER THE INPUT: true; the input reads as it did. -/
def fnExactRunScheduleSpec : ChangeSpec := { name := "fnExactRunSchedule", fn := fun _ => fun
  | [d1, d2] => { results := [.lit (.bool true)], args := [d1, d2] }
  | _ => none }
def fnExactRunScheduleRow : OpenClaim := { program := "ytbncmeggnhggkaa", sum := "c59fbf80a3f4f520eec1814516718a6b2cec0eb310523eab6c601910f6ce759c", func := "loop.example/weakmemory/laws.FnExactRunSchedule", spec := "fnExactRunSchedule", unfollowed := true, recurses := true, apart := false }
def FnExactRunScheduleSaid : Prop := fnExactRunScheduleRow.holds Try.pinned (OpenSpec.ofChange fnExactRunScheduleSpec)

/-- ITS FALSE NEIGHBOUR: 'it returns false'. Refute it at one input. -/
def fnExactRunScheduleWrong : ChangeSpec := { name := "fnExactRunSchedule", fn := fun _ => fun
  | [d1, d2] => { results := [.lit (.bool false)], args := [d1, d2] }
  | _ => none }
def FnExactRunScheduleWrongFalsely : Prop := fnExactRunScheduleRow.holds Try.pinned (OpenSpec.ofChange fnExactRunScheduleWrong)

/-- 'laws.FnExactMovesAfter': WHATEVER THE INPUT: true; the input reads as it did. -/
def fnExactMovesAfterSpec : ChangeSpec := { name := "fnExactMovesAfter", fn := fun _ => fun
  | [d1, d2, d3] => { results := [.lit (.bool true)], args := [d1, d2, d3] }
  | _ => none }
def fnExactMovesAfterRow : OpenClaim := { program := "ytbncmeggnhggkaa", sum := "c59fbf80a3f4f520eec1814516718a6b2cec0eb310523eab6c601910f6ce759c", func := "loop.example/weakmemory/laws.FnExactMovesAfter", spec := "fnExactMovesAfter", unfollowed := true, recurses := true, apart := false }
def FnExactMovesAfterSaid : Prop := fnExactMovesAfterRow.holds Try.pinned (OpenSpec.ofChange fnExactMovesAfterSpec)

/-- ITS FALSE NEIGHBOUR: 'it returns false'. Refute it at one input. -/
def fnExactMovesAfterWrong : ChangeSpec := { name := "fnExactMovesAfter", fn := fun _ => fun
  | [d1, d2, d3] => { results := [.lit (.bool false)], args := [d1, d2, d3] }
  | _ => none }
def FnExactMovesAfterWrongFalsely : Prop := fnExactMovesAfterRow.holds Try.pinned (OpenSpec.ofChange fnExactMovesAfterWrong)

/-- 'laws.FnExactRunMoves': WHATEVER THE INPUT: true; the input reads as it did. -/
def fnExactRunMovesSpec : ChangeSpec := { name := "fnExactRunMoves", fn := fun _ => fun
  | [d1, d2, d3] => { results := [.lit (.bool true)], args := [d1, d2, d3] }
  | _ => none }
def fnExactRunMovesRow : OpenClaim := { program := "ytbncmeggnhggkaa", sum := "c59fbf80a3f4f520eec1814516718a6b2cec0eb310523eab6c601910f6ce759c", func := "loop.example/weakmemory/laws.FnExactRunMoves", spec := "fnExactRunMoves", unfollowed := true, recurses := true, apart := false }
def FnExactRunMovesSaid : Prop := fnExactRunMovesRow.holds Try.pinned (OpenSpec.ofChange fnExactRunMovesSpec)

/-- ITS FALSE NEIGHBOUR: 'it returns false'. Refute it at one input. -/
def fnExactRunMovesWrong : ChangeSpec := { name := "fnExactRunMoves", fn := fun _ => fun
  | [d1, d2, d3] => { results := [.lit (.bool false)], args := [d1, d2, d3] }
  | _ => none }
def FnExactRunMovesWrongFalsely : Prop := fnExactRunMovesRow.holds Try.pinned (OpenSpec.ofChange fnExactRunMovesWrong)

/-- 'laws.FnExactChoicesAfter': WHATEVER THE INPUT: true; the input reads as it did. -/
def fnExactChoicesAfterSpec : ChangeSpec := { name := "fnExactChoicesAfter", fn := fun _ => fun
  | [d1, d2] => { results := [.lit (.bool true)], args := [d1, d2] }
  | _ => none }
def fnExactChoicesAfterRow : OpenClaim := { program := "ytbncmeggnhggkaa", sum := "c59fbf80a3f4f520eec1814516718a6b2cec0eb310523eab6c601910f6ce759c", func := "loop.example/weakmemory/laws.FnExactChoicesAfter", spec := "fnExactChoicesAfter", unfollowed := true, recurses := true, apart := false }
def FnExactChoicesAfterSaid : Prop := fnExactChoicesAfterRow.holds Try.pinned (OpenSpec.ofChange fnExactChoicesAfterSpec)

/-- ITS FALSE NEIGHBOUR: 'it returns false'. Refute it at one input. -/
def fnExactChoicesAfterWrong : ChangeSpec := { name := "fnExactChoicesAfter", fn := fun _ => fun
  | [d1, d2] => { results := [.lit (.bool false)], args := [d1, d2] }
  | _ => none }
def FnExactChoicesAfterWrongFalsely : Prop := fnExactChoicesAfterRow.holds Try.pinned (OpenSpec.ofChange fnExactChoicesAfterWrong)

/-- 'laws.FnExactRunChoices': WHATEVER THE INPUT: true; the input reads as it did. -/
def fnExactRunChoicesSpec : ChangeSpec := { name := "fnExactRunChoices", fn := fun _ => fun
  | [d1, d2] => { results := [.lit (.bool true)], args := [d1, d2] }
  | _ => none }
def fnExactRunChoicesRow : OpenClaim := { program := "ytbncmeggnhggkaa", sum := "c59fbf80a3f4f520eec1814516718a6b2cec0eb310523eab6c601910f6ce759c", func := "loop.example/weakmemory/laws.FnExactRunChoices", spec := "fnExactRunChoices", unfollowed := true, recurses := true, apart := false }
def FnExactRunChoicesSaid : Prop := fnExactRunChoicesRow.holds Try.pinned (OpenSpec.ofChange fnExactRunChoicesSpec)

/-- ITS FALSE NEIGHBOUR: 'it returns false'. Refute it at one input. -/
def fnExactRunChoicesWrong : ChangeSpec := { name := "fnExactRunChoices", fn := fun _ => fun
  | [d1, d2] => { results := [.lit (.bool false)], args := [d1, d2] }
  | _ => none }
def FnExactRunChoicesWrongFalsely : Prop := fnExactRunChoicesRow.holds Try.pinned (OpenSpec.ofChange fnExactRunChoicesWrong)

/-- 'laws.FnExactFindSchedule': WHATEVER THE INPUT: true; the input reads as it did. -/
def fnExactFindScheduleSpec : ChangeSpec := { name := "fnExactFindSchedule", fn := fun _ => fun
  | [d1, d2] => { results := [.lit (.bool true)], args := [d1, d2] }
  | _ => none }
def fnExactFindScheduleRow : OpenClaim := { program := "ytbncmeggnhggkaa", sum := "c59fbf80a3f4f520eec1814516718a6b2cec0eb310523eab6c601910f6ce759c", func := "loop.example/weakmemory/laws.FnExactFindSchedule", spec := "fnExactFindSchedule", unfollowed := true, recurses := true, apart := false }
def FnExactFindScheduleSaid : Prop := fnExactFindScheduleRow.holds Try.pinned (OpenSpec.ofChange fnExactFindScheduleSpec)

/-- ITS FALSE NEIGHBOUR: 'it returns false'. Refute it at one input. -/
def fnExactFindScheduleWrong : ChangeSpec := { name := "fnExactFindSchedule", fn := fun _ => fun
  | [d1, d2] => { results := [.lit (.bool false)], args := [d1, d2] }
  | _ => none }
def FnExactFindScheduleWrongFalsely : Prop := fnExactFindScheduleRow.holds Try.pinned (OpenSpec.ofChange fnExactFindScheduleWrong)

/-- 'laws.FnExactFindMoves': WHATEVER THE INPUT: true; the input reads as it did. -/
def fnExactFindMovesSpec : ChangeSpec := { name := "fnExactFindMoves", fn := fun _ => fun
  | [d1, d2, d3] => { results := [.lit (.bool true)], args := [d1, d2, d3] }
  | _ => none }
def fnExactFindMovesRow : OpenClaim := { program := "ytbncmeggnhggkaa", sum := "c59fbf80a3f4f520eec1814516718a6b2cec0eb310523eab6c601910f6ce759c", func := "loop.example/weakmemory/laws.FnExactFindMoves", spec := "fnExactFindMoves", unfollowed := true, recurses := true, apart := false }
def FnExactFindMovesSaid : Prop := fnExactFindMovesRow.holds Try.pinned (OpenSpec.ofChange fnExactFindMovesSpec)

/-- ITS FALSE NEIGHBOUR: 'it returns false'. Refute it at one input. -/
def fnExactFindMovesWrong : ChangeSpec := { name := "fnExactFindMoves", fn := fun _ => fun
  | [d1, d2, d3] => { results := [.lit (.bool false)], args := [d1, d2, d3] }
  | _ => none }
def FnExactFindMovesWrongFalsely : Prop := fnExactFindMovesRow.holds Try.pinned (OpenSpec.ofChange fnExactFindMovesWrong)

/- THE SECOND FORM. 'bulk': how many values and letters a reading holds, each counted each time it is reached (what is shared counts as often as it is met; a slice's spare places count too). A statement '..UptoSaid' is the law's where the arguments, and the package variables that the reading takes, are together of bulk at most 1048576: NARROWER than '..Said'. Prove '..Said' where nothing that the law and all that it calls make is longer than what came in: it says more and counts as full. Else prove '..UptoSaid'. A law counts once. -/
mutual
def uptoBulk {H : Type} : DataW H → Nat
  | .lit (.string bytes) => bytes.length + 1
  | .lit _ => 1
  | .nil => 1
  | .ptr d => uptoBulk d + 1
  | .slice elems spare => uptoBulkAll elems + uptoBulkAll spare + 1
  | .agg parts => uptoBulkAll parts + 1
  | .iface _ d => uptoBulk d + 1
  | .map entries => uptoBulkEntries entries + 1
  | .held _ => 1
def uptoBulkAll {H : Type} : List (DataW H) → Nat
  | [] => 0
  | d :: r => uptoBulk d + uptoBulkAll r
def uptoBulkEntries {H : Type} : List (Lit × DataW H) → Nat
  | [] => 0
  | x :: r => uptoBulkEntry x + uptoBulkEntries r
def uptoBulkEntry {H : Type} : Lit × DataW H → Nat
  | (.string bytes, d) => bytes.length + uptoBulk d + 1
  | (_, d) => uptoBulk d + 1
 end
def uptoSmall : (H : Type) → List (DataW H) → Bool := fun _ ds => decide (uptoBulkAll ds ≤ 1048576)
def OpenSpec.upto (s : _root_.Go.ChangeSpec) : _root_.Go.OpenSpec := { _root_.Go.OpenSpec.ofChange s with cond := some uptoSmall }

/-- 'laws.FnExactRunSchedule', WHERE WHAT IT READS IS OF BULK AT MOST 1048576: true; the input reads as it did. -/
def fnExactRunScheduleUptoRow : OpenClaim := { program := "ytbncmeggnhggkaa", sum := "c59fbf80a3f4f520eec1814516718a6b2cec0eb310523eab6c601910f6ce759c", func := "loop.example/weakmemory/laws.FnExactRunSchedule", spec := "fnExactRunSchedule", unfollowed := true, recurses := true, apart := false, narrowed := true }
def FnExactRunScheduleUptoSaid : Prop := fnExactRunScheduleUptoRow.holds Try.pinned (OpenSpec.upto fnExactRunScheduleSpec)

/-- 'laws.FnExactMovesAfter', WHERE WHAT IT READS IS OF BULK AT MOST 1048576: true; the input reads as it did. -/
def fnExactMovesAfterUptoRow : OpenClaim := { program := "ytbncmeggnhggkaa", sum := "c59fbf80a3f4f520eec1814516718a6b2cec0eb310523eab6c601910f6ce759c", func := "loop.example/weakmemory/laws.FnExactMovesAfter", spec := "fnExactMovesAfter", unfollowed := true, recurses := true, apart := false, narrowed := true }
def FnExactMovesAfterUptoSaid : Prop := fnExactMovesAfterUptoRow.holds Try.pinned (OpenSpec.upto fnExactMovesAfterSpec)

/-- 'laws.FnExactRunMoves', WHERE WHAT IT READS IS OF BULK AT MOST 1048576: true; the input reads as it did. -/
def fnExactRunMovesUptoRow : OpenClaim := { program := "ytbncmeggnhggkaa", sum := "c59fbf80a3f4f520eec1814516718a6b2cec0eb310523eab6c601910f6ce759c", func := "loop.example/weakmemory/laws.FnExactRunMoves", spec := "fnExactRunMoves", unfollowed := true, recurses := true, apart := false, narrowed := true }
def FnExactRunMovesUptoSaid : Prop := fnExactRunMovesUptoRow.holds Try.pinned (OpenSpec.upto fnExactRunMovesSpec)

/-- 'laws.FnExactChoicesAfter', WHERE WHAT IT READS IS OF BULK AT MOST 1048576: true; the input reads as it did. -/
def fnExactChoicesAfterUptoRow : OpenClaim := { program := "ytbncmeggnhggkaa", sum := "c59fbf80a3f4f520eec1814516718a6b2cec0eb310523eab6c601910f6ce759c", func := "loop.example/weakmemory/laws.FnExactChoicesAfter", spec := "fnExactChoicesAfter", unfollowed := true, recurses := true, apart := false, narrowed := true }
def FnExactChoicesAfterUptoSaid : Prop := fnExactChoicesAfterUptoRow.holds Try.pinned (OpenSpec.upto fnExactChoicesAfterSpec)

/-- 'laws.FnExactRunChoices', WHERE WHAT IT READS IS OF BULK AT MOST 1048576: true; the input reads as it did. -/
def fnExactRunChoicesUptoRow : OpenClaim := { program := "ytbncmeggnhggkaa", sum := "c59fbf80a3f4f520eec1814516718a6b2cec0eb310523eab6c601910f6ce759c", func := "loop.example/weakmemory/laws.FnExactRunChoices", spec := "fnExactRunChoices", unfollowed := true, recurses := true, apart := false, narrowed := true }
def FnExactRunChoicesUptoSaid : Prop := fnExactRunChoicesUptoRow.holds Try.pinned (OpenSpec.upto fnExactRunChoicesSpec)

/-- 'laws.FnExactFindSchedule', WHERE WHAT IT READS IS OF BULK AT MOST 1048576: true; the input reads as it did. -/
def fnExactFindScheduleUptoRow : OpenClaim := { program := "ytbncmeggnhggkaa", sum := "c59fbf80a3f4f520eec1814516718a6b2cec0eb310523eab6c601910f6ce759c", func := "loop.example/weakmemory/laws.FnExactFindSchedule", spec := "fnExactFindSchedule", unfollowed := true, recurses := true, apart := false, narrowed := true }
def FnExactFindScheduleUptoSaid : Prop := fnExactFindScheduleUptoRow.holds Try.pinned (OpenSpec.upto fnExactFindScheduleSpec)

/-- 'laws.FnExactFindMoves', WHERE WHAT IT READS IS OF BULK AT MOST 1048576: true; the input reads as it did. -/
def fnExactFindMovesUptoRow : OpenClaim := { program := "ytbncmeggnhggkaa", sum := "c59fbf80a3f4f520eec1814516718a6b2cec0eb310523eab6c601910f6ce759c", func := "loop.example/weakmemory/laws.FnExactFindMoves", spec := "fnExactFindMoves", unfollowed := true, recurses := true, apart := false, narrowed := true }
def FnExactFindMovesUptoSaid : Prop := fnExactFindMovesUptoRow.holds Try.pinned (OpenSpec.upto fnExactFindMovesSpec)

end Rows
end Go.Proofs.Ytbncmeggnhggkaa
