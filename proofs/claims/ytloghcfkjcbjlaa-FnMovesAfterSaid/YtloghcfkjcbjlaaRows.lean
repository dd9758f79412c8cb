/-
  No cell of these rows narrows 'for every input' (looked for: loops, veiled, ifaces, maps, wideKeys, modest, calm, conditions, laid).
  DERIVED. THE GIVEN ROWS OF THIS SEAT. 5 by the template 'for every input the law returns true; each argument reads behind the call as it read before'; 0 by the template 'total and deterministic' (their statements: YtloghcfkjcbjlaaTotals.lean).
  GIVEN WITH THE SEED: the statements are not yours to turn. If you find one false, say at which input.
  Laid BY PROGRAM, IN A SANDBOX (cutbox-rows.mjs): the forced cells as the released guide's own fill.sh prints them over the translation 38b45ff4b197b62b… (all of the seat's roots in one cut). By AI agents, Wed Nov 11 2026. No macro, syntax, notation, axiom, sorry.
-/
import Derived.Test.YtloghcfkjcbjlaaChecked
import GoSem.Claim
import GoSem.ClaimJoined
import GoSem.ClaimMapViews
import Derived.JoinedTies
import Derived.KernelRfl
namespace Go.Proofs.Ytloghcfkjcbjlaa
/- THE CELL 'sum', in the pinned program and in every row, IS THE sha256 OF THE DUMP (.gsa) THAT YtloghcfkjcbjlaaProg.lean LOADS. Nothing in Lean hashes anything: it is a label: what it is worth is what the hold of that sum in a sandbox is worth. -/
noncomputable def Try.pinned : Pinned := { name := "ytloghcfkjcbjlaa", sum := "38b45ff4b197b62b7efd8e667a532bebc03ffd3609adbcc83748026dc2a26d1c", checked := Try.checked }
namespace Rows
def none {H : Type} : Left H := { results := [], args := [] }

/-- 'laws.FnMovesLong': WHATEVER THE INPUT: true; the input reads as it did. -/
def fnMovesLongSpec : ChangeSpec := { name := "fnMovesLong", fn := fun _ => fun
  | [d] => { results := [.lit (.bool true)], args := [d] }
  | _ => none }
def fnMovesLongRow : OpenClaim := { program := "ytloghcfkjcbjlaa", sum := "38b45ff4b197b62b7efd8e667a532bebc03ffd3609adbcc83748026dc2a26d1c", func := "loop.example/weakmemory/laws.FnMovesLong", spec := "fnMovesLong", unfollowed := true, recurses := true, apart := false }
def FnMovesLongSaid : Prop := fnMovesLongRow.holds Try.pinned (OpenSpec.ofChange fnMovesLongSpec)

/-- ITS FALSE NEIGHBOUR: 'it returns false'. Refute it at one input. -/
def fnMovesLongWrong : ChangeSpec := { name := "fnMovesLong", fn := fun _ => fun
  | [d] => { results := [.lit (.bool false)], args := [d] }
  | _ => none }
def FnMovesLongWrongFalsely : Prop := fnMovesLongRow.holds Try.pinned (OpenSpec.ofChange fnMovesLongWrong)

/-- 'laws.FnMovesPrefix': WHATEVER THE INPUT: true; the input reads as it did. -/
def fnMovesPrefixSpec : ChangeSpec := { name := "fnMovesPrefix", fn := fun _ => fun
  | [d1, d2] => { results := [.lit (.bool true)], args := [d1, d2] }
  | _ => none }
def fnMovesPrefixRow : OpenClaim := { program := "ytloghcfkjcbjlaa", sum := "38b45ff4b197b62b7efd8e667a532bebc03ffd3609adbcc83748026dc2a26d1c", func := "loop.example/weakmemory/laws.FnMovesPrefix", spec := "fnMovesPrefix", unfollowed := true, recurses := true, apart := false }
def FnMovesPrefixSaid : Prop := fnMovesPrefixRow.holds Try.pinned (OpenSpec.ofChange fnMovesPrefixSpec)

/-- ITS FALSE NEIGHBOUR: 'it returns false'. Refute it at one input. -/
def fnMovesPrefixWrong : ChangeSpec := { name := "fnMovesPrefix", fn := fun _ => fun
  | [d1, d2] => { results := [.lit (.bool false)], args := [d1, d2] }
  | _ => none }
def FnMovesPrefixWrongFalsely : Prop := fnMovesPrefixRow.holds Try.pinned (OpenSpec.ofChange fnMovesPrefixWrong)

/-- 'laws.FnMovesAfter': WHATEVER THE INPUT: true; the input reads as it did. -/
def fnMovesAfterSpec : ChangeSpec := { name := "fnMovesAfter", fn := fun _ => fun
  | [d] => { results := [.lit (.bool true)], args := [d] }
  | _ => none }
def fnMovesAfterRow : OpenClaim := { program := "ytloghcfkjcbjlaa", sum := "38b45ff4b197b62b7efd8e667a532bebc03ffd3609adbcc83748026dc2a26d1c", func := "loop.example/weakmemory/laws.FnMovesAfter", spec := "fnMovesAfter", unfollowed := true, recurses := true, apart := false }
def FnMovesAfterSaid : Prop := fnMovesAfterRow.holds Try.pinned (OpenSpec.ofChange fnMovesAfterSpec)

/-- ITS FALSE NEIGHBOUR: 'it returns false'. Refute it at one input. -/
def fnMovesAfterWrong : ChangeSpec := { name := "fnMovesAfter", fn := fun _ => fun
  | [d] => { results := [.lit (.bool false)], args := [d] }
  | _ => none }
def FnMovesAfterWrongFalsely : Prop := fnMovesAfterRow.holds Try.pinned (OpenSpec.ofChange fnMovesAfterWrong)

/-- 'laws.FnChoicesLong': WHATEVER THE INPUT: true; the input reads as it did. -/
def fnChoicesLongSpec : ChangeSpec := { name := "fnChoicesLong", fn := fun _ => fun
  | [d] => { results := [.lit (.bool true)], args := [d] }
  | _ => none }
def fnChoicesLongRow : OpenClaim := { program := "ytloghcfkjcbjlaa", sum := "38b45ff4b197b62b7efd8e667a532bebc03ffd3609adbcc83748026dc2a26d1c", func := "loop.example/weakmemory/laws.FnChoicesLong", spec := "fnChoicesLong", unfollowed := true, recurses := true, apart := false }
def FnChoicesLongSaid : Prop := fnChoicesLongRow.holds Try.pinned (OpenSpec.ofChange fnChoicesLongSpec)

/-- ITS FALSE NEIGHBOUR: 'it returns false'. Refute it at one input. -/
def fnChoicesLongWrong : ChangeSpec := { name := "fnChoicesLong", fn := fun _ => fun
  | [d] => { results := [.lit (.bool false)], args := [d] }
  | _ => none }
def FnChoicesLongWrongFalsely : Prop := fnChoicesLongRow.holds Try.pinned (OpenSpec.ofChange fnChoicesLongWrong)

/-- 'laws.FnChoicesAfter': WHATEVER THE INPUT: true; the input reads as it did. -/
def fnChoicesAfterSpec : ChangeSpec := { name := "fnChoicesAfter", fn := fun _ => fun
  | [d] => { results := [.lit (.bool true)], args := [d] }
  | _ => none }
def fnChoicesAfterRow : OpenClaim := { program := "ytloghcfkjcbjlaa", sum := "38b45ff4b197b62b7efd8e667a532bebc03ffd3609adbcc83748026dc2a26d1c", func := "loop.example/weakmemory/laws.FnChoicesAfter", spec := "fnChoicesAfter", unfollowed := true, recurses := true, apart := false }
def FnChoicesAfterSaid : Prop := fnChoicesAfterRow.holds Try.pinned (OpenSpec.ofChange fnChoicesAfterSpec)

/-- ITS FALSE NEIGHBOUR: 'it returns false'. Refute it at one input. -/
def fnChoicesAfterWrong : ChangeSpec := { name := "fnChoicesAfter", fn := fun _ => fun
  | [d] => { results := [.lit (.bool false)], args := [d] }
  | _ => none }
def FnChoicesAfterWrongFalsely : Prop := fnChoicesAfterRow.holds Try.pinned (OpenSpec.ofChange fnChoicesAfterWrong)

/- THE SECOND FORM. 'bulk': how many values and letters a reading holds, each counted each time it is reached (what is shared counts as often as it is met; a slice's spare places count too). A statement '..UptoSaid' is the law's where the arguments, and the package variables that the reading takes, are together of bulk at most 1048576: NARROWER than '..Said'. Prove '..Said' where nothing that the law and all that it calls make is longer than what came in: it says more and counts as full. Else prove '..UptoSaid'. A law counts once. -/
mutual
def uptoBulk {H : Type} : DataW H → Nat
  | .lit (.string bytes) => bytes.length + 1
  | .lit _ => 1
  | .nil => 1
  | .ptr d => uptoBulk d + 1
  | .slice elems spare => uptoBulkAll elems + uptoBulkAll spare + 1
  | .agg parts => uptoBulkAll parts + 1
  | .iface _ d => uptoBulk d + 1
  | .map entries => uptoBulkEntries entries + 1
  | .held _ => 1
def uptoBulkAll {H : Type} : List (DataW H) → Nat
  | [] => 0
  | d :: r => uptoBulk d + uptoBulkAll r
def uptoBulkEntries {H : Type} : List (Lit × DataW H) → Nat
  | [] => 0
  | x :: r => uptoBulkEntry x + uptoBulkEntries r
def uptoBulkEntry {H : Type} : Lit × DataW H → Nat
  | (.string bytes, d) => bytes.length + uptoBulk d + 1
  | (_, d) => uptoBulk d + 1
 end
def uptoSmall : (H : Type) → List (DataW H) → Bool := fun _ ds => decide (uptoBulkAll ds ≤ 1048576)
def OpenSpec.upto (s : _root_.Go.ChangeSpec) : _root_.Go.OpenSpec := { _root_.Go.OpenSpec.ofChange s with cond := some uptoSmall }

/-- 'laws.FnMovesLong', WHERE WHAT IT READS IS OF BULK AT MOST 1048576: true; the input reads as it did. -/
def fnMovesLongUptoRow : OpenClaim := { program := "ytloghcfkjcbjlaa", sum := "38b45ff4b197b62b7efd8e667a532bebc03ffd3609adbcc83748026dc2a26d1c", func := "loop.example/weakmemory/laws.FnMovesLong", spec := "fnMovesLong", unfollowed := true, recurses := true, apart := false, narrowed := true }
def FnMovesLongUptoSaid : Prop := fnMovesLongUptoRow.holds Try.pinned (OpenSpec.upto fnMovesLongSpec)

/-- 'laws.FnMovesPrefix', WHERE WHAT IT READS IS OF BULK AT MOST 1048576: true; the input reads as it did. -/
def fnMovesPrefixUptoRow : OpenClaim := { program := "ytloghcfkjcbjlaa", sum := "38b45ff4b197b62b7efd8e667a532bebc03ffd3609adbcc83748026dc2a26d1c", func := "loop.example/weakmemory/laws.FnMovesPrefix", spec := "fnMovesPrefix", unfollowed := true, recurses := true, apart := false, narrowed := true }
def FnMovesPrefixUptoSaid : Prop := fnMovesPrefixUptoRow.holds Try.pinned (OpenSpec.upto fnMovesPrefixSpec)

/-- 'laws.FnMovesAfter', WHERE WHAT IT READS IS OF BULK AT MOST 1048576: true; the input reads as it did. -/
def fnMovesAfterUptoRow : OpenClaim := { program := "ytloghcfkjcbjlaa", sum := "38b45ff4b197b62b7efd8e667a532bebc03ffd3609adbcc83748026dc2a26d1c", func := "loop.example/weakmemory/laws.FnMovesAfter", spec := "fnMovesAfter", unfollowed := true, recurses := true, apart := false, narrowed := true }
def FnMovesAfterUptoSaid : Prop := fnMovesAfterUptoRow.holds Try.pinned (OpenSpec.upto fnMovesAfterSpec)

/-- 'laws.FnChoicesLong', WHERE WHAT IT READS IS OF BULK AT MOST 1048576: true; the input reads as it did. -/
def fnChoicesLongUptoRow : OpenClaim := { program := "ytloghcfkjcbjlaa", sum := "38b45ff4b197b62b7efd8e667a532bebc03ffd3609adbcc83748026dc2a26d1c", func := "loop.example/weakmemory/laws.FnChoicesLong", spec := "fnChoicesLong", unfollowed := true, recurses := true, apart := false, narrowed := true }
def FnChoicesLongUptoSaid : Prop := fnChoicesLongUptoRow.holds Try.pinned (OpenSpec.upto fnChoicesLongSpec)

/-- 'laws.FnChoicesAfter', WHERE WHAT IT READS IS OF BULK AT MOST 1048576: true; the input reads as it did. -/
def fnChoicesAfterUptoRow : OpenClaim := { program := "ytloghcfkjcbjlaa", sum := "38b45ff4b197b62b7efd8e667a532bebc03ffd3609adbcc83748026dc2a26d1c", func := "loop.example/weakmemory/laws.FnChoicesAfter", spec := "fnChoicesAfter", unfollowed := true, recurses := true, apart := false, narrowed := true }
def FnChoicesAfterUptoSaid : Prop := fnChoicesAfterUptoRow.holds Try.pinned (OpenSpec.upto fnChoicesAfterSpec)

end Rows
end Go.Proofs.Ytloghcfkjcbjlaa
