/-
  No cell of these rows narrows 'for every input' (looked for: loops, veiled, ifaces, maps, wideKeys, modest, calm, conditions, laid).
  DERIVED. THE GIVEN ROWS OF THIS SEAT. 5 by the template 'for every input the law returns true; each argument reads behind the call as it read before'; 0 by the template 'total and deterministic' (their statements: YthlmfjoiicnomaaTotals.lean).
  GIVEN WITH THE SEED: the statements are not yours to turn. If you find one false, say at which input.
  Laid BY PROGRAM, IN A SANDBOX (cutbox-rows.mjs): the forced cells as the released guide's own fill.sh prints them over the translation f9db274cedcff019… (all of the seat's roots in one cut). By AI agents, Wed Nov 11 2026. No macro, syntax, notation, axiom, sorry.
-/
import Derived.Test.YthlmfjoiicnomaaChecked
import GoSem.Claim
import GoSem.ClaimJoined
import GoSem.ClaimMapViews
import Derived.JoinedTies
import Derived.KernelRfl
namespace Go.Proofs.Ythlmfjoiicnomaa
/- THE CELL 'sum', in the pinned program and in every row, IS THE sha256 OF THE DUMP (.gsa) THAT YthlmfjoiicnomaaProg.lean LOADS. Nothing in Lean hashes anything: it is a label: what it is worth is what the hold of that sum in a sandbox is worth. -/
noncomputable def Try.pinned : Pinned := { name := "ythlmfjoiicnomaa", sum := "f9db274cedcff0198687fe72e0a979b9e7a7d3d6e9041331cc6a2d636fd586ae", checked := Try.checked }
namespace Rows
def none {H : Type} : Left H := { results := [], args := [] }

/-- 'laws.FnChoicesLong': WHATEVER THE INPUT: true; the input reads as it did. -/
def fnChoicesLongSpec : ChangeSpec := { name := "fnChoicesLong", fn := fun _ => fun
  | [d] => { results := [.lit (.bool true)], args := [d] }
  | _ => none }
def fnChoicesLongRow : OpenClaim := { program := "ythlmfjoiicnomaa", sum := "f9db274cedcff0198687fe72e0a979b9e7a7d3d6e9041331cc6a2d636fd586ae", func := "loop.example/weakmemory/laws.FnChoicesLong", spec := "fnChoicesLong", unfollowed := true, recurses := true, apart := false }
def FnChoicesLongSaid : Prop := fnChoicesLongRow.holds Try.pinned (OpenSpec.ofChange fnChoicesLongSpec)

/-- ITS FALSE NEIGHBOUR: 'it returns false'. Refute it at one input. -/
def fnChoicesLongWrong : ChangeSpec := { name := "fnChoicesLong", fn := fun _ => fun
  | [d] => { results := [.lit (.bool false)], args := [d] }
  | _ => none }
def FnChoicesLongWrongFalsely : Prop := fnChoicesLongRow.holds Try.pinned (OpenSpec.ofChange fnChoicesLongWrong)

/-- 'laws.FnChoicesAfter': WHATEVER THE INPUT: true; the input reads as it did. -/
def fnChoicesAfterSpec : ChangeSpec := { name := "fnChoicesAfter", fn := fun _ => fun
  | [d] => { results := [.lit (.bool true)], args := [d] }
  | _ => none }
def fnChoicesAfterRow : OpenClaim := { program := "ythlmfjoiicnomaa", sum := "f9db274cedcff0198687fe72e0a979b9e7a7d3d6e9041331cc6a2d636fd586ae", func := "loop.example/weakmemory/laws.FnChoicesAfter", spec := "fnChoicesAfter", unfollowed := true, recurses := true, apart := false }
def FnChoicesAfterSaid : Prop := fnChoicesAfterRow.holds Try.pinned (OpenSpec.ofChange fnChoicesAfterSpec)

/-- ITS FALSE NEIGHBOUR: 'it returns false'. Refute it at one input. -/
def fnChoicesAfterWrong : ChangeSpec := { name := "fnChoicesAfter", fn := fun _ => fun
  | [d] => { results := [.lit (.bool false)], args := [d] }
  | _ => none }
def FnChoicesAfterWrongFalsely : Prop := fnChoicesAfterRow.holds Try.pinned (OpenSpec.ofChange fnChoicesAfterWrong)

/-- 'laws.FnExactChoicesAfter': WHATEVER THE INPUT: true; the input reads as it did. -/
def fnExactChoicesAfterSpec : ChangeSpec := { name := "fnExactChoicesAfter", fn := fun _ => fun
  | [d1, d2] => { results := [.lit (.bool true)], args := [d1, d2] }
  | _ => none }
def fnExactChoicesAfterRow : OpenClaim := { program := "ythlmfjoiicnomaa", sum := "f9db274cedcff0198687fe72e0a979b9e7a7d3d6e9041331cc6a2d636fd586ae", func := "loop.example/weakmemory/laws.FnExactChoicesAfter", spec := "fnExactChoicesAfter", unfollowed := true, recurses := true, apart := false }
def FnExactChoicesAfterSaid : Prop := fnExactChoicesAfterRow.holds Try.pinned (OpenSpec.ofChange fnExactChoicesAfterSpec)

/-- ITS FALSE NEIGHBOUR: 'it returns false'. Refute it at one input. -/
def fnExactChoicesAfterWrong : ChangeSpec := { name := "fnExactChoicesAfter", fn := fun _ => fun
  | [d1, d2] => { results := [.lit (.bool false)], args := [d1, d2] }
  | _ => none }
def FnExactChoicesAfterWrongFalsely : Prop := fnExactChoicesAfterRow.holds Try.pinned (OpenSpec.ofChange fnExactChoicesAfterWrong)

/-- 'laws.FnExactRunChoices': WHATEVER THE INPUT: true; the input reads as it did. -/
def fnExactRunChoicesSpec : ChangeSpec := { name := "fnExactRunChoices", fn := fun _ => fun
  | [d1, d2] => { results := [.lit (.bool true)], args := [d1, d2] }
  | _ => none }
def fnExactRunChoicesRow : OpenClaim := { program := "ythlmfjoiicnomaa", sum := "f9db274cedcff0198687fe72e0a979b9e7a7d3d6e9041331cc6a2d636fd586ae", func := "loop.example/weakmemory/laws.FnExactRunChoices", spec := "fnExactRunChoices", unfollowed := true, recurses := true, apart := false }
def FnExactRunChoicesSaid : Prop := fnExactRunChoicesRow.holds Try.pinned (OpenSpec.ofChange fnExactRunChoicesSpec)

/-- ITS FALSE NEIGHBOUR: 'it returns false'. Refute it at one input. -/
def fnExactRunChoicesWrong : ChangeSpec := { name := "fnExactRunChoices", fn := fun _ => fun
  | [d1, d2] => { results := [.lit (.bool false)], args := [d1, d2] }
  | _ => none }
def FnExactRunChoicesWrongFalsely : Prop := fnExactRunChoicesRow.holds Try.pinned (OpenSpec.ofChange fnExactRunChoicesWrong)

/-- 'laws.FnOutcomeText': WHATEVER THE INPUT: true; the input reads as it did. -/
def fnOutcomeTextSpec : ChangeSpec := { name := "fnOutcomeText", fn := fun _ => fun
  | [d1, d2] => { results := [.lit (.bool true)], args := [d1, d2] }
  | _ => none }
def fnOutcomeTextRow : OpenClaim := { program := "ythlmfjoiicnomaa", sum := "f9db274cedcff0198687fe72e0a979b9e7a7d3d6e9041331cc6a2d636fd586ae", func := "loop.example/weakmemory/laws.FnOutcomeText", spec := "fnOutcomeText", inPlace := ["internal/abi.NoEscape"], unfollowed := true, recurses := true, apart := false }
def FnOutcomeTextSaid : Prop := fnOutcomeTextRow.holds Try.pinned (OpenSpec.ofChange fnOutcomeTextSpec)

/-- ITS FALSE NEIGHBOUR: 'it returns false'. Refute it at one input. -/
def fnOutcomeTextWrong : ChangeSpec := { name := "fnOutcomeText", fn := fun _ => fun
  | [d1, d2] => { results := [.lit (.bool false)], args := [d1, d2] }
  | _ => none }
def FnOutcomeTextWrongFalsely : Prop := fnOutcomeTextRow.holds Try.pinned (OpenSpec.ofChange fnOutcomeTextWrong)

/- THE SECOND FORM. 'bulk': how many values and letters a reading holds, each counted each time it is reached (what is shared counts as often as it is met; a slice's spare places count too). A statement '..UptoSaid' is the law's where the arguments, and the package variables that the reading takes, are together of bulk at most 1048576: NARROWER than '..Said'. Prove '..Said' where nothing that the law and all that it calls make is longer than what came in: it says more and counts as full. Else prove '..UptoSaid'. A law counts once. -/
mutual
def uptoBulk {H : Type} : DataW H → Nat
  | .lit (.string bytes) => bytes.length + 1
  | .lit _ => 1
  | .nil => 1
  | .ptr d => uptoBulk d + 1
  | .slice elems spare => uptoBulkAll elems + uptoBulkAll spare + 1
  | .agg parts => uptoBulkAll parts + 1
  | .iface _ d => uptoBulk d + 1
  | .map entries => uptoBulkEntries entries + 1
  | .held _ => 1
def uptoBulkAll {H : Type} : List (DataW H) → Nat
  | [] => 0
  | d :: r => uptoBulk d + uptoBulkAll r
def uptoBulkEntries {H : Type} : List (Lit × DataW H) → Nat
  | [] => 0
  | x :: r => uptoBulkEntry x + uptoBulkEntries r
def uptoBulkEntry {H : Type} : Lit × DataW H → Nat
  | (.string bytes, d) => bytes.length + uptoBulk d + 1
  | (_, d) => uptoBulk d + 1
 end
def uptoSmall : (H : Type) → List (DataW H) → Bool := fun _ ds => decide (uptoBulkAll ds ≤ 1048576)
def OpenSpec.upto (s : _root_.Go.ChangeSpec) : _root_.Go.OpenSpec := { _root_.Go.OpenSpec.ofChange s with cond := some uptoSmall }

/-- 'laws.FnChoicesLong', WHERE WHAT IT READS IS OF BULK AT MOST 1048576: true; the input reads as it did. -/
def fnChoicesLongUptoRow : OpenClaim := { program := "ythlmfjoiicnomaa", sum := "f9db274cedcff0198687fe72e0a979b9e7a7d3d6e9041331cc6a2d636fd586ae", func := "loop.example/weakmemory/laws.FnChoicesLong", spec := "fnChoicesLong", unfollowed := true, recurses := true, apart := false, narrowed := true }
def FnChoicesLongUptoSaid : Prop := fnChoicesLongUptoRow.holds Try.pinned (OpenSpec.upto fnChoicesLongSpec)

/-- 'laws.FnChoicesAfter', WHERE WHAT IT READS IS OF BULK AT MOST 1048576: true; the input reads as it did. -/
def fnChoicesAfterUptoRow : OpenClaim := { program := "ythlmfjoiicnomaa", sum := "f9db274cedcff0198687fe72e0a979b9e7a7d3d6e9041331cc6a2d636fd586ae", func := "loop.example/weakmemory/laws.FnChoicesAfter", spec := "fnChoicesAfter", unfollowed := true, recurses := true, apart := false, narrowed := true }
def FnChoicesAfterUptoSaid : Prop := fnChoicesAfterUptoRow.holds Try.pinned (OpenSpec.upto fnChoicesAfterSpec)

/-- 'laws.FnExactChoicesAfter', WHERE WHAT IT READS IS OF BULK AT MOST 1048576: true; the input reads as it did. -/
def fnExactChoicesAfterUptoRow : OpenClaim := { program := "ythlmfjoiicnomaa", sum := "f9db274cedcff0198687fe72e0a979b9e7a7d3d6e9041331cc6a2d636fd586ae", func := "loop.example/weakmemory/laws.FnExactChoicesAfter", spec := "fnExactChoicesAfter", unfollowed := true, recurses := true, apart := false, narrowed := true }
def FnExactChoicesAfterUptoSaid : Prop := fnExactChoicesAfterUptoRow.holds Try.pinned (OpenSpec.upto fnExactChoicesAfterSpec)

/-- 'laws.FnExactRunChoices', WHERE WHAT IT READS IS OF BULK AT MOST 1048576: true; the input reads as it did. -/
def fnExactRunChoicesUptoRow : OpenClaim := { program := "ythlmfjoiicnomaa", sum := "f9db274cedcff0198687fe72e0a979b9e7a7d3d6e9041331cc6a2d636fd586ae", func := "loop.example/weakmemory/laws.FnExactRunChoices", spec := "fnExactRunChoices", unfollowed := true, recurses := true, apart := false, narrowed := true }
def FnExactRunChoicesUptoSaid : Prop := fnExactRunChoicesUptoRow.holds Try.pinned (OpenSpec.upto fnExactRunChoicesSpec)

/-- 'laws.FnOutcomeText', WHERE WHAT IT READS IS OF BULK AT MOST 1048576: true; the input reads as it did. -/
def fnOutcomeTextUptoRow : OpenClaim := { program := "ythlmfjoiicnomaa", sum := "f9db274cedcff0198687fe72e0a979b9e7a7d3d6e9041331cc6a2d636fd586ae", func := "loop.example/weakmemory/laws.FnOutcomeText", spec := "fnOutcomeText", inPlace := ["internal/abi.NoEscape"], unfollowed := true, recurses := true, apart := false, narrowed := true }
def FnOutcomeTextUptoSaid : Prop := fnOutcomeTextUptoRow.holds Try.pinned (OpenSpec.upto fnOutcomeTextSpec)

end Rows
end Go.Proofs.Ythlmfjoiicnomaa
