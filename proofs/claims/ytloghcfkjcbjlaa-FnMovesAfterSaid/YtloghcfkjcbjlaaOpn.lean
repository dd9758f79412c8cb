/-
  PROVED HERE: how an argument that is an instruction or a program reads. CONDITIONS: as each theorem states.
-/
import Derived.Test.YtloghcfkjcbjlaaPrgA
import Derived.Deep.Slices
import Derived.Lib.SmallJoins
import Derived.ShutString
import Derived.ChangeOld
namespace Go.Proofs.Ytloghcfkjcbjlaa
open Go.ChangeShapes Go.WideShapes Go.ChangeAt Go.RowKit Go.Deep
set_option linter.unusedVariables false
set_option linter.unusedSimpArgs false

theorem len4 {α : Type} {cs : List α} (h : cs.length = 4) : ∃ a b c d, cs = [a, b, c, d] := by
  match cs, h with
  | [a, b, c, d], _ => exact ⟨a, b, c, d, rfl⟩
/-- Block g holds the instruction x. -/
def Box (w : World) (g : Nat) (x : Ins) : Prop :=
  w.cell? ⟨g, 0, none⟩ = some (.int .i64 x.op) ∧ w.cell? ⟨g, 1, none⟩ = some (.int .i64 x.loc) ∧ w.cell? ⟨g, 2, none⟩ = some (.int .i64 x.reg) ∧ w.cell? ⟨g, 3, none⟩ = some (.int .i64 x.val)
theorem Box.below {w w' : World} {B g : Nat} {x : Ins} (h : Box w g x) (hb : Below B w w') (hlt : g < B) : Box w' g x :=
  ⟨(hb.cell (p := ⟨g, 0, none⟩) hlt).trans h.1, (hb.cell (p := ⟨g, 1, none⟩) hlt).trans h.2.1, (hb.cell (p := ⟨g, 2, none⟩) hlt).trans h.2.2.1, (hb.cell (p := ⟨g, 3, none⟩) hlt).trans h.2.2.2⟩
theorem Box.new (w : World) (x : Ins) (t : Nat) : Box (w.alloc (.cells #[.int .i64 x.op, .int .i64 x.loc, .int .i64 x.reg, .int .i64 x.val] t)) w.heap.size x := by
  unfold Box
  simp
instance : Inhabited Ins := ⟨insZ⟩
end Go.Proofs.Ytloghcfkjcbjlaa
