/-
  PROVED HERE: plain facts on counts of instructions. CONDITIONS: as each lemma states.
-/
import Derived.Test.YtciplfdgjbehgaaFac
namespace Go.Proofs.Ytciplfdgjbehgaa
set_option linter.unusedVariables false
set_option linter.unusedSimpArgs false

/-- How many instructions there are of the kinds 1 to j - 1. -/
def sumC (p : Prg) : Nat → Nat
  | 0 => 0
  | j + 1 => sumC p j + if 1 ≤ j then countOps p j else 0
theorem sumC_succ (p : Prg) (j : Nat) : sumC p (j + 1) = sumC p j + if 1 ≤ j then countOps p j else 0 := rfl
theorem countOps_le (p : Prg) (op : Int) (h : sizeP p ≤ 100) : countOps p op ≤ 100 := by
  unfold countOps
  split
  · have : ∀ q : Prg, tot (opB op) q ≤ (q.map List.length).sum := by
      intro q
      induction q with
      | nil => exact Nat.le_refl _
      | cons xs q ih =>
        rw [tot_cons, List.map_cons, List.sum_cons]
        exact Nat.add_le_add List.countP_le_length ih
    have := this p
    unfold sizeP at h
    omega
  · omega
theorem sumC_le (p : Prg) (j : Nat) (h : sizeP p ≤ 100) : sumC p j ≤ 100 * j := by
  induction j with
  | zero => exact Nat.le_refl _
  | succ j ih =>
    rw [sumC_succ]
    have := countOps_le p j h
    split <;> omega
theorem sumC_six (p : Prg) : sumC p 6 = countOps p 1 + countOps p 2 + countOps p 3 + countOps p 4 + countOps p 5 := by
  simp [sumC]
end Go.Proofs.Ytciplfdgjbehgaa
