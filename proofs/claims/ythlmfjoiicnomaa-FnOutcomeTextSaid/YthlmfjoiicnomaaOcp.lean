/-
  PROVED HERE: plain facts on outcomes and their texts. CONDITIONS: as each theorem states.
-/
import Derived.Test.YthlmfjoiicnomaaDrq
import Derived.Test.YthlmfjoiicnomaaFoi
import Derived.Test.YthlmfjoiicnomaaPao
import Derived.Test.YthlmfjoiicnomaaWm
namespace Go.Proofs.Ythlmfjoiicnomaa
open Go.RowKit
set_option linter.unusedVariables false
set_option linter.unusedSimpArgs false

theorem fmtOut_no {p : Prg} {o : List Int} (h : outValid p o = false) : fmtOut p o = ⟨#[]⟩ := by unfold fmtOut; rw [h]; rfl
theorem fmtOut_size {p : Prg} {o : List Int} : (fmtOut p o).size ≤ 100 := by
  unfold fmtOut
  split
  · rename_i h
    have h1 := (valid_len h).2
    have := txtTo_size o o.length
    unfold outTxt
    omega
  · exact Nat.zero_le _
theorem out_parse {p : Prg} {o : List Int} (h : outValid p o = true) : parseOut p (fmtOut p o) = (o, true) := by
  have hf : fmtOut p o = outTxt o := by unfold fmtOut; rw [if_pos h]
  rw [hf]
  exact parse_impl_yes (parse_all (valid_len h).1 (valid_len h).2).1.symm h rfl
theorem out_ne {p : Prg} {o : List Int} (h : outValid p o = true) : (fmtOut p o).toList.isEmpty = false := by
  have hf : fmtOut p o = outTxt o := by unfold fmtOut; rw [if_pos h]
  have h1 := (parse_all (valid_len h).1 (valid_len h).2).1
  have h2 := (out_parts h).2.1
  cases he : (fmtOut p o).toList.isEmpty with
  | false => rfl
  | true =>
    exfalso
    rw [hf] at he
    have e := List.isEmpty_iff.1 he
    rw [ByteArray.toList_eq] at e
    have : bytes (outTxt o) = [] := e
    rw [this] at h1
    have : o = [] := h1.symm
    rw [this] at h2
    simp at h2
theorem parse_fmt {p : Prg} {s : ByteArray} {o : List Int} (h : parseOut p s = (o, true)) : fmtOut p o = s := by
  unfold parseOut at h
  split at h
  · rename_i hv
    have e : pI (bytes s) = o := congrArg Prod.fst h
    rw [e] at hv
    unfold fmtOut
    rw [if_pos hv.1]
    exact hv.2
  · cases h
end Go.Proofs.Ythlmfjoiicnomaa
