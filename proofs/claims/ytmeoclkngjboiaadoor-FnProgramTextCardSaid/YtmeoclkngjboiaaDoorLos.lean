/-
  PROVED HERE: what LocsOf of both packages does. CONDITIONS: as each theorem states.
-/
import Derived.Test.YtmeoclkngjboiaaDoorLoc
namespace Go.Proofs.YtmeoclkngjboiaaDoor
open Go.RowKit
set_option linter.unusedVariables false
set_option linter.unusedSimpArgs false

def hasLoc (p : Prg) (l : Int) : Bool := decide (0 < cnt p l true + cnt p l false)
def locsTo (p : Prg) : Nat → List Int
  | 0 => []
  | k + 1 => locsTo p k ++ if hasLoc p (k : Nat) then [((k : Nat) : Int)] else []
theorem locsTo_all {p : Prg} (h : progValid p = true) : locsTo p 3 = locsP p := by
  unfold locsP
  rw [if_pos h]
  show [] ++ (if hasLoc p ((0 : Nat) : Int) then [((0 : Nat) : Int)] else []) ++ (if hasLoc p ((1 : Nat) : Int) then [((1 : Nat) : Int)] else []) ++ (if hasLoc p ((2 : Nat) : Int) then [((2 : Nat) : Int)] else []) = [0, 1, 2].filter (hasLoc p)
  simp only [List.filter_cons, List.filter_nil]
  cases e0 : hasLoc p 0 <;> cases e1 : hasLoc p 1 <;> cases e2 : hasLoc p 2 <;> simp [e0, e1, e2]
theorem locsTo_le (p : Prg) : ∀ k, (locsTo p k).length ≤ k
  | 0 => Nat.le_refl _
  | k + 1 => by
    have := locsTo_le p k
    show (locsTo p k ++ _).length ≤ _
    rw [List.length_append]
    split <;> simp <;> omega
theorem locsP_le (p : Prg) : (locsP p).length ≤ 1048576 := by
  unfold locsP
  split
  · exact Nat.le_trans (List.length_filter_le _ _) (by decide)
  · simp

/-- The locations of the first i threads, and of k instructions of the next. -/
theorem locL_succ {p : Prg} {i : Nat} {xs : List Ins} (h : p[i]? = some xs) : locL (p.take (i + 1)) = locL (p.take i) ++ locR xs := by
  obtain ⟨hi, rfl⟩ := List.getElem?_eq_some_iff.1 h
  unfold locL
  rw [List.take_succ_eq_append_getElem hi, List.flatMap_append]
  simp
theorem locR_succ {xs : List Ins} {k : Nat} {x : Ins} (h : xs[k]? = some x) : locR (xs.take (k + 1)) = locR (xs.take k) ++ if evB x then [x.loc] else [] := by
  obtain ⟨hi, rfl⟩ := List.getElem?_eq_some_iff.1 h
  unfold locR
  rw [List.take_succ_eq_append_getElem hi, List.filter_append, List.map_append]
  congr 1
  cases e : evB xs[k] <;> simp [e]
theorem locL_all (p : Prg) : locL (p.take p.length) = locL p := by rw [List.take_length]
theorem locR_all (xs : List Ins) : locR (xs.take xs.length) = locR xs := by rw [List.take_length]
theorem locR_len (xs : List Ins) (k : Nat) : (locR (xs.take k)).length ≤ xs.length := by
  unfold locR
  rw [List.length_map]
  exact Nat.le_trans (List.length_filter_le _ _) (by rw [List.length_take]; omega)
theorem locL_len {p : Prg} (h : Shape p) (i : Nat) : (locL (p.take i)).length ≤ 12 := by
  rw [length_locL]
  have h1 : tot evB (p.take i) ≤ tot evB p := by
    unfold tot
    have e : p.map (List.countP evB) = (p.take i).map (List.countP evB) ++ (p.drop i).map (List.countP evB) := by rw [← List.map_append, List.take_append_drop]
    rw [e, List.sum_append]
    omega
  exact Nat.le_trans h1 h.ev

end Go.Proofs.YtmeoclkngjboiaaDoor
