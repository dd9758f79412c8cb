/-
  PROVED HERE: what newSeq, (*seq).moves, done do. CONDITIONS: as each theorem states.
-/
import Derived.Test.YthlmfjoiicnomaaImc
import Derived.Test.YthlmfjoiicnomaaSpg
namespace Go.Proofs.Ythlmfjoiicnomaa
open Go.RowKit
set_option linter.unusedVariables false
set_option linter.unusedSimpArgs false

/-- The state s of a machine of type T, whose other cells are ex, lies at block g. -/
structure MAt (T : TypeId) (ex : List Value) (w : World) (g : Nat) (p : Prg) (s : St) : Prop where
  at_ : ∃ a cap, w.heap[g]? = some (.cells (valC a p.length cap s ++ ex).toArray T (0, 0)) ∧ RdP w a p
  good : Good p s
theorem MAt.v {T : TypeId} {ex : List Value} {w : World} {g : Nat} {p : Prg} {s : St} (h : MAt T ex w g p s) : VAt w g p s := by
  obtain ⟨⟨a, cap, h1, h2⟩, hg⟩ := h
  exact ⟨⟨a, cap, ex, T, h1, h2⟩, hg⟩
theorem MAt.below {T : TypeId} {ex : List Value} {w w' : World} {g : Nat} {p : Prg} {s : St} (h : MAt T ex w g p s) (hb : Below w.heap.size w w') : MAt T ex w' g p s := by
  obtain ⟨⟨a, cap, h1, h2⟩, hg⟩ := h
  exact ⟨⟨a, cap, by rw [hb.block g (Array.getElem?_eq_some_iff.1 h1).1]; exact h1, h2.below hb⟩, hg⟩
theorem valC_start (a : Option Addr) (n cap : Nat) (p : Prg) (hp : p.length ≤ 3) (b : Nat) : valC a n cap (start3 p b) = .slice a n cap :: List.replicate 15 (.int .u8 0) := by
  have e1 : pad 3 (List.replicate p.length 0) = List.replicate 3 0 := by
    unfold pad
    rw [List.length_replicate, ← List.replicate_append_replicate.symm]
    congr 1
    omega
  have e2 : pad 9 (List.replicate (p.length * 3) 0) = List.replicate 9 0 := by
    unfold pad
    rw [List.length_replicate, ← List.replicate_append_replicate.symm]
    congr 1
    omega
  unfold valC start3
  dsimp only
  rw [e1, e2]
  rfl

def movesTo (p : Prg) (s : St) (k : Nat) : List Int := ((List.range k).filter (goes p s)).map fun (t : Nat) => (t : Int)
theorem movesTo_succ (p : Prg) (s : St) (k : Nat) : movesTo p s (k + 1) = movesTo p s k ++ if goes p s k then [(k : Int)] else [] := by
  unfold movesTo
  rw [List.range_succ, List.filter_append, List.map_append]
  congr 1
  by_cases h : goes p s k = true
  · simp [h]
  · simp [h]
theorem movesTo_len (p : Prg) (s : St) (k : Nat) : (movesTo p s k).length ≤ k := by
  unfold movesTo
  rw [List.length_map]
  have := List.length_filter_le (goes p s) (List.range k)
  simpa using this

end Go.Proofs.Ythlmfjoiicnomaa
