/-
  PROVED HERE: words for the closure of impl.search: the cells that it shares, what it leaves. CONDITIONS: as each lemma states.
-/
import Derived.Test.YtbncmeggnhggkaaSeb
import Derived.Test.YtbncmeggnhggkaaBmp
import Derived.Test.YtbncmeggnhggkaaEql
import Derived.Test.YtbncmeggnhggkaaIsk
import Derived.Carry
namespace Go.Proofs.Ytbncmeggnhggkaa
open Go.RowKit
set_option linter.unusedVariables false
set_option linter.unusedSimpArgs false

/-- The closure: it shares the cells of failed, o, moves and from. -/
abbrev fromV (S0 : Nat) : Value := .func (Fn.func 87) #[] #[.pointer (some ⟨S0 + 2, 0, none⟩), .pointer (some ⟨S0, 0, none⟩), .pointer (some ⟨S0 + 4, 0, none⟩), .pointer (some ⟨S0 + 5, 0, none⟩)]
/-- What the search shares, from block S0 on: o, the map of failed texts and its cell, the moves so far, the closure. -/
structure SrW (w0 w : World) (ao : Option Addr) (no co S0 : Nat) (L : List (List UInt8)) (ra : Option Addr) (rc m : Nat) (ms : List Int) : Prop where
  below : Below w0.heap.size w0 w
  s0 : w0.heap.size ≤ S0
  top : S0 + 6 ≤ w.heap.size
  c0 : w.heap[S0]? = some (.cells #[.slice ao no co] 23 (0, 0))
  mp : BMap w (S0 + 1) L
  c2 : w.heap[S0 + 2]? = some (.cells #[.map (some (S0 + 1))] 127 (0, 0))
  c4 : w.heap[S0 + 4]? = some (.cells #[.slice ra m rc] 23 (0, 0))
  c5 : w.heap[S0 + 5]? = some (.cells #[fromV S0] 128 (0, 0))
  row : w.ownsRow (S0 + 3) 3 1 (.slice ra m rc) m (ints ms)
  rb : ∀ b, blk ra = some b → b = S0 + 3 ∨ S0 + 6 ≤ b
/-- The blocks that the closure turns. -/
def SrS (S0 : Nat) (ra : Option Addr) (k : Nat) : Prop := k = S0 + 1 ∨ k = S0 + 4 ∨ blk ra = some k
/-- A state of the plain machine at block b, beside what the search turns. -/
structure SqA (w : World) (a : Option Addr) (cap : Nat) (p : Prg) (S0 : Nat) (ra : Option Addr) (b : Nat) (s : St) : Prop where
  at_ : w.heap[b]? = some (.cells (valC a p.length cap s ++ []).toArray 94 (0, 0))
  ns : ¬ SrS S0 ra b
section
variable {w0 w w' : World} {ao ra ra' : Option Addr} {no co S0 rc rc' m b cap : Nat} {L L' : List (List UInt8)} {ms : List Int} {a : Option Addr} {p : Prg} {s : St}
theorem SqA.lt (h : SqA w a cap p S0 ra b s) : b < w.heap.size := (Array.getElem?_eq_some_iff.1 h.at_).1
theorem SqA.below (h : SqA w a cap p S0 ra b s) (hb : Below w.heap.size w w') : SqA w' a cap p S0 ra b s := ⟨(hb.block _ h.lt).trans h.at_, h.ns⟩
/-- It stays where the closure has run, the moves' row lying where it lay or in a new block. -/
theorem SqA.turn (h : SqA w a cap p S0 ra b s) (hk : Keeps (SrS S0 ra) w w') (hr : ∀ k, blk ra' = some k → blk ra = some k ∨ w.heap.size ≤ k) : SqA w' a cap p S0 ra' b s := by
  refine ⟨(hk.block _ h.lt h.ns).trans h.at_, fun e => ?_⟩
  rcases e with e | e | e
  · exact h.ns (.inl e)
  · exact h.ns (.inr (.inl e))
  · rcases hr b e with h1 | h1
    · exact h.ns (.inr (.inr h1))
    · have := h.lt; omega
theorem SrW.step (h : SrW w0 w ao no co S0 L ra rc m ms) (hb : Below w.heap.size w w') : SrW w0 w' ao no co S0 L ra rc m ms := by
  have ht := h.top
  have hs := hb.size
  exact ⟨h.below.trans (hb.mono h.below.size), h.s0, by omega, (hb.block _ (by omega)).trans h.c0, h.mp.keeps (S := fun _ => False) (Keeps.of_below hb) (fun e => e), (hb.block _ (by omega)).trans h.c2, (hb.block _ (by omega)).trans h.c4, (hb.block _ (by omega)).trans h.c5, own_below h.row hb, h.rb⟩
theorem SqA.mat (h : SqA w a cap p S0 ra b s) (hp : RdP w a p) (hg : Good p s) : MAt 94 [] w b p s := ⟨⟨a, cap, h.at_, hp⟩, hg⟩
end
/-- What the closure leaves. -/
def FromPost (w0 w : World) (p : Prg) (o : List Int) (ao : Option Addr) (no co S0 : Nat) (L : List (List UInt8)) (ra : Option Addr) (ms : List Int) (s : St) (n : Nat) (e : Ending) (w' : World) : Prop :=
  ∃ (B : Bool) (π : List Int) (L' : List (List UInt8)) (ra' : Option Addr) (rc' m' : Nat), e = .returned (.bool B) ∧ ((bestS p o s = some π ∧ B = true) ∨ (bestS p o s = none ∧ B = false ∧ π = [])) ∧ m' = (ms ++ π).length ∧ SrW w0 w' ao no co S0 L' ra' rc' m' (ms ++ π) ∧ FailOk p o L' ∧ GrowF p L L' (n + 1) ∧
    Keeps (SrS S0 ra) w w' ∧ ∀ k, blk ra' = some k → blk ra = some k ∨ w.heap.size ≤ k
def FromC (w0 : World) (a : Option Addr) (cap : Nat) (p : Prg) (o : List Int) (ao : Option Addr) (no co S0 n : Nat) : Prop :=
  ∀ (w : World) (b : Nat) (s : St) (L : List (List UInt8)) (ra : Option Addr) (rc m : Nat) (ms : List Int), left4 p s = n → G3 p s → m = ms.length → m + left4 p s ≤ 1000 → SrW w0 w ao no co S0 L ra rc m ms → SqA w a cap p S0 ra b s → FailOk p o L →
    Calls Try.prog 87 #[.iface 88 (.pointer (some ⟨b, 0, none⟩)), .pointer (some ⟨S0 + 2, 0, none⟩), .pointer (some ⟨S0, 0, none⟩), .pointer (some ⟨S0 + 4, 0, none⟩), .pointer (some ⟨S0 + 5, 0, none⟩)] w (FromPost w0 w p o ao no co S0 L ra ms s n)
end Go.Proofs.Ytbncmeggnhggkaa
