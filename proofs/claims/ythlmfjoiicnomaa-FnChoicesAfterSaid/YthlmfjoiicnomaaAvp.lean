/-
  PROVED HERE: words for a program that lies away from the block of the source of numbers. CONDITIONS: as each lemma states.
-/
import Derived.Test.YthlmfjoiicnomaaDrj
namespace Go.Proofs.Ythlmfjoiicnomaa
open Go.RowKit
set_option linter.unusedVariables false
set_option linter.unusedSimpArgs false

/-- The program p stands from the address a on, away from block g. -/
def AvP (w : World) (g : Nat) (a : Option Addr) (p : Prg) : Prop :=
  ∃ rs : List (Option Addr × Nat), rs.length = p.length ∧ Rd w a (rowsV rs p) ∧ (∀ b, blk a = some b → b ≠ g) ∧ ∀ (k : Nat) r xs, rs[k]? = some r → p[k]? = some xs → Rd w r.1 (insV xs) ∧ xs.length ≤ r.2 ∧ ∀ b, blk r.1 = some b → b ≠ g
theorem AvP.rd {w : World} {g : Nat} {a : Option Addr} {p : Prg} (h : AvP w g a p) : RdP w a p := by
  obtain ⟨rs, hl, ho, _, hi⟩ := h
  exact ⟨rs, hl, ho, fun k r xs h1 h2 => ⟨(hi k r xs h1 h2).1, (hi k r xs h1 h2).2.1⟩⟩
theorem AvP.kept {w w' : World} {g : Nat} {a : Option Addr} {p : Prg} (h : AvP w g a p) (hg : w.grownBy w' (some g)) : AvP w' g a p := by
  obtain ⟨rs, hl, ho, ha, hi⟩ := h
  refine ⟨rs, hl, ho.grown hg fun b hb e => ha b hb (Option.some.inj e), ha, fun k r xs h1 h2 => ?_⟩
  obtain ⟨q1, q2, q3⟩ := hi k r xs h1 h2
  exact ⟨q1.grown hg fun b hb e => q3 b hb (Option.some.inj e), q2, q3⟩
theorem AvP.below {w w' : World} {g : Nat} {a : Option Addr} {p : Prg} (h : AvP w g a p) (hb : Below w.heap.size w w') : AvP w' g a p :=
  h.kept (grown_below hb (some g))
theorem OwP.av {w : World} {base top cap g : Nat} {a : Option Addr} {p : Prg} (h : OwP w base top a cap p) (hg : g < base) : AvP w g a p := by
  obtain ⟨rs, hl, ho, hi, _⟩ := h
  exact ⟨rs, hl, Rd.own ho, fun b hb e => by have := (own_blk ho b hb).1; omega, fun k r xs h1 h2 => ⟨Rd.own (hi k r xs h1 h2), own_cap (hi k r xs h1 h2), fun b hb e => by have := (own_blk (hi k r xs h1 h2) b hb).1; omega⟩⟩
theorem OwP.cap {w : World} {base top cap : Nat} {a : Option Addr} {p : Prg} (h : OwP w base top a cap p) : p.length ≤ cap := by
  obtain ⟨rs, hl, ho, _⟩ := h
  exact own_cap ho
theorem own_kept_g {w w' : World} {base e size n g : Nat} {a : Option Addr} {cap : Nat} {cs : List Value} (h : w.ownsRow base e size (.slice a n cap) n cs) (hg : w.grownBy w' (some g)) (hlt : g < base) : w'.ownsRow base e size (.slice a n cap) n cs :=
  own_kept h hg fun b hb he => by have := (own_blk h b hb).1; have := Option.some.inj he; omega
theorem OwP.kept_g {w w' : World} {base top cap g : Nat} {a : Option Addr} {p : Prg} (h : OwP w base top a cap p) (hg : w.grownBy w' (some g)) (hlt : g < base) : OwP w' base top a cap p :=
  h.keeps (S := fun k => some g = some k) (Keeps.of_grown hg fun k hk => hk) fun b hb _ he => by have := Option.some.inj he; omega
/-- What a drawn program is: a program away from block g, of which so many numbers have been taken. -/
def Drawn (w w' : World) (g : Nat) (bs : List Int) (q0 n : Nat) (e : Ending) : Prop :=
  ∃ (p : Prg) (a : Option Addr) (cap q : Nat), e = .returned (.slice a p.length cap) ∧ p.length ≤ cap ∧ cap ≤ 1000000 ∧ AvP w' g a p ∧ sizeP p ≤ n ∧ Rdr w' g bs q ∧ q ≤ q0 ∧ w.grownBy w' (some g)
end Go.Proofs.Ythlmfjoiicnomaa
