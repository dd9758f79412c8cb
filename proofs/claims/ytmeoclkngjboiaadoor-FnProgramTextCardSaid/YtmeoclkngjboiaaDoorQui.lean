/-
  PROVED HERE: a region that draws its order, whose operations read old blocks and whose callees only lay new ones: one walk in the order of the text. CONDITIONS: as each theorem states.
-/
import Derived.Test.YtmeoclkngjboiaaDoorRow
namespace Go.Proofs.YtmeoclkngjboiaaDoor
open Go.RowKit
set_option linter.unusedVariables false
set_option linter.unusedSimpArgs false

/-- The worlds that come of w by laying new blocks. -/
structure Cl (w w' : World) : Prop where
  b : Below w.heap.size w w'
theorem wp_region_fresh {id : Nat} {Q : Exit → Act → World → Prop} {a : Act} {w : World} {l : List Oper} (hm : Tryd.prog.follows .mixedOrders = true) (hB : Region.lexB .any l.toArray = true)
    (h : wpQuiet Tryd.prog l.toArray (Cl w) (fun a' => ∀ w', Cl w w' → Q .normal a' w') l a) : (Code.region id l.toArray true).wp Tryd.prog Q a w :=
  wp_region_quiet (C := Cl w) hm hB ⟨below_drewN 1 (Below.refl _ _)⟩ (by simpa using h)
theorem calls_fresh {f : FuncId} {args : Array Value} {w w' : World} {v : Value} (hb : Cl w w') (h : Calls Tryd.prog f args w' fun e w'' => e = .returned v ∧ Below w'.heap.size w' w'') : Calls Tryd.prog f args w' fun e w'' => e = .returned v ∧ Cl w w'' :=
  h.mono fun e w'' ⟨h1, h2⟩ => ⟨h1, ⟨hb.b.trans (h2.mono hb.b.size)⟩⟩
theorem quiet_load4 {ops : Array Oper} {C : World → Prop} {Q : Act → Prop} {rest : List Oper} {a : Act} {dst : Option Tmp} {ty : TypeId} {pos : String} {after : Array Edge} {g : Option (Nat × Bool)} (k H : Nat) (x : Ins)
    (hw : Region.wanted ⟨dst, .load 46 (.tmp k), ty, pos, after, g⟩ (yielded ops a.tmps) = true) (ha : a.eval (.tmp k) = .pointer (some ⟨H, 0, none⟩)) (hX : ∀ W, C W → Box W H x) (h : wpQuiet Tryd.prog ops C Q rest (a.put dst x.v)) : wpQuiet Tryd.prog ops C Q (⟨dst, .load 46 (.tmp k), ty, pos, after, g⟩ :: rest) a := by
  show if _ then _ else _
  rw [if_pos hw]
  refine ⟨x.v, fun W hW => ?_, h⟩
  obtain ⟨q0, q1, q2, q3⟩ := hX W hW
  unfold Oper.quietAt execOp
  simp only [ha]
  go_simp
end Go.Proofs.YtmeoclkngjboiaaDoor
