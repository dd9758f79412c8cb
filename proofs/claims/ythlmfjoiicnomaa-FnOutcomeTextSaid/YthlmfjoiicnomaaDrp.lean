/-
  PROVED HERE: what spec.DrawProgramValid, DrawCountOps, DrawProgramSame and the draws that call them do. CONDITIONS: as each theorem states.
-/
import Derived.Test.YthlmfjoiicnomaaMut
namespace Go.Proofs.Ythlmfjoiicnomaa
open Go.RowKit
set_option linter.unusedVariables false
set_option linter.unusedSimpArgs false

/-- A program that has been drawn. -/
def DrawnP (w w' : World) (e : Ending) : Prop :=
  ∃ (p : Prg) (a : Option Addr) (cap : Nat), e = .returned (.slice a p.length cap) ∧ p.length ≤ cap ∧ RdP w' a p ∧ sizeP p ≤ 100 ∧ Below w.heap.size w w'
theorem DrawnP.of {w w' : World} {p : Prg} {a : Option Addr} {cap n : Nat} (hn : p.length = n) (h1 : p.length ≤ cap) (h2 : RdP w' a p) (h3 : sizeP p ≤ 100) (h4 : Below w.heap.size w w') : DrawnP w w' (.returned (.slice a n cap)) := by
  subst hn
  exact ⟨p, a, cap, rfl, h1, h2, h3, h4⟩
/-- Three empty threads that have just been laid. -/
theorem OwP.three (w : World) (base : Nat) (hb : base ≤ w.heap.size) : OwP ((((w.alloc (.cells #[] 70)).alloc (.cells #[] 70)).alloc (.cells #[] 70)).alloc (.cells #[.slice (some ⟨w.heap.size, 0, none⟩) 0 0, .slice (some ⟨w.heap.size + 1, 0, none⟩) 0 0, .slice (some ⟨w.heap.size + 1 + 1, 0, none⟩) 0 0] 30)) base (w.heap.size + 4) (some ⟨w.heap.size + 1 + 1 + 1, 0, none⟩) 3 [[], [], []] := by
  have o1 := own_lit0 w base 70 4 hb
  have o2 := own_lit0 (w.alloc (.cells #[] 70)) base 70 4 (by simp; omega)
  have o3 := own_lit0 ((w.alloc (.cells #[] 70)).alloc (.cells #[] 70)) base 70 4 (by simp; omega)
  have e1 : (w.alloc (.cells #[] 70)).heap.size = w.heap.size + 1 := by simp
  have e2 : ((w.alloc (.cells #[] 70)).alloc (.cells #[] 70)).heap.size = w.heap.size + 1 + 1 := by simp
  have e3 : (((w.alloc (.cells #[] 70)).alloc (.cells #[] 70)).alloc (.cells #[] 70)).heap.size = w.heap.size + 1 + 1 + 1 := by simp
  rw [e1] at o2
  rw [e2] at o3
  refine ⟨[(some ⟨w.heap.size, 0, none⟩, 0), (some ⟨w.heap.size + 1, 0, none⟩, 0), (some ⟨w.heap.size + 1 + 1, 0, none⟩, 0)], rfl, ?_, ?_, ?_, ?_, ?_⟩
  · refine ⟨rfl, .inr ⟨w.heap.size + 1 + 1 + 1, 3, _, rfl, by omega, (by rw [← e3]; exact heap_alloc_new _ _), by decide, by decide, rfl, rfl⟩⟩
  · intro k r xs hr hx
    match k, hr, hx with
    | 0, hr, hx => simp only [List.getElem?_cons_zero, Option.some.injEq] at hr hx; subst hr hx; exact ((o1.alloc _).alloc _).alloc _
    | 1, hr, hx => simp only [List.getElem?_cons_zero, List.getElem?_cons_succ, Option.some.injEq] at hr hx; subst hr hx; exact (o2.alloc _).alloc _
    | 2, hr, hx => simp only [List.getElem?_cons_zero, List.getElem?_cons_succ, Option.some.injEq] at hr hx; subst hr hx; exact o3.alloc _
    | k + 3, hr, hx => simp at hr
  · intro i k r s b hr hs hbr hbs
    match i, k, hr, hs with
    | 0, 0, _, _ => rfl
    | 1, 1, _, _ => rfl
    | 2, 2, _, _ => rfl
    | 0, 1, hr, hs => simp at hr hs; subst hr hs; simp [blk] at hbr hbs; omega
    | 0, 2, hr, hs => simp at hr hs; subst hr hs; simp [blk] at hbr hbs; omega
    | 1, 0, hr, hs => simp at hr hs; subst hr hs; simp [blk] at hbr hbs; omega
    | 1, 2, hr, hs => simp at hr hs; subst hr hs; simp [blk] at hbr hbs; omega
    | 2, 0, hr, hs => simp at hr hs; subst hr hs; simp [blk] at hbr hbs; omega
    | 2, 1, hr, hs => simp at hr hs; subst hr hs; simp [blk] at hbr hbs; omega
    | i + 3, _, hr, _ => simp at hr
    | _, k + 3, _, hs => simp at hs
  · intro k r b hr hbr
    match k, hr with
    | 0, hr => simp at hr; subst hr; simp [blk] at hbr; omega
    | 1, hr => simp at hr; subst hr; simp [blk] at hbr; omega
    | 2, hr => simp at hr; subst hr; simp [blk] at hbr; omega
    | k + 3, hr => simp at hr
  · intro b hb
    simp [blk] at hb
    omega

end Go.Proofs.Ythlmfjoiicnomaa
