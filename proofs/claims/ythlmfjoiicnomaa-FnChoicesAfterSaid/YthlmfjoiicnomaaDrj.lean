/-
  PROVED HERE: what spec.DrawInstrValid does: it draws an instruction. CONDITIONS: as each theorem states.
-/
import Derived.Test.YthlmfjoiicnomaaDri
namespace Go.Proofs.Ythlmfjoiicnomaa
open Go.RowKit
set_option linter.unusedVariables false
set_option linter.unusedSimpArgs false

theorem rd_lit (w : World) (xs : List Int) (e : Nat) : Rd (w.alloc (.cells (ints xs).toArray e)) (some ⟨w.heap.size, 0, none⟩) (ints xs) :=
  .inr ⟨w.heap.size, 0, rfl, by simp, fun j u hj => by rw [cell_of_row _ w.heap.size (0 + j) _ e (0, 0) (heap_alloc_new w _)]; simpa using hj⟩
/-- A number of a list that has just been laid. -/
theorem numLit (w : World) (g : Nat) (bs : List Int) (p : Nat) (xs : List Int) (h : Rdr w g bs p) (hp : p ≤ 1000000) (h0 : 0 < xs.length) (hl : xs.length ≤ 1000) :
    Calls Try.prog 60 #[.pointer (some ⟨g, 0, none⟩), .slice (some ⟨w.heap.size, 0, none⟩) xs.length xs.length] (w.alloc (.cells (ints xs).toArray 3)) fun e w' => ∃ x : Int, e = .returned (.int .i64 x) ∧ x ∈ xs ∧ Rdr w' g bs (p + 1) ∧ w.grownBy w' (some g) :=
  (num_c _ g bs p _ _ xs (rdr_alloc h _) hp (rd_lit w xs _) (fun b hb => by simp [blk] at hb; have := h.lt; omega) h0 hl).mono fun e w' ⟨x, h1, h2, h3, h4⟩ => ⟨x, h1, h2, h3, grown_trans (World.grownBy_alloc w _ (some g)) h4 (fun k hk => .inl hk.symm)⟩
/-- Block H holds an instruction. -/
def Blk4 (w : World) (H : Nat) (o l r v : Int) : Prop := w.heap[H]? = some (.cells #[.int .i64 o, .int .i64 l, .int .i64 r, .int .i64 v] 70 (0, 0))
theorem Blk4.facts {w : World} {G : Nat} {o l r v : Int} (h : Blk4 w G o l r v) : (w.cell? ⟨G, 0, none⟩ = some (.int .i64 o) ∧ w.cell? ⟨G, 1, none⟩ = some (.int .i64 l) ∧ w.cell? ⟨G, 2, none⟩ = some (.int .i64 r) ∧ w.cell? ⟨G, 3, none⟩ = some (.int .i64 v)) ∧
    w.frozen? ⟨G, 0, none⟩ = false ∧ w.frozen? ⟨G, 1, none⟩ = false ∧ w.frozen? ⟨G, 2, none⟩ = false ∧ w.frozen? ⟨G, 3, none⟩ = false := by
  refine ⟨⟨?_, ?_, ?_, ?_⟩, ?_, ?_, ?_, ?_⟩
  · rw [cell_of_row w G 0 _ _ _ h]; rfl
  · rw [cell_of_row w G 1 _ _ _ h]; rfl
  · rw [cell_of_row w G 2 _ _ _ h]; rfl
  · rw [cell_of_row w G 3 _ _ _ h]; rfl
  · exact frozen_of_row w G 0 _ _ h
  · exact frozen_of_row w G 1 _ _ h
  · exact frozen_of_row w G 2 _ _ h
  · exact frozen_of_row w G 3 _ _ h
theorem Blk4.kept {w w' : World} {g G : Nat} {o l r v : Int} (h : Blk4 w G o l r v) (hg : w.grownBy w' (some g)) (hne : G ≠ g) : Blk4 w' G o l r v := by
  unfold Blk4 at h ⊢
  rw [hg.block G (Array.getElem?_eq_some_iff.1 h).1 (fun e => hne (by simpa using e))]
  exact h
theorem Blk4.put {w : World} {G : Nat} {o l r v : Int} (h : Blk4 w G o l r v) (o' l' r' v' : Int) : Blk4 (putIns w G o' l' r' v') G o' l' r' v' := by
  have h1 := heap_setCell_same w G 0 _ _ (.int .i64 o') h
  have h2 := heap_setCell_same _ G 1 _ _ (.int .i64 l') h1
  have h3 := heap_setCell_same _ G 2 _ _ (.int .i64 r') h2
  exact heap_setCell_same _ G 3 _ _ (.int .i64 v') h3
theorem put_grown (w : World) (G : Nat) (o l r v : Int) : w.grownBy (putIns w G o l r v) (some G) :=
  grown_trans (grown_trans (grown_trans (grown_set w G 0 _) (grown_set _ G 1 _) (fun k hk => .inl hk.symm)) (grown_set _ G 2 _) (fun k hk => .inl hk.symm)) (grown_set _ G 3 _) (fun k hk => .inl hk.symm)
theorem below_grown {B : Nat} {a w w' : World} {g : Nat} (h : Below B a w) (hg : w.grownBy w' (some g)) (hB : B ≤ g) (hs : B ≤ w.heap.size) : Below B a w' :=
  h.grown hg hs (fun k hk => by cases hk; exact hB)
theorem below_put {B G : Nat} {a w : World} (h : Below B a w) (hG : B ≤ G) (o l r v : Int) : Below B a (putIns w G o l r v) := below_set4 h hG _ _ _ _ _ _ _ _
theorem below_set1 {B G : Nat} {a w : World} (h : Below B a w) (hG : B ≤ G) (k : Nat) (u : Value) : Below B a (w.setCell ⟨G, k, none⟩ u) := h.setCell hG _
theorem Zed.blk {w : World} {G : Nat} (h : Zed w G) : Blk4 w G 0 0 0 0 := h

/-- A program of one instruction that has just been laid. -/
theorem RdP.one (w : World) (x : Ins) : RdP ((w.alloc (.cells #[.int .i64 x.op, .int .i64 x.loc, .int .i64 x.reg, .int .i64 x.val] 70)).alloc (.cells #[.slice (some ⟨w.heap.size, 0, none⟩) 1 1] 30)) (some ⟨w.heap.size + 1, 0, none⟩) [[x]] := by
  refine ⟨[(some ⟨w.heap.size, 0, none⟩, 1)], rfl, .inr ⟨w.heap.size + 1, 0, rfl, by simp, ?_⟩, ?_⟩
  · intro j u hj
    match j, hj with
    | 0, hj =>
      simp [rowsV] at hj
      subst hj
      simp
    | j + 1, hj => simp [rowsV] at hj
  · intro k r xs hr hx
    match k, hr, hx with
    | 0, hr, hx =>
      simp only [List.getElem?_cons_zero, Option.some.injEq] at hr hx
      subst hr hx
      refine ⟨.inr ⟨w.heap.size, 0, rfl, by simp; omega, ?_⟩, Nat.le_refl _⟩
      intro j u hj
      have := ins_laid w x 70 j u (by simpa [insV] using hj)
      rw [Addr.add_lit] at this
      exact (((Below.refl (w.heap.size + 1) (w.alloc (.cells #[.int .i64 x.op, .int .i64 x.loc, .int .i64 x.reg, .int .i64 x.val] 70))).alloc (by simp) _).cell (p := ⟨w.heap.size, 0 + j, none⟩) (by show w.heap.size < w.heap.size + 1; omega)).trans this
    | k + 1, hr, hx => simp at hr

end Go.Proofs.Ythlmfjoiicnomaa
