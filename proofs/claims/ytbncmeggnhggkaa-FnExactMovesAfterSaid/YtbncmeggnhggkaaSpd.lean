/-
  PROVED HERE: what spec.l3Do does. CONDITIONS: as each theorem states.
-/
import Derived.Test.YtbncmeggnhggkaaSpc
import Derived.Test.YtbncmeggnhggkaaMixJ
import Derived.Test.YtbncmeggnhggkaaOpn
namespace Go.Proofs.Ytbncmeggnhggkaa
open Go.RowKit
set_option linter.unusedVariables false
set_option linter.unusedSimpArgs false

abbrev Sp.cs (q : Sp) (s : St) : Array Value := #[.slice q.a0 s.pc.length q.c0, .slice q.a1 s.regs.length q.c1, .slice q.a2 s.mem.length q.c2, .slice q.a3 s.buf.length q.c3]
theorem ints_set (xs : List Int) (k : Nat) (v : Int) : (ints xs).set k (.int .i64 v) = ints (xs.set k v) := by simp [ints, List.map_set]
theorem own_intAt {w : World} {base n cap g : Nat} {xs : List Int} (h : w.ownsRow base 3 1 (.slice (some ⟨g, 0, none⟩) n cap) n (ints xs)) (k : Nat) (hk : k < xs.length) : ∃ z : Int, w.cell? ⟨g, k, none⟩ = some (.int .i64 z) ∧ w.frozen? ⟨g, k, none⟩ = false := by
  have h1 := h.1
  simp only [List.length_map, Nat.mul_one] at h1
  refine ⟨xs[k], (h.cellAt k (by omega)).trans ?_, h.frozenAt k⟩
  simp [hk]
theorem own_type {w : World} {base e size n cap g : Nat} {o : Nat} {cs : List Value} (h : w.ownsRow base e size (.slice (some ⟨g, o, none⟩) n cap) n cs) {a : Array Value} {t : TypeId} {f : Nat × Nat} (hg : w.heap[g]? = some (.cells a t f)) : e = t := by
  rcases h.2 with ⟨hv, _⟩ | ⟨g', c, cur, hv, _, hg', _⟩
  · simp at hv
  · simp only [Value.slice.injEq, Option.some.injEq] at hv
    have : g = g' := congrArg Addr.block hv.1
    subst this
    rw [hg'] at hg
    simp only [Option.some.injEq, Obj.cells.injEq] at hg
    exact hg.2.1
theorem Box.set {w : World} {b g j : Nat} {x : Ins} {v : Value} (h : Box w b x) (hne : b ≠ g) : Box (w.setCell ⟨g, j, none⟩ v) b x := by
  have e : ∀ k, (w.setCell ⟨g, j, none⟩ v).cell? ⟨b, k, none⟩ = w.cell? ⟨b, k, none⟩ := fun k => World.cell?_of_block (heap_setCell_other w ⟨g, j, none⟩ b v hne)
  exact ⟨(e 0).trans h.1, (e 1).trans h.2.1, (e 2).trans h.2.2.1, (e 3).trans h.2.2.2⟩
theorem Box.four {w : World} {b : Nat} {o l r v : Int} (h : Box w b ⟨o, l, r, v⟩) : w.cell? ⟨b, 0, none⟩ = some (.int .i64 o) ∧ w.cell? ⟨b, 1, none⟩ = some (.int .i64 l) ∧ w.cell? ⟨b, 2, none⟩ = some (.int .i64 r) ∧ w.cell? ⟨b, 3, none⟩ = some (.int .i64 v) := h
theorem Box.drew {w : World} {b : Nat} {x : Ins} (h : Box w b x) : Box w.drew b x := h
/-- In the middle of a step: the state that came in (in block h4), the result's place (h6), the copy (in g7), which holds sk now. -/
structure DoI (w : World) (h4 h6 g7 base : Nat) (q q' : Sp) (s sk : St) (wk : World) : Prop where
  box : wk.heap[h4]? = some (.cells (q.cs s) 44 (0, 0))
  res : wk.heap[h6]? = some (.cells zSt 44 (0, 0))
  cur : wk.heap[g7]? = some (.cells (q'.cs s) 44 (0, 0))
  own : OwS wk base q' sk
  below : Below w.heap.size w wk
  wb : w.heap.size ≤ base
  bw : base ≤ wk.heap.size
section
variable {w wk wk' : World} {h4 h6 g7 base : Nat} {q q' : Sp} {s sk : St}
theorem OwS.below {w w' : World} {base : Nat} {q : Sp} {s : St} (h : OwS w base q s) (hb : Below w.heap.size w w') : OwS w' base q s := by
  obtain ⟨top, h1, h2, h3, h4, h5⟩ := h.buf
  exact ⟨own_below h.pc hb, own_below h.regs hb, own_below h.mem hb, h.d01, h.d02, h.d12, top, h1, h2, h3, h4, (h5.below hb).up hb.size⟩
theorem DoI.later (h : DoI w h4 h6 g7 base q q' s sk wk) (hb : Below wk.heap.size wk wk') : DoI w h4 h6 g7 base q q' s sk wk' := by
  have lt : ∀ {k : Nat} {o : Obj}, wk.heap[k]? = some o → wk'.heap[k]? = some o := fun {k o} hk => by rw [hb.block k (Array.getElem?_eq_some_iff.1 hk).1]; exact hk
  have := h.below.size
  exact ⟨lt h.box, lt h.res, lt h.cur, h.own.below hb, h.below.trans (hb.mono (by omega)), h.wb, Nat.le_trans h.bw hb.size⟩
theorem OwL.set {ls : List (List Int)} (h : OwL wk base wk.heap.size q.a3 q.c3 ls) {g j : Nat} {v : Value} (hg : g < base) : OwL (wk.setCell ⟨g, j, none⟩ v) base (wk.setCell ⟨g, j, none⟩ v).heap.size q.a3 q.c3 ls := by
  have := h.keeps (Keeps.setCell wk ⟨g, j, none⟩ v) (fun b hb _ e => by simp at e; omega)
  simpa [World.setCell] using this
theorem heap_set {k g j : Nat} {v : Value} {a : Array Value} {t : TypeId} {f : Nat × Nat} (hk : wk.heap[k]? = some (.cells a t f)) (hne : k ≠ g) : (wk.setCell ⟨g, j, none⟩ v).heap[k]? = some (.cells a t f) := by
  rw [heap_setCell_other wk ⟨g, j, none⟩ k v (by simpa using hne)]; exact hk
theorem DoI.step (h : DoI w h4 h6 g7 base q q' s sk wk) {g j : Nat} {v : Value} (hg : ∃ n c cs, wk.ownsRow base 3 1 (.slice (some ⟨g, 0, none⟩) n c) n cs) {sk' : St} (ho : OwS (wk.setCell ⟨g, j, none⟩ v) base q' sk') : DoI w h4 h6 g7 base q q' s sk' (wk.setCell ⟨g, j, none⟩ v) := by
  obtain ⟨n, c, cs, hgo⟩ := hg
  have ne : ∀ {k : Nat} {a : Array Value}, wk.heap[k]? = some (.cells a 44 (0, 0)) → k ≠ g := fun hk e => by
    subst e
    have := own_type hgo hk
    exact absurd this (by decide)
  have hgb := own_blk hgo g rfl
  have hsz : (wk.setCell ⟨g, j, none⟩ v).heap.size = wk.heap.size := by simp [World.setCell]
  refine ⟨heap_set h.box (ne h.box), heap_set h.res (ne h.res), heap_set h.cur (ne h.cur), ho, h.below.setCell (show w.heap.size ≤ g by have := h.wb; omega) _, h.wb, by rw [hsz]; exact h.bw⟩
theorem DoI.drew (h : DoI w h4 h6 g7 base q q' s sk wk) : DoI w h4 h6 g7 base q q' s sk wk.drew := h.later (below_drewN 1 (Below.refl _ _))
/-- The cells of the state that came in, and of the copy. -/
theorem DoI.cells (h : DoI w h4 h6 g7 base q q' s sk wk) : (wk.cell? ⟨h4, 0, none⟩ = some (.slice q.a0 s.pc.length q.c0) ∧ wk.cell? ⟨h4, 1, none⟩ = some (.slice q.a1 s.regs.length q.c1) ∧ wk.cell? ⟨h4, 2, none⟩ = some (.slice q.a2 s.mem.length q.c2) ∧ wk.cell? ⟨h4, 3, none⟩ = some (.slice q.a3 s.buf.length q.c3)) ∧
    (wk.cell? ⟨g7, 0, none⟩ = some (.slice q'.a0 s.pc.length q'.c0) ∧ wk.cell? ⟨g7, 1, none⟩ = some (.slice q'.a1 s.regs.length q'.c1) ∧ wk.cell? ⟨g7, 2, none⟩ = some (.slice q'.a2 s.mem.length q'.c2) ∧ wk.cell? ⟨g7, 3, none⟩ = some (.slice q'.a3 s.buf.length q'.c3)) := by
  have e := fun (i : Nat) => cell_of_row wk h4 i _ _ _ h.box
  have f := fun (i : Nat) => cell_of_row wk g7 i _ _ _ h.cur
  exact ⟨⟨e 0, e 1, e 2, e 3⟩, ⟨f 0, f 1, f 2, f 3⟩⟩
theorem DoI.set0 (h : DoI w h4 h6 g7 base q q' s sk wk) {g : Nat} (hg : q'.a0 = some ⟨g, 0, none⟩) (t : Nat) (v : Int) : DoI w h4 h6 g7 base q q' s { sk with pc := sk.pc.set t v } (wk.setCell ⟨g, t, none⟩ (.int .i64 v)) := by
  have o := h.own
  obtain ⟨top, b1, b2, b3, b4, b5⟩ := o.buf
  have hgb : blk q'.a0 = some g := by rw [hg]; rfl
  have o0 := o.pc
  unfold OwI at o0
  rw [hg] at o0
  have k := Keeps.setCell wk ⟨g, t, none⟩ (.int .i64 v)
  refine h.step (g := g) ⟨_, _, _, o0⟩ ⟨?_, own_keeps o.regs k fun b hb e => o.d01 g hgb (by rw [hb, e]), own_keeps o.mem k fun b hb e => o.d02 g hgb (by rw [hb, e]), o.d01, o.d02, o.d12, top, b1, b2, b3, b4, b5.set (b2 g hgb)⟩
  have := (o0.stored t (.int .i64 v)).1
  rw [ints_set] at this
  unfold OwI
  rw [hg]
  simpa using this
theorem DoI.set1 (h : DoI w h4 h6 g7 base q q' s sk wk) {g : Nat} (hg : q'.a1 = some ⟨g, 0, none⟩) (t : Nat) (v : Int) : DoI w h4 h6 g7 base q q' s { sk with regs := sk.regs.set t v } (wk.setCell ⟨g, t, none⟩ (.int .i64 v)) := by
  have o := h.own
  obtain ⟨top, b1, b2, b3, b4, b5⟩ := o.buf
  have hgb : blk q'.a1 = some g := by rw [hg]; rfl
  have o0 := o.regs
  unfold OwI at o0
  rw [hg] at o0
  have k := Keeps.setCell wk ⟨g, t, none⟩ (.int .i64 v)
  refine h.step (g := g) ⟨_, _, _, o0⟩ ⟨own_keeps o.pc k fun b hb e => o.d01 b hb (by rw [hgb, e]), ?_, own_keeps o.mem k fun b hb e => o.d12 g hgb (by rw [hb, e]), o.d01, o.d02, o.d12, top, b1, b2, b3, b4, b5.set (b3 g hgb)⟩
  have := (o0.stored t (.int .i64 v)).1
  rw [ints_set] at this
  unfold OwI
  rw [hg]
  simpa using this
theorem DoI.set2 (h : DoI w h4 h6 g7 base q q' s sk wk) {g : Nat} (hg : q'.a2 = some ⟨g, 0, none⟩) (t : Nat) (v : Int) : DoI w h4 h6 g7 base q q' s { sk with mem := sk.mem.set t v } (wk.setCell ⟨g, t, none⟩ (.int .i64 v)) := by
  have o := h.own
  obtain ⟨top, b1, b2, b3, b4, b5⟩ := o.buf
  have hgb : blk q'.a2 = some g := by rw [hg]; rfl
  have o0 := o.mem
  unfold OwI at o0
  rw [hg] at o0
  have k := Keeps.setCell wk ⟨g, t, none⟩ (.int .i64 v)
  refine h.step (g := g) ⟨_, _, _, o0⟩ ⟨own_keeps o.pc k fun b hb e => o.d02 b hb (by rw [hgb, e]), own_keeps o.regs k fun b hb e => o.d12 b hb (by rw [hgb, e]), ?_, o.d01, o.d02, o.d12, top, b1, b2, b3, b4, b5.set (b4 g hgb)⟩
  have := (o0.stored t (.int .i64 v)).1
  rw [ints_set] at this
  unfold OwI
  rw [hg]
  simpa using this
theorem DoI.done (h : DoI w h4 h6 g7 base q q' s sk wk) (h1 : w.heap.size ≤ h6) (h2 : h6 < base) : Fresh (wk.setRow h6 (q'.cs s)) w.heap.size q' sk ∧ Below w.heap.size w (wk.setRow h6 (q'.cs s)) := by
  have k := keeps_setRow wk h6 (q'.cs s)
  exact ⟨(h.own.fresh.keeps k fun b hb e => by omega).down h.wb, Proofs.Ytbncmeggnhggkaa.Below.keeps h.below k h.below.size (fun x e => by omega)⟩
theorem DoI.one (q' : Sp) (s : St) : (q'.cs s).all (·.oneCell') = true := by simp [Value.oneCell']
end
end Go.Proofs.Ytbncmeggnhggkaa
