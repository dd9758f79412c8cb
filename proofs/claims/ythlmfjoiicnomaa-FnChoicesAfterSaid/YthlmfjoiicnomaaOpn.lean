/-
  PROVED HERE: how an argument that is an instruction or a program reads. CONDITIONS: as each theorem states.
-/
import Derived.Test.YthlmfjoiicnomaaPrgA
import Derived.Deep.Slices
import Derived.Lib.SmallJoins
import Derived.ShutString
import Derived.ChangeOld
namespace Go.Proofs.Ythlmfjoiicnomaa
open Go.ChangeShapes Go.WideShapes Go.ChangeAt Go.RowKit Go.Deep
set_option linter.unusedVariables false
set_option linter.unusedSimpArgs false

theorem len4 {α : Type} {cs : List α} (h : cs.length = 4) : ∃ a b c d, cs = [a, b, c, d] := by
  match cs, h with
  | [a, b, c, d], _ => exact ⟨a, b, c, d, rfl⟩
theorem cellsOf_int : Try.prog.cellsOf 3 = 1 := by kernel_rfl
theorem cellsOf_ins : Try.prog.cellsOf 124 = 4 := by kernel_rfl
theorem cellsOf_row : Try.prog.cellsOf 74 = 1 := by kernel_rfl
/-- Block g holds the instruction x. -/
def Box (w : World) (g : Nat) (x : Ins) : Prop :=
  w.cell? ⟨g, 0, none⟩ = some (.int .i64 x.op) ∧ w.cell? ⟨g, 1, none⟩ = some (.int .i64 x.loc) ∧ w.cell? ⟨g, 2, none⟩ = some (.int .i64 x.reg) ∧ w.cell? ⟨g, 3, none⟩ = some (.int .i64 x.val)
theorem Box.below {w w' : World} {B g : Nat} {x : Ins} (h : Box w g x) (hb : Below B w w') (hlt : g < B) : Box w' g x :=
  ⟨(hb.cell (p := ⟨g, 0, none⟩) hlt).trans h.1, (hb.cell (p := ⟨g, 1, none⟩) hlt).trans h.2.1, (hb.cell (p := ⟨g, 2, none⟩) hlt).trans h.2.2.1, (hb.cell (p := ⟨g, 3, none⟩) hlt).trans h.2.2.2⟩
theorem Box.new (w : World) (x : Ins) (t : Nat) : Box (w.alloc (.cells #[.int .i64 x.op, .int .i64 x.loc, .int .i64 x.reg, .int .i64 x.val] t)) w.heap.size x := by
  unfold Box
  simp
instance : Inhabited Ins := ⟨insZ⟩
section
variable {H : Type} {enc : TypeId × Value → H} {w : World} {base : Nat} {spare : Nat → Bool} {held : Bool}
theorem trod_ins {n : Nat} {cs : List Value} {y : DataW H × List MemPlace} (h : DataW.trod enc Try.prog w base spare held n 124 cs = some y) : ∃ x : Ins, cs = x.cells := by
  obtain ⟨xs, n', _, _, hlen, hxl, hf⟩ := DataW.trod_struct Try.underlying124 h
  rw [cellsOf_ins] at hlen
  obtain ⟨c0, c1, c2, c3, rfl⟩ := len4 hlen
  obtain ⟨y0, y1, y2, y3, rfl⟩ := len4 (show xs.length = 4 from hxl)
  have f0 : DataW.trod enc Try.prog w base spare held n' 3 (List.take (Try.prog.cellsOf 3) (List.drop 0 [c0, c1, c2, c3])) = some y0 := hf 0 _ rfl
  have f1 : DataW.trod enc Try.prog w base spare held n' 3 (List.take (Try.prog.cellsOf 3) (List.drop 1 [c0, c1, c2, c3])) = some y1 := hf 1 _ rfl
  have f2 : DataW.trod enc Try.prog w base spare held n' 3 (List.take (Try.prog.cellsOf 3) (List.drop 2 [c0, c1, c2, c3])) = some y2 := hf 2 _ rfl
  have f3 : DataW.trod enc Try.prog w base spare held n' 3 (List.take (Try.prog.cellsOf 3) (List.drop 3 [c0, c1, c2, c3])) = some y3 := hf 3 _ rfl
  rw [cellsOf_int] at f0 f1 f2 f3
  obtain ⟨v0, e0, _⟩ := DataW.trod_int Try.underlying3 f0
  obtain ⟨v1, e1, _⟩ := DataW.trod_int Try.underlying3 f1
  obtain ⟨v2, e2, _⟩ := DataW.trod_int Try.underlying3 f2
  obtain ⟨v3, e3, _⟩ := DataW.trod_int Try.underlying3 f3
  simp only [List.drop_zero, List.take_succ_cons, List.take_zero, List.cons.injEq, and_true, List.drop_succ_cons] at e0 e1 e2 e3
  exact ⟨⟨v0, v1, v2, v3⟩, by rw [e0, e1, e2, e3]; rfl⟩
set_option maxRecDepth 100000 in
theorem open_instr {b0 : Nat} {v : Value} {d : DataW H} {p : List MemPlace} (hv : Value.okWide Try.prog w .any b0 124 v) (h : DataW.Trod enc Try.prog w base spare held 124 v d p) : ∃ x : Ins, v = x.v := by
  obtain ⟨v0, v1, v2, v3, y0, y1, y2, y3, n, rfl, _, _, t0, t1, t2, t3⟩ := Go.Joins.open_agg4 Try.underlying124 (by kernel_rfl) cellsOf_ins hv h
  obtain ⟨n0, e0, _⟩ := DataW.trod_int Try.underlying3 t0
  obtain ⟨n1, e1, _⟩ := DataW.trod_int Try.underlying3 t1
  obtain ⟨n2, e2, _⟩ := DataW.trod_int Try.underlying3 t2
  obtain ⟨n3, e3, _⟩ := DataW.trod_int Try.underlying3 t3
  simp only [List.cons.injEq, and_true] at e0 e1 e2 e3
  subst e0 e1 e2 e3
  exact ⟨⟨n0, n1, n2, n3⟩, rfl⟩
theorem block_of_cell {w : World} {ad : Addr} {u : Value} (h : w.cell? ad = some u) : ∃ b o, ad = ⟨b, o, none⟩ ∧ b < w.heap.size := by
  obtain ⟨b, o, s⟩ := ad
  have hs : s = none := by simpa using World.cell?_spot h
  subst hs
  exact ⟨b, o, rfl, World.block_lt_of_cell? w ⟨b, o, none⟩ h⟩
theorem open_row {n : Nat} {v : Value} {y : DataW H × List MemPlace} (h : DataW.trod enc Try.prog w base (fun _ => true) held n 74 [v] = some y) : ∃ a cap xs, v = .slice a xs.length cap ∧ Rd w a (insV xs) ∧ xs.length ≤ maxLen ∧ xs.length ≤ cap := by
  rcases open_slice Try.underlying74 h with ⟨hcs, _⟩ | ⟨a, len, cap, m, n', D, Pl, hcs, hb, hl, hm, hmm, hx, hi⟩
  · simp only [List.cons.injEq, and_true] at hcs
    exact ⟨none, 0, [], hcs, .inl rfl, Nat.zero_le _, Nat.le_refl _⟩
  · simp only [List.cons.injEq, and_true] at hcs
    simp only [if_true] at hmm
    subst hmm
    rw [cellsOf_ins] at hi
    obtain ⟨X, hX⟩ := choose_lt (α := Ins) (p := fun i x => ∀ f u, x.cells[f]? = some u → w.cell? (a.add (i * 4 + f)) = some u) (n := m) (fun i him => by
      obtain ⟨cs', hc, ht⟩ := hi i him
      obtain ⟨x, rfl⟩ := trod_ins ht
      obtain ⟨_, _, hat⟩ := World.cells?_some hc
      refine ⟨x, fun f u hu => ?_⟩
      have hf : f < 4 := (List.getElem?_eq_some_iff.1 hu).1
      rw [← Go.Deep.add_add, hat f hf, hu])
    refine ⟨some a, m, (List.range len).map X, by simpa using hcs, ?_, by simp; omega, by simpa using hl⟩
    by_cases h0 : len = 0
    · subst h0; exact .inl rfl
    · have hc0 := hX 0 (by omega) 0 _ rfl
      rw [Nat.zero_mul, Nat.zero_add] at hc0
      obtain ⟨b, o, rfl, hlt⟩ := block_of_cell (by simpa [Addr.add] using hc0 : w.cell? a = _)
      refine .inr ⟨b, o, rfl, hlt, fun j u hj => ?_⟩
      have hj4 : j < len * 4 := by
        have := (List.getElem?_eq_some_iff.1 hj).1
        rw [length_insV] at this
        simpa using this
      have e := insV_get ((List.range len).map X) (j / 4) (j % 4) (X (j / 4)) (by rw [List.getElem?_map, List.getElem?_range (by omega)]; rfl) (by omega)
      rw [show j / 4 * 4 + j % 4 = j by omega] at e
      rw [e] at hj
      have := hX (j / 4) (by omega) (j % 4) u hj
      rw [show j / 4 * 4 + j % 4 = j by omega, Addr.add_lit] at this
      exact this
set_option maxRecDepth 100000 in
theorem open_prog {b0 : Nat} {v : Value} {d : DataW H} {p : List MemPlace} (hv : Value.okWide Try.prog w .any b0 34 v) (h : DataW.Trod enc Try.prog w base (fun _ => true) held 34 v d p) :
    ∃ (a : Option Addr) (cap : Nat) (q : Prg), v = .slice a q.length cap ∧ RdP w a q ∧ BdP q := by
  obtain ⟨a0, len0, cap0, rfl⟩ := okWide_slice Try.underlying34 hv
  obtain ⟨fuel, hf⟩ := h
  rcases open_slice1 Try.underlying34 cellsOf_row hf with ⟨hcs, _⟩ | ⟨a, len, cap, m, n', V, D, Pl, hcs, hb, hl, hm, hmm, hx, hi⟩
  · simp [Value.cells] at hcs
    obtain ⟨rfl, rfl, rfl⟩ := hcs
    exact ⟨none, 0, [], rfl, ⟨[], rfl, .inl rfl, fun k r xs h => by simp at h⟩, Nat.zero_le _, fun xs h => by simp at h⟩
  · simp [Value.cells] at hcs
    obtain ⟨rfl, rfl, rfl⟩ := hcs
    simp only [if_true] at hmm
    subst hmm
    obtain ⟨X, hX⟩ := choose_lt (α := Option Addr × Nat × List Ins) (p := fun i x => w.cell? (a.add i) = some (.slice x.1 x.2.2.length x.2.1) ∧ Rd w x.1 (insV x.2.2) ∧ x.2.2.length ≤ maxLen ∧ x.2.2.length ≤ x.2.1) (n := m) (fun i him => by
      obtain ⟨hc, ht⟩ := hi i him
      obtain ⟨r, c, xs, hv, hr, hle, hlc⟩ := open_row ht
      exact ⟨⟨r, c, xs⟩, by rw [hc, hv], hr, hle, hlc⟩)
    have hlen : ((List.range len0).map fun i => (X i).2.2).length = len0 := by simp
    refine ⟨some a, m, (List.range len0).map fun i => (X i).2.2, by rw [hlen], ⟨(List.range len0).map fun i => ((X i).1, (X i).2.1), by simp, ?_, fun k r xs h1 h2 => ?_⟩, by rw [hlen]; omega, fun xs hxs => ?_⟩
    · by_cases h0 : len0 = 0
      · subst h0; exact .inl rfl
      · have hc0 := (hX 0 (by omega)).1
        obtain ⟨b, o, rfl, hlt⟩ := block_of_cell (by simpa [Addr.add] using hc0 : w.cell? a = _)
        refine .inr ⟨b, o, rfl, hlt, fun j u hj => ?_⟩
        have hjl : j < len0 := by
          have := (List.getElem?_eq_some_iff.1 hj).1
          rw [length_rowsV (by simp)] at this
          simpa using this
        rw [rowsV_get (r := ((X j).1, (X j).2.1)) (xs := (X j).2.2) (by simp [hjl]) (by simp [hjl])] at hj
        have := (hX j (by omega)).1
        rw [Addr.add_lit] at this
        rw [this, hj]
    · have hk := (List.getElem?_eq_some_iff.1 h1).1
      simp only [List.length_map, List.length_range] at hk
      simp [hk] at h1 h2
      subst h1
      subst h2
      exact ⟨(hX k (by omega)).2.1, (hX k (by omega)).2.2.2⟩
    · simp only [List.mem_map, List.mem_range] at hxs
      obtain ⟨i, hi', rfl⟩ := hxs
      exact (hX i (by omega)).2.2.1
end
end Go.Proofs.Ythlmfjoiicnomaa
