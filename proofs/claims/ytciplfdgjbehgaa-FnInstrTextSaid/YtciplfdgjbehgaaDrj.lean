/-
  PROVED HERE: what spec.DrawInstrValid does: it draws an instruction. CONDITIONS: as each theorem states.
-/
import Derived.Test.YtciplfdgjbehgaaDri
namespace Go.Proofs.Ytciplfdgjbehgaa
open Go.RowKit
set_option linter.unusedVariables false
set_option linter.unusedSimpArgs false

theorem rd_lit (w : World) (xs : List Int) (e : Nat) : Rd (w.alloc (.cells (ints xs).toArray e)) (some ⟨w.heap.size, 0, none⟩) (ints xs) :=
  .inr ⟨w.heap.size, 0, rfl, by simp, fun j u hj => by rw [cell_of_row _ w.heap.size (0 + j) _ e (0, 0) (heap_alloc_new w _)]; simpa using hj⟩
/-- A number of a list that has just been laid. -/
theorem numLit (w : World) (g : Nat) (bs : List Int) (p : Nat) (xs : List Int) (h : Rdr w g bs p) (hp : p ≤ 1000000) (h0 : 0 < xs.length) (hl : xs.length ≤ 1000) :
    Calls Try.prog 42 #[.pointer (some ⟨g, 0, none⟩), .slice (some ⟨w.heap.size, 0, none⟩) xs.length xs.length] (w.alloc (.cells (ints xs).toArray 3)) fun e w' => ∃ x : Int, e = .returned (.int .i64 x) ∧ x ∈ xs ∧ Rdr w' g bs (p + 1) ∧ w.grownBy w' (some g) :=
  (num_c _ g bs p _ _ xs (rdr_alloc h _) hp (rd_lit w xs _) (fun b hb => by simp [blk] at hb; have := h.lt; omega) h0 hl).mono fun e w' ⟨x, h1, h2, h3, h4⟩ => ⟨x, h1, h2, h3, grown_trans (World.grownBy_alloc w _ (some g)) h4 (fun k hk => .inl hk.symm)⟩
/-- Block H holds an instruction. -/
def Blk4 (w : World) (H : Nat) (o l r v : Int) : Prop := w.heap[H]? = some (.cells #[.int .i64 o, .int .i64 l, .int .i64 r, .int .i64 v] 24 (0, 0))
theorem Blk4.facts {w : World} {G : Nat} {o l r v : Int} (h : Blk4 w G o l r v) : (w.cell? ⟨G, 0, none⟩ = some (.int .i64 o) ∧ w.cell? ⟨G, 1, none⟩ = some (.int .i64 l) ∧ w.cell? ⟨G, 2, none⟩ = some (.int .i64 r) ∧ w.cell? ⟨G, 3, none⟩ = some (.int .i64 v)) ∧
    w.frozen? ⟨G, 0, none⟩ = false ∧ w.frozen? ⟨G, 1, none⟩ = false ∧ w.frozen? ⟨G, 2, none⟩ = false ∧ w.frozen? ⟨G, 3, none⟩ = false := by
  refine ⟨⟨?_, ?_, ?_, ?_⟩, ?_, ?_, ?_, ?_⟩
  · rw [cell_of_row w G 0 _ _ _ h]; rfl
  · rw [cell_of_row w G 1 _ _ _ h]; rfl
  · rw [cell_of_row w G 2 _ _ _ h]; rfl
  · rw [cell_of_row w G 3 _ _ _ h]; rfl
  · exact frozen_of_row w G 0 _ _ h
  · exact frozen_of_row w G 1 _ _ h
  · exact frozen_of_row w G 2 _ _ h
  · exact frozen_of_row w G 3 _ _ h
theorem Blk4.kept {w w' : World} {g G : Nat} {o l r v : Int} (h : Blk4 w G o l r v) (hg : w.grownBy w' (some g)) (hne : G ≠ g) : Blk4 w' G o l r v := by
  unfold Blk4 at h ⊢
  rw [hg.block G (Array.getElem?_eq_some_iff.1 h).1 (fun e => hne (by simpa using e))]
  exact h
theorem Blk4.put {w : World} {G : Nat} {o l r v : Int} (h : Blk4 w G o l r v) (o' l' r' v' : Int) : Blk4 (putIns w G o' l' r' v') G o' l' r' v' := by
  have h1 := heap_setCell_same w G 0 _ _ (.int .i64 o') h
  have h2 := heap_setCell_same _ G 1 _ _ (.int .i64 l') h1
  have h3 := heap_setCell_same _ G 2 _ _ (.int .i64 r') h2
  exact heap_setCell_same _ G 3 _ _ (.int .i64 v') h3
theorem put_grown (w : World) (G : Nat) (o l r v : Int) : w.grownBy (putIns w G o l r v) (some G) :=
  grown_trans (grown_trans (grown_trans (grown_set w G 0 _) (grown_set _ G 1 _) (fun k hk => .inl hk.symm)) (grown_set _ G 2 _) (fun k hk => .inl hk.symm)) (grown_set _ G 3 _) (fun k hk => .inl hk.symm)
theorem below_grown {B : Nat} {a w w' : World} {g : Nat} (h : Below B a w) (hg : w.grownBy w' (some g)) (hB : B ≤ g) (hs : B ≤ w.heap.size) : Below B a w' :=
  h.grown hg hs (fun k hk => by cases hk; exact hB)
theorem below_put {B G : Nat} {a w : World} (h : Below B a w) (hG : B ≤ G) (o l r v : Int) : Below B a (putIns w G o l r v) := below_set4 h hG _ _ _ _ _ _ _ _
theorem below_set1 {B G : Nat} {a w : World} (h : Below B a w) (hG : B ≤ G) (k : Nat) (u : Value) : Below B a (w.setCell ⟨G, k, none⟩ u) := h.setCell hG _
theorem Zed.blk {w : World} {G : Nat} (h : Zed w G) : Blk4 w G 0 0 0 0 := h

/-- A program of one instruction that has just been laid. -/
theorem RdP.one (w : World) (x : Ins) : RdP ((w.alloc (.cells #[.int .i64 x.op, .int .i64 x.loc, .int .i64 x.reg, .int .i64 x.val] 24)).alloc (.cells #[.slice (some ⟨w.heap.size, 0, none⟩) 1 1] 29)) (some ⟨w.heap.size + 1, 0, none⟩) [[x]] := by
  refine ⟨[(some ⟨w.heap.size, 0, none⟩, 1)], rfl, .inr ⟨w.heap.size + 1, 0, rfl, by simp, ?_⟩, ?_⟩
  · intro j u hj
    match j, hj with
    | 0, hj =>
      simp [rowsV] at hj
      subst hj
      simp
    | j + 1, hj => simp [rowsV] at hj
  · intro k r xs hr hx
    match k, hr, hx with
    | 0, hr, hx =>
      simp only [List.getElem?_cons_zero, Option.some.injEq] at hr hx
      subst hr hx
      refine ⟨.inr ⟨w.heap.size, 0, rfl, by simp; omega, ?_⟩, Nat.le_refl _⟩
      intro j u hj
      have := ins_laid w x 24 j u (by simpa [insV] using hj)
      rw [Addr.add_lit] at this
      exact (((Below.refl (w.heap.size + 1) (w.alloc (.cells #[.int .i64 x.op, .int .i64 x.loc, .int .i64 x.reg, .int .i64 x.val] 24))).alloc (by simp) _).cell (p := ⟨w.heap.size, 0 + j, none⟩) (by show w.heap.size < w.heap.size + 1; omega)).trans this
    | k + 1, hr, hx => simp at hr

set_option maxHeartbeats 3200000 in
theorem drawInstr_c (w : World) (a : Option Addr) (cap : Nat) (bs : List Int) (h : Rd w a (u8s bs)) (hwf : ∀ x ∈ bs, 0 ≤ x ∧ x ≤ 255) (hl : bs.length ≤ 1048576) (hcap : bs.length ≤ cap) (hcm : cap ≤ 9223372036854775807) :
    Calls Try.prog 13 #[.slice a bs.length cap] w fun e w' => ∃ x : Ins, e = .returned x.v ∧ Below w.heap.size w w' := by
  have hr0 := h.alloc (.cells #[.int .i64 0, .int .i64 0, .int .i64 0, .int .i64 0] 24)
  have HOP := hid (open_c _ a cap bs hr0 hwf hl hcap hcm)
  have HPK := hid (fun w (g q : Nat) (bs : List Int) (n : Int) (h : Rdr w g bs q) (hq : q ≤ 1000000) (hn : n ≤ 1000000000) => pick_c w g bs q n h hq hn)
  have HIN := hid (fun w (g q : Nat) (bs : List Int) (h : Rdr w g bs q) (hq : q ≤ 900000) => l1Instr_c w g bs q h hq)
  have HB0 := hid ((Below.refl w.heap.size w).alloc (Nat.le_refl _) (.cells #[.int .i64 0, .int .i64 0, .int .i64 0, .int .i64 0] 24))
  have HZ0 := hid (show Blk4 (w.alloc (.cells #[.int .i64 0, .int .i64 0, .int .i64 0, .int .i64 0] 24)) w.heap.size 0 0 0 0 from heap_alloc_new w _)
  clear h hr0 hwf
  go_enter Try.func13, Try.ntmps13
  go_wp2_with fail
  refine HOP.out.mono ?_
  rintro e w1 ⟨bs', rfl, hr1, hb1⟩
  have hsz : (w.alloc (.cells #[.int .i64 0, .int .i64 0, .int .i64 0, .int .i64 0] 24)).heap.size = w.heap.size + 1 := by simp
  rw [hsz] at hr1 hb1
  have HR1 := hid hr1
  have HB1 := hid (HB0.out.trans (hb1.mono (by omega)))
  have HZ1 := hid (show Blk4 w1 w.heap.size 0 0 0 0 from (hb1.block w.heap.size (by omega)).trans HZ0.out)
  have hlt1 := hr1.lt
  clear hr1 hb1 hsz
  go_wp2_with fail
  refine (HIN.out _ _ _ _ HR1.out (by omega)).mono ?_
  rintro e w2 ⟨⟨o, l, r, v⟩, q, rfl, hv, hr2, hq, hg2⟩
  have HR2 := hid hr2
  have HB2 := hid (below_grown HB1.out hg2 (by omega) (by omega))
  have HZ2 := hid (HZ1.out.kept hg2 (by omega))
  have hlt2 := hr2.lt
  clear hr2 hg2 hv
  have HR2a := hid (rdr_alloc HR2.out (.cells #[.int .i64 o, .int .i64 l, .int .i64 r, .int .i64 v] 24))
  have HX2 := hid (show Blk4 (w2.alloc (.cells #[.int .i64 o, .int .i64 l, .int .i64 r, .int .i64 v] 24)) w2.heap.size o l r v from heap_alloc_new w2 _)
  have HZ2a := hid (show Blk4 (w2.alloc (.cells #[.int .i64 o, .int .i64 l, .int .i64 r, .int .i64 v] 24)) w.heap.size 0 0 0 0 from (((Below.refl w2.heap.size w2).alloc (Nat.le_refl _) _).block w.heap.size (by omega)).trans HZ2.out)
  have HB2a := hid (HB2.out.alloc (by omega) (.cells #[.int .i64 o, .int .i64 l, .int .i64 r, .int .i64 v] 24))
  go_wp2_with fail
  refine (HPK.out _ _ _ _ _ HR2a.out (by omega) (by omega)).mono ?_
  rintro e w3 ⟨t, rfl, t0, t1, hr3, hg3⟩
  have HR3 := hid hr3
  have HB3 := hid (below_grown HB2a.out hg3 (by omega) (by simp; omega))
  have HX3 := hid (HX2.out.kept hg3 (by omega))
  have HZ3 := hid (HZ2a.out.kept hg3 (by omega))
  have hlt3 := hr3.lt
  have hs3 : w2.heap.size < w3.heap.size := by have := hg3.size; simp at this; omega
  clear hr3 hg3 HR2 HB2 HZ2 HR2a HX2 HZ2a HB2a
  by_cases e0 : t = 0
  · subst e0
    go_wp2_with fail
    refine (numLit _ _ _ _ [0, 6, 1, 2, 3] HR3.out (by omega) (by decide) (by decide)).mono ?_
    rintro e w4 ⟨x, rfl, _, hr4, hg4⟩
    have HB4 := hid (below_grown HB3.out hg4 (by omega) (by omega))
    have HX4 := hid (HX3.out.kept hg4 (by omega))
    have HZ4 := hid (HZ3.out.kept hg4 (by omega))
    obtain ⟨⟨c0, c1, c2, c3⟩, f0, f1, f2, f3⟩ := HX4.out.facts
    have HX5 := hid (show Blk4 (w4.setCell ⟨w2.heap.size, 0, none⟩ (.int .i64 x)) w2.heap.size x l r v from heap_setCell_same w4 w2.heap.size 0 _ _ (.int .i64 x) HX4.out)
    have HZ5 := hid (HZ4.out.kept (grown_set w4 w2.heap.size 0 (.int .i64 x)) (by omega))
    have HB5 := hid (below_set1 HB4.out (show w.heap.size ≤ w2.heap.size by omega) 0 (.int .i64 x))
    clear hr4 hg4
    have HP := hid (HZ5.out.put x l r v)
    obtain ⟨⟨p0, p1, p2, p3⟩, _⟩ := HP.out.facts
    obtain ⟨⟨z0, z1, z2, z3⟩, y0, y1, y2, y3⟩ := HZ5.out.facts
    obtain ⟨⟨d0, d1, d2, d3⟩, _⟩ := HX5.out.facts
    have HF := hid (below_put HB5.out (Nat.le_refl _) x l r v)
    go_wp2_with fail
    exact bodyPost_ret (v := .agg #[.int .i64 x, .int .i64 l, .int .i64 r, .int .i64 v]) (by simp [results, Try.results13, go_sem, p0, p1, p2, p3]) rfl ⟨⟨x, l, r, v⟩, rfl, HF.out⟩
  have n0 : (t == 0) = false := by simpa using e0
  clear e0
  by_cases e1 : t = 1
  · subst e1
    go_wp2_with fail
    refine (numLit _ _ _ _ [3, -1, 2] HR3.out (by omega) (by decide) (by decide)).mono ?_
    rintro e w4 ⟨x, rfl, _, hr4, hg4⟩
    have HB4 := hid (below_grown HB3.out hg4 (by omega) (by omega))
    have HX4 := hid (HX3.out.kept hg4 (by omega))
    have HZ4 := hid (HZ3.out.kept hg4 (by omega))
    obtain ⟨⟨c0, c1, c2, c3⟩, f0, f1, f2, f3⟩ := HX4.out.facts
    have HX5 := hid (show Blk4 (w4.setCell ⟨w2.heap.size, 1, none⟩ (.int .i64 x)) w2.heap.size o x r v from heap_setCell_same w4 w2.heap.size 1 _ _ (.int .i64 x) HX4.out)
    have HZ5 := hid (HZ4.out.kept (grown_set w4 w2.heap.size 1 (.int .i64 x)) (by omega))
    have HB5 := hid (below_set1 HB4.out (show w.heap.size ≤ w2.heap.size by omega) 1 (.int .i64 x))
    clear hr4 hg4
    have HP := hid (HZ5.out.put o x r v)
    obtain ⟨⟨p0, p1, p2, p3⟩, _⟩ := HP.out.facts
    obtain ⟨⟨z0, z1, z2, z3⟩, y0, y1, y2, y3⟩ := HZ5.out.facts
    obtain ⟨⟨d0, d1, d2, d3⟩, _⟩ := HX5.out.facts
    have HF := hid (below_put HB5.out (Nat.le_refl _) o x r v)
    go_wp2_with fail
    exact bodyPost_ret (v := .agg #[.int .i64 o, .int .i64 x, .int .i64 r, .int .i64 v]) (by simp [results, Try.results13, go_sem, p0, p1, p2, p3]) rfl ⟨⟨o, x, r, v⟩, rfl, HF.out⟩
  have n1 : (t == 1) = false := by simpa using e1
  clear e1
  by_cases e2 : t = 2
  · subst e2
    go_wp2_with fail
    refine (numLit _ _ _ _ [3, -1, 2] HR3.out (by omega) (by decide) (by decide)).mono ?_
    rintro e w4 ⟨x, rfl, _, hr4, hg4⟩
    have HB4 := hid (below_grown HB3.out hg4 (by omega) (by omega))
    have HX4 := hid (HX3.out.kept hg4 (by omega))
    have HZ4 := hid (HZ3.out.kept hg4 (by omega))
    obtain ⟨⟨c0, c1, c2, c3⟩, f0, f1, f2, f3⟩ := HX4.out.facts
    have HX5 := hid (show Blk4 (w4.setCell ⟨w2.heap.size, 2, none⟩ (.int .i64 x)) w2.heap.size o l x v from heap_setCell_same w4 w2.heap.size 2 _ _ (.int .i64 x) HX4.out)
    have HZ5 := hid (HZ4.out.kept (grown_set w4 w2.heap.size 2 (.int .i64 x)) (by omega))
    have HB5 := hid (below_set1 HB4.out (show w.heap.size ≤ w2.heap.size by omega) 2 (.int .i64 x))
    clear hr4 hg4
    have HP := hid (HZ5.out.put o l x v)
    obtain ⟨⟨p0, p1, p2, p3⟩, _⟩ := HP.out.facts
    obtain ⟨⟨z0, z1, z2, z3⟩, y0, y1, y2, y3⟩ := HZ5.out.facts
    obtain ⟨⟨d0, d1, d2, d3⟩, _⟩ := HX5.out.facts
    have HF := hid (below_put HB5.out (Nat.le_refl _) o l x v)
    go_wp2_with fail
    exact bodyPost_ret (v := .agg #[.int .i64 o, .int .i64 l, .int .i64 x, .int .i64 v]) (by simp [results, Try.results13, go_sem, p0, p1, p2, p3]) rfl ⟨⟨o, l, x, v⟩, rfl, HF.out⟩
  have n2 : (t == 2) = false := by simpa using e2
  clear e2
  by_cases e3 : t = 3
  · subst e3
    go_wp2_with fail
    refine (numLit _ _ _ _ [4, -1, 3] HR3.out (by omega) (by decide) (by decide)).mono ?_
    rintro e w4 ⟨x, rfl, _, hr4, hg4⟩
    have HB4 := hid (below_grown HB3.out hg4 (by omega) (by omega))
    have HX4 := hid (HX3.out.kept hg4 (by omega))
    have HZ4 := hid (HZ3.out.kept hg4 (by omega))
    obtain ⟨⟨c0, c1, c2, c3⟩, f0, f1, f2, f3⟩ := HX4.out.facts
    have HX5 := hid (show Blk4 (w4.setCell ⟨w2.heap.size, 3, none⟩ (.int .i64 x)) w2.heap.size o l r x from heap_setCell_same w4 w2.heap.size 3 _ _ (.int .i64 x) HX4.out)
    have HZ5 := hid (HZ4.out.kept (grown_set w4 w2.heap.size 3 (.int .i64 x)) (by omega))
    have HB5 := hid (below_set1 HB4.out (show w.heap.size ≤ w2.heap.size by omega) 3 (.int .i64 x))
    clear hr4 hg4
    have HP := hid (HZ5.out.put o l r x)
    obtain ⟨⟨p0, p1, p2, p3⟩, _⟩ := HP.out.facts
    obtain ⟨⟨z0, z1, z2, z3⟩, y0, y1, y2, y3⟩ := HZ5.out.facts
    obtain ⟨⟨d0, d1, d2, d3⟩, _⟩ := HX5.out.facts
    have HF := hid (below_put HB5.out (Nat.le_refl _) o l r x)
    go_wp2_with fail
    exact bodyPost_ret (v := .agg #[.int .i64 o, .int .i64 l, .int .i64 r, .int .i64 x]) (by simp [results, Try.results13, go_sem, p0, p1, p2, p3]) rfl ⟨⟨o, l, r, x⟩, rfl, HF.out⟩
  have n3 : (t == 3) = false := by simpa using e3
  clear e3
  · skip
    have HP := hid (HZ3.out.put o l r v)
    obtain ⟨⟨p0, p1, p2, p3⟩, _⟩ := HP.out.facts
    obtain ⟨⟨z0, z1, z2, z3⟩, y0, y1, y2, y3⟩ := HZ3.out.facts
    obtain ⟨⟨d0, d1, d2, d3⟩, _⟩ := HX3.out.facts
    have HF := hid (below_put HB3.out (Nat.le_refl _) o l r v)
    go_wp2_with fail
    exact bodyPost_ret (v := .agg #[.int .i64 o, .int .i64 l, .int .i64 r, .int .i64 v]) (by simp [results, Try.results13, go_sem, p0, p1, p2, p3]) rfl ⟨⟨o, l, r, v⟩, rfl, HF.out⟩
end Go.Proofs.Ytciplfdgjbehgaa
