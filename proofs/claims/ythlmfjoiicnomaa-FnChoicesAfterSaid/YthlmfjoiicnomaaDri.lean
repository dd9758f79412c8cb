/-
  PROVED HERE: what spec.l1Instr does: it draws a valid instruction. CONDITIONS: as each theorem states.
-/
import Derived.Test.YthlmfjoiicnomaaRdr
import Derived.Test.YthlmfjoiicnomaaRow
namespace Go.Proofs.Ythlmfjoiicnomaa
open Go.RowKit
set_option linter.unusedVariables false
set_option linter.unusedSimpArgs false

theorem rdr_alloc {w : World} {g : Nat} {bs : List Int} {p : Nat} (h : Rdr w g bs p) (o : Obj) : Rdr (w.alloc o) g bs p := h.below ((Below.refl _ _).alloc (Nat.le_refl _) o)
/-- Block G holds four numbers. -/
def Zed (w : World) (G : Nat) : Prop := w.heap[G]? = some (.cells #[.int .i64 0, .int .i64 0, .int .i64 0, .int .i64 0] 70 (0, 0))
theorem Zed.facts {w : World} {G : Nat} (h : Zed w G) : (w.cell? ⟨G, 0, none⟩ = some (.int .i64 0) ∧ w.cell? ⟨G, 1, none⟩ = some (.int .i64 0) ∧ w.cell? ⟨G, 2, none⟩ = some (.int .i64 0) ∧ w.cell? ⟨G, 3, none⟩ = some (.int .i64 0)) ∧
    w.frozen? ⟨G, 0, none⟩ = false ∧ w.frozen? ⟨G, 1, none⟩ = false ∧ w.frozen? ⟨G, 2, none⟩ = false ∧ w.frozen? ⟨G, 3, none⟩ = false := by
  refine ⟨⟨?_, ?_, ?_, ?_⟩, ?_, ?_, ?_, ?_⟩
  · rw [cell_of_row w G 0 _ _ _ h]; rfl
  · rw [cell_of_row w G 1 _ _ _ h]; rfl
  · rw [cell_of_row w G 2 _ _ _ h]; rfl
  · rw [cell_of_row w G 3 _ _ _ h]; rfl
  · exact frozen_of_row w G 0 _ _ h
  · exact frozen_of_row w G 1 _ _ h
  · exact frozen_of_row w G 2 _ _ h
  · exact frozen_of_row w G 3 _ _ h
theorem Zed.kept {w w' : World} {g G : Nat} (h : Zed w G) (hg : w.grownBy w' (some g)) (hne : G ≠ g) : Zed w' G := by
  unfold Zed at h ⊢
  rw [hg.block G (Array.getElem?_eq_some_iff.1 h).1 (fun e => hne (by simpa using e))]
  exact h
theorem insValid_mk {o l r v : Int} (h : (o = 4 ∧ l = 0 ∧ r = 0 ∧ v = 0) ∨ ((o = 1 ∨ o = 3) ∧ 0 ≤ l ∧ l ≤ 2 ∧ 0 ≤ r ∧ r ≤ 2 ∧ v = 0) ∨ (o = 2 ∧ 0 ≤ l ∧ l ≤ 2 ∧ r = 0 ∧ 0 ≤ v ∧ v ≤ 3) ∨ (o = 5 ∧ 0 ≤ l ∧ l ≤ 2 ∧ 0 ≤ r ∧ r ≤ 2 ∧ 0 ≤ v ∧ v ≤ 3)) : insValid ⟨o, l, r, v⟩ = true := by
  unfold insValid in01
  rcases h with ⟨rfl, rfl, rfl, rfl⟩ | ⟨ho, h1, h2, h3, h4, rfl⟩ | ⟨rfl, h1, h2, rfl, h3, h4⟩ | ⟨rfl, h1, h2, h3, h4, h5, h6⟩
  · simp
  · rcases ho with rfl | rfl <;> simp [h1, h2, h3, h4]
  · simp [h1, h2, h3, h4]
  · simp [h1, h2, h3, h4, h5, h6]

theorem grown_set (w : World) (G k : Nat) (u : Value) : w.grownBy (w.setCell ⟨G, k, none⟩ u) (some G) :=
  ⟨rfl, rfl, rfl, by simp, fun j _ hj => heap_setCell_other w ⟨G, k, none⟩ j _ (fun e => hj (by simp [e]))⟩
/-- The world after an instruction has been put into block G. -/
abbrev putIns (w : World) (G : Nat) (o l r v : Int) : World := (((w.setCell ⟨G, 0, none⟩ (.int .i64 o)).setCell ⟨G, 1, none⟩ (.int .i64 l)).setCell ⟨G, 2, none⟩ (.int .i64 r)).setCell ⟨G, 3, none⟩ (.int .i64 v)
theorem instr_out {w w2 : World} {g : Nat} {bs : List Int} {q : Nat} (hr : Rdr w2 g bs q) (hg : w.grownBy w2 (some g)) (hz : Zed w2 w.heap.size) (hglt : g < w.heap.size) (o l r v : Int) :
    ((putIns w2 w.heap.size o l r v).cell? ⟨w.heap.size, 0, none⟩ = some (.int .i64 o) ∧ (putIns w2 w.heap.size o l r v).cell? ⟨w.heap.size, 1, none⟩ = some (.int .i64 l) ∧ (putIns w2 w.heap.size o l r v).cell? ⟨w.heap.size, 2, none⟩ = some (.int .i64 r) ∧ (putIns w2 w.heap.size o l r v).cell? ⟨w.heap.size, 3, none⟩ = some (.int .i64 v)) ∧
      Rdr (putIns w2 w.heap.size o l r v) g bs q ∧ w.grownBy (putIns w2 w.heap.size o l r v) (some g) := by
  have h1 := heap_setCell_same w2 w.heap.size 0 _ _ (.int .i64 o) hz
  have h2 := heap_setCell_same _ w.heap.size 1 _ _ (.int .i64 l) h1
  have h3 := heap_setCell_same _ w.heap.size 2 _ _ (.int .i64 r) h2
  have h4 := heap_setCell_same _ w.heap.size 3 _ _ (.int .i64 v) h3
  have g1 : w2.grownBy (putIns w2 w.heap.size o l r v) (some w.heap.size) :=
    grown_trans (grown_trans (grown_trans (grown_set w2 w.heap.size 0 _) (grown_set _ w.heap.size 1 _) (fun k hk => .inl hk.symm)) (grown_set _ w.heap.size 2 _) (fun k hk => .inl hk.symm)) (grown_set _ w.heap.size 3 _) (fun k hk => .inl hk.symm)
  refine ⟨⟨?_, ?_, ?_, ?_⟩, hr.kept g1 (fun k hk => by cases hk; exact hglt), grown_trans hg g1 (fun k hk => .inr (by cases hk; exact Nat.le_refl _))⟩
  · rw [cell_of_row _ w.heap.size 0 _ _ _ h4]; rfl
  · rw [cell_of_row _ w.heap.size 1 _ _ _ h4]; rfl
  · rw [cell_of_row _ w.heap.size 2 _ _ _ h4]; rfl
  · rw [cell_of_row _ w.heap.size 3 _ _ _ h4]; rfl

set_option maxHeartbeats 3200000 in
theorem l1Instr_c (w : World) (g : Nat) (bs : List Int) (p : Nat) (h : Rdr w g bs p) (hp : p ≤ 900000) :
    Calls Try.prog 61 #[.pointer (some ⟨g, 0, none⟩)] w fun e w' => ∃ (x : Ins) (q : Nat), e = .returned x.v ∧ insValid x = true ∧ Rdr w' g bs q ∧ q ≤ p + 4 ∧ w.grownBy w' (some g) := by
  have hglt := h.lt
  have HPK := hid (fun w (q : Nat) (n : Int) (h : Rdr w g bs q) (hq : q ≤ 1000000) (hn : n ≤ 1000000000) => pick_c w g bs q n h hq hn)
  have HR0 := hid (rdr_alloc h (.cells #[.int .i64 0, .int .i64 0, .int .i64 0, .int .i64 0] 70))
  have HG0 := hid (World.grownBy_alloc w (.cells #[.int .i64 0, .int .i64 0, .int .i64 0, .int .i64 0] 70) (some g))
  have HZ0 := hid (show Zed (w.alloc (.cells #[.int .i64 0, .int .i64 0, .int .i64 0, .int .i64 0] 70)) w.heap.size from heap_alloc_new w _)
  clear h
  go_enter Try.func61, Try.ntmps61
  go_wp2_with fail
  refine (HPK.out _ _ _ HR0.out (by omega) (by omega)).mono ?_
  rintro e w1 ⟨loc, rfl, hl0, hl1, hr1, hg1⟩
  have HR1 := hid hr1
  have HG1 := hid (grown_trans HG0.out hg1 (fun k hk => .inl hk.symm))
  have HZ1 := hid (HZ0.out.kept hg1 (by omega))
  have hl2 : loc ≤ 1 := by omega
  clear hr1 hg1 hl1
  go_wp2_with fail
  refine (HPK.out _ _ _ HR1.out (by omega) (by omega)).mono ?_
  rintro e w2 ⟨t, rfl, ht0, ht1, hr2, hg2⟩
  have HR2 := hid hr2
  have HG2 := hid (grown_trans HG1.out hg2 (fun k hk => .inl hk.symm))
  have HZ2 := hid (HZ1.out.kept hg2 (by omega))
  clear hr2 hg2
  by_cases t0 : t = 0
  · subst t0
    obtain ⟨⟨c0, c1, c2, c3⟩, f0, f1, f2, f3⟩ := HZ2.out.facts
    obtain ⟨⟨d0, d1, d2, d3⟩, hro, hgo⟩ := instr_out HR2.out HG2.out HZ2.out hglt 4 0 0 0
    have HD := hid (show Rdr (putIns w2 w.heap.size 4 0 0 0) g bs (p + 1 + 1) ∧ w.grownBy (putIns w2 w.heap.size 4 0 0 0) (some g) from ⟨hro, hgo⟩)
    clear hro hgo
    go_wp2_with fail
    exact bodyPost_ret (v := .agg #[.int .i64 4, .int .i64 0, .int .i64 0, .int .i64 0]) (by simp [results, Try.results61, go_sem, d0, d1, d2, d3]) rfl ⟨⟨4, 0, 0, 0⟩, p + 1 + 1, rfl, insValid_mk (.inl ⟨rfl, rfl, rfl, rfl⟩), HD.out.1, by omega, HD.out.2⟩
  have n0 : (t == 0) = false := by simpa using t0
  clear t0
  by_cases t1 : t = 1
  · subst t1
    go_wp2_with fail
    refine (HPK.out _ _ _ HR2.out (by omega) (by omega)).mono ?_
    rintro e w3 ⟨r, rfl, r0, r1, hr3, hg3⟩
    have HR3 := hid hr3
    have HG3 := hid (grown_trans HG2.out hg3 (fun k hk => .inl hk.symm))
    have HZ3 := hid (HZ2.out.kept hg3 (by omega))
    have r2 : r ≤ 1 := by omega
    clear hr3 hg3 r1
    obtain ⟨⟨c0, c1, c2, c3⟩, f0, f1, f2, f3⟩ := HZ3.out.facts
    obtain ⟨⟨d0, d1, d2, d3⟩, hro, hgo⟩ := instr_out HR3.out HG3.out HZ3.out hglt 3 loc r 0
    have HD := hid (show Rdr (putIns w3 w.heap.size 3 loc r 0) g bs (p + 1 + 1 + 1) ∧ w.grownBy (putIns w3 w.heap.size 3 loc r 0) (some g) from ⟨hro, hgo⟩)
    clear hro hgo
    go_wp2_with fail
    exact bodyPost_ret (v := .agg #[.int .i64 3, .int .i64 loc, .int .i64 r, .int .i64 0]) (by simp [results, Try.results61, go_sem, d0, d1, d2, d3]) rfl ⟨⟨3, loc, r, 0⟩, p + 1 + 1 + 1, rfl, insValid_mk (.inr (.inl ⟨.inr rfl, hl0, by omega, r0, by omega, rfl⟩)), HD.out.1, by omega, HD.out.2⟩
  have n1 : (t == 1) = false := by simpa using t1
  clear t1
  by_cases t2 : t = 2
  · subst t2
    go_wp2_with fail
    refine (HPK.out _ _ _ HR2.out (by omega) (by omega)).mono ?_
    rintro e w3 ⟨r, rfl, r0, r1, hr3, hg3⟩
    have HR3 := hid hr3
    have HG3 := hid (grown_trans HG2.out hg3 (fun k hk => .inl hk.symm))
    have HZ3 := hid (HZ2.out.kept hg3 (by omega))
    have r2 : r ≤ 1 := by omega
    clear hr3 hg3 r1
    go_wp2_with fail
    refine (HPK.out _ _ _ HR3.out (by omega) (by omega)).mono ?_
    rintro e w4 ⟨v, rfl, v0, v1, hr4, hg4⟩
    have HR4 := hid hr4
    have HG4 := hid (grown_trans HG3.out hg4 (fun k hk => .inl hk.symm))
    have HZ4 := hid (HZ3.out.kept hg4 (by omega))
    have v2 : v ≤ 2 := by omega
    clear hr4 hg4 v1
    obtain ⟨⟨c0, c1, c2, c3⟩, f0, f1, f2, f3⟩ := HZ4.out.facts
    obtain ⟨⟨d0, d1, d2, d3⟩, hro, hgo⟩ := instr_out HR4.out HG4.out HZ4.out hglt 5 loc r (1 + v)
    have HD := hid (show Rdr (putIns w4 w.heap.size 5 loc r (1 + v)) g bs (p + 1 + 1 + 1 + 1) ∧ w.grownBy (putIns w4 w.heap.size 5 loc r (1 + v)) (some g) from ⟨hro, hgo⟩)
    clear hro hgo
    go_wp2_with fail
    exact bodyPost_ret (v := .agg #[.int .i64 5, .int .i64 loc, .int .i64 r, .int .i64 (1 + v)]) (by simp [results, Try.results61, go_sem, d0, d1, d2, d3]) rfl ⟨⟨5, loc, r, (1 + v)⟩, p + 1 + 1 + 1 + 1, rfl, insValid_mk (.inr (.inr (.inr ⟨rfl, hl0, by omega, r0, by omega, by omega, by omega⟩))), HD.out.1, by omega, HD.out.2⟩
  have n2 : (t == 2) = false := by simpa using t2
  clear t2
  by_cases t3 : t = 3
  · subst t3
    go_wp2_with fail
    refine (HPK.out _ _ _ HR2.out (by omega) (by omega)).mono ?_
    rintro e w3 ⟨v, rfl, v0, v1, hr3, hg3⟩
    have HR3 := hid hr3
    have HG3 := hid (grown_trans HG2.out hg3 (fun k hk => .inl hk.symm))
    have HZ3 := hid (HZ2.out.kept hg3 (by omega))
    have v2 : v ≤ 2 := by omega
    clear hr3 hg3 v1
    obtain ⟨⟨c0, c1, c2, c3⟩, f0, f1, f2, f3⟩ := HZ3.out.facts
    obtain ⟨⟨d0, d1, d2, d3⟩, hro, hgo⟩ := instr_out HR3.out HG3.out HZ3.out hglt 2 loc 0 (1 + v)
    have HD := hid (show Rdr (putIns w3 w.heap.size 2 loc 0 (1 + v)) g bs (p + 1 + 1 + 1) ∧ w.grownBy (putIns w3 w.heap.size 2 loc 0 (1 + v)) (some g) from ⟨hro, hgo⟩)
    clear hro hgo
    go_wp2_with fail
    exact bodyPost_ret (v := .agg #[.int .i64 2, .int .i64 loc, .int .i64 0, .int .i64 (1 + v)]) (by simp [results, Try.results61, go_sem, d0, d1, d2, d3]) rfl ⟨⟨2, loc, 0, (1 + v)⟩, p + 1 + 1 + 1, rfl, insValid_mk (.inr (.inr (.inl ⟨rfl, hl0, by omega, rfl, by omega, by omega⟩))), HD.out.1, by omega, HD.out.2⟩
  have n3 : (t == 3) = false := by simpa using t3
  clear t3
  by_cases t4 : t = 4
  · subst t4
    go_wp2_with fail
    refine (HPK.out _ _ _ HR2.out (by omega) (by omega)).mono ?_
    rintro e w3 ⟨v, rfl, v0, v1, hr3, hg3⟩
    have HR3 := hid hr3
    have HG3 := hid (grown_trans HG2.out hg3 (fun k hk => .inl hk.symm))
    have HZ3 := hid (HZ2.out.kept hg3 (by omega))
    have v2 : v ≤ 2 := by omega
    clear hr3 hg3 v1
    obtain ⟨⟨c0, c1, c2, c3⟩, f0, f1, f2, f3⟩ := HZ3.out.facts
    obtain ⟨⟨d0, d1, d2, d3⟩, hro, hgo⟩ := instr_out HR3.out HG3.out HZ3.out hglt 2 loc 0 (1 + v)
    have HD := hid (show Rdr (putIns w3 w.heap.size 2 loc 0 (1 + v)) g bs (p + 1 + 1 + 1) ∧ w.grownBy (putIns w3 w.heap.size 2 loc 0 (1 + v)) (some g) from ⟨hro, hgo⟩)
    clear hro hgo
    go_wp2_with fail
    exact bodyPost_ret (v := .agg #[.int .i64 2, .int .i64 loc, .int .i64 0, .int .i64 (1 + v)]) (by simp [results, Try.results61, go_sem, d0, d1, d2, d3]) rfl ⟨⟨2, loc, 0, (1 + v)⟩, p + 1 + 1 + 1, rfl, insValid_mk (.inr (.inr (.inl ⟨rfl, hl0, by omega, rfl, by omega, by omega⟩))), HD.out.1, by omega, HD.out.2⟩
  · have n4 : (t == 4) = false := by simpa using t4
    clear t4
    go_wp2_with fail
    refine (HPK.out _ _ _ HR2.out (by omega) (by omega)).mono ?_
    rintro e w3 ⟨r, rfl, r0, r1, hr3, hg3⟩
    have HR3 := hid hr3
    have HG3 := hid (grown_trans HG2.out hg3 (fun k hk => .inl hk.symm))
    have HZ3 := hid (HZ2.out.kept hg3 (by omega))
    have r2 : r ≤ 1 := by omega
    clear hr3 hg3 r1
    obtain ⟨⟨c0, c1, c2, c3⟩, f0, f1, f2, f3⟩ := HZ3.out.facts
    obtain ⟨⟨d0, d1, d2, d3⟩, hro, hgo⟩ := instr_out HR3.out HG3.out HZ3.out hglt 1 loc r 0
    have HD := hid (show Rdr (putIns w3 w.heap.size 1 loc r 0) g bs (p + 1 + 1 + 1) ∧ w.grownBy (putIns w3 w.heap.size 1 loc r 0) (some g) from ⟨hro, hgo⟩)
    clear hro hgo
    go_wp2_with fail
    exact bodyPost_ret (v := .agg #[.int .i64 1, .int .i64 loc, .int .i64 r, .int .i64 0]) (by simp [results, Try.results61, go_sem, d0, d1, d2, d3]) rfl ⟨⟨1, loc, r, 0⟩, p + 1 + 1 + 1, rfl, insValid_mk (.inr (.inl ⟨.inl rfl, hl0, by omega, r0, by omega, rfl⟩)), HD.out.1, by omega, HD.out.2⟩
end Go.Proofs.Ythlmfjoiicnomaa
