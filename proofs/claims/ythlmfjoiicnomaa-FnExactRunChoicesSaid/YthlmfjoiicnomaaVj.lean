/-
  PROVED HERE: where the rows of a state of the call's own lie; what spec.l5Join does. CONDITIONS: as each theorem states.
-/
import Derived.Test.YthlmfjoiicnomaaVm
namespace Go.Proofs.Ythlmfjoiicnomaa
open Go.RowKit
set_option linter.unusedVariables false
set_option linter.unusedSimpArgs false

section
variable {w : World} {base : Nat} {q : Sp} {y : Ly} {c : Ct} {n : Nat}
theorem OwC.iaddr (h : OwC w base q y c n) {ix : Ix} (hx : c.dom ix) (hp : 0 < (c.X ix).length) : ∃ g, (y.I ix).1 = some ⟨g, 0, none⟩ ∧ base ≤ g ∧ g < w.heap.size := own_some (h.int ix hx) hp
theorem OwC.icell (h : OwC w base q y c n) {ix : Ix} (hx : c.dom ix) {g : Nat} (hg : (y.I ix).1 = some ⟨g, 0, none⟩) {j : Nat} {x : Int} (hj : (c.X ix)[j]? = some x) : w.cell? ⟨g, j, none⟩ = some (.int .i64 x) ∧ w.frozen? ⟨g, j, none⟩ = false := by
  have ho := h.int ix hx
  unfold OwI at ho
  rw [hg] at ho
  have hl := (List.getElem?_eq_some_iff.1 hj).1
  refine ⟨(ho.cellAt j (by omega)).trans ?_, ho.frozenAt j⟩
  rw [List.getElem?_map, hj]
  rfl
theorem OwC.vaddr (h : OwC w base q y c n) (hp : 0 < c.nv) : ∃ g, q.a2 = some ⟨g, 0, none⟩ ∧ base ≤ g ∧ g < w.heap.size := own_some h.vo hp
theorem OwC.vcell (h : OwC w base q y c n) {t : Nat} (ht : t < c.nv) {g : Nat} (hg : q.a2 = some ⟨g, 0, none⟩) : w.cell? ⟨g, t, none⟩ = some (.slice (y.I (1, t)).1 3 (y.I (1, t)).2) := by
  have ho := h.vo
  rw [hg] at ho
  exact (ho.cellAt t (by omega)).trans (vcells_get ht)
theorem OwC.laddr (h : OwC w base q y c n) (hp : 0 < n) : ∃ g, q.a3 = some ⟨g, 0, none⟩ ∧ base ≤ g ∧ g < w.heap.size := own_some h.lo hp
theorem OwC.lcell (h : OwC w base q y c n) {l : Nat} (hl : l < n) {g : Nat} (hg : q.a3 = some ⟨g, 0, none⟩) : w.cell? ⟨g, l, none⟩ = some (.slice (y.L l).1 (c.N l) (y.L l).2) ∧ w.frozen? ⟨g, l, none⟩ = false := by
  have ho := h.lo
  rw [hg] at ho
  exact ⟨(ho.cellAt l (by omega)).trans (lcells_get hl), ho.frozenAt l⟩
theorem OwC.raddr (h : OwC w base q y c n) {l : Nat} (hl : l < c.nl) (hp : 0 < c.N l) : ∃ g, (y.L l).1 = some ⟨g, 0, none⟩ ∧ base ≤ g ∧ g < w.heap.size := own_some (h.row l hl) hp
theorem OwC.mcell (h : OwC w base q y c n) {l k : Nat} (hl : l < c.nl) (hk : k < c.N l) {g : Nat} (hg : (y.L l).1 = some ⟨g, 0, none⟩) : w.cell? ⟨g, k * 3, none⟩ = some (.int .i64 (c.MV l k)) ∧ w.cell? ⟨g, k * 3 + 1, none⟩ = some (.bool (c.LK l k)) ∧ w.cell? ⟨g, k * 3 + 2, none⟩ = some (.slice (y.I (l + 2, k)).1 3 (y.I (l + 2, k)).2) ∧ w.frozen? ⟨g, k * 3 + 1, none⟩ = false := by
  have ho := h.row l hl
  rw [hg] at ho
  have e := fun j (hj : j < 3) => (ho.cellAt (k * 3 + j) (by omega)).trans (mcells_get (y := y) (MV := c.MV) (LK := c.LK) (l := l) hk hj)
  exact ⟨e 0 (by decide), e 1 (by decide), e 2 (by decide), ho.frozenAt _⟩
/-- A block of another kind. -/
theorem OwC.kind (h : OwC w base q y c n) {b : Nat} {cs : Array Value} {T : TypeId} (hb : w.heap[b]? = some (.cells cs T (0, 0))) : (T ≠ 3 → ∀ ix, c.dom ix → blk (y.I ix).1 ≠ some b) ∧ (T ≠ 24 → blk q.a2 ≠ some b) ∧ (T ≠ 118 → blk q.a3 ≠ some b) ∧ (T ≠ 117 → ∀ l, l < c.nl → blk (y.L l).1 ≠ some b) := by
  have key : ∀ {e size m : Nat} {a : Option Addr} {cap : Nat} {xs : List Value}, w.ownsRow base e size (.slice a m cap) m xs → T ≠ e → blk a ≠ some b := fun {e size m a cap xs} ho hne ha => by
    rcases ho.2 with ⟨hv, _⟩ | ⟨g, cp, cur, hv, _, hg, _⟩
    · simp only [Value.slice.injEq] at hv
      rw [hv.1] at ha
      cases ha
    · simp only [Value.slice.injEq, true_and] at hv
      rw [hv.1] at ha
      simp only [blk, Option.some.injEq] at ha
      rw [ha, hb] at hg
      simp only [Option.some.injEq, Obj.cells.injEq] at hg
      exact hne hg.2.1
  exact ⟨fun hT ix hx => key (h.int ix hx) hT, fun hT => key h.vo hT, fun hT => key h.lo hT, fun hT l hl => key (h.row l hl) hT⟩
end
theorem setX_setX (c : Ct) (ix : Ix) (xs ys : List Int) : (c.setX ix xs).setX ix ys = c.setX ix ys := by
  unfold Ct.setX
  simp only [Ct.mk.injEq, and_true]
  funext iy
  split <;> rfl
theorem setX_same (c : Ct) (ix : Ix) : c.setX ix (c.X ix) = c := by
  cases c
  unfold Ct.setX
  simp only [Ct.mk.injEq, and_true]
  funext iy
  split
  · rename_i e; rw [e]
  · rfl
theorem setX_get (c : Ct) (ix : Ix) (xs : List Int) : (c.setX ix xs).X ix = xs := by
  show (if ix = ix then xs else c.X ix) = xs
  rw [if_pos rfl]
theorem list_set_same {α : Type} (xs : List α) {k : Nat} {x : α} (h : xs[k]? = some x) : xs.set k x = xs := by
  obtain ⟨hk, rfl⟩ := List.getElem?_eq_some_iff.1 h
  exact List.set_getElem_self hk
def joinTo (k : Nat) (v u : List Int) : List Int := (join5 v u).take k ++ v.drop k
theorem joinTo_get {v u : List Int} {k : Nat} {x : Int} (hx : v[k]? = some x) (hl : (join5 v u).length = v.length) : (joinTo k v u)[k]? = some x := by
  unfold joinTo
  have hk := (List.getElem?_eq_some_iff.1 hx).1
  rw [List.getElem?_append_right (by rw [List.length_take]; omega), List.length_take, Nat.min_eq_left (by omega), Nat.sub_self, List.getElem?_drop, Nat.add_zero]
  exact hx
theorem joinTo_succ {v u : List Int} {k : Nat} {x z : Int} (hx : v[k]? = some x) (hz : u[k]? = some z) (hl : (join5 v u).length = v.length) : joinTo (k + 1) v u = (joinTo k v u).set k (max x z) := by
  have hk := (List.getElem?_eq_some_iff.1 hx).1
  have e : (join5 v u)[k]? = some (max x z) := by unfold join5; rw [List.getElem?_zipWith, hx, hz]
  unfold joinTo
  have ht : ((join5 v u).take k).length = k := by rw [List.length_take]; omega
  rw [List.set_append_right _ _ (by rw [ht]; exact Nat.le_refl _), ht, Nat.sub_self, List.drop_eq_getElem_cons hk, List.set_cons_zero, List.take_add_one, e]
  simp
set_option maxRecDepth 100000 in
set_option maxHeartbeats 3200000 in
theorem l5Join_c (w : World) (base : Nat) (q : Sp) (y : Ly) (c : Ct) (t : Nat) (va vo vc : Nat) (u : List Int) (h : OwC w base q y c c.nl) (ht : t < c.nv) (hu : u.length = 3) (hr : Rd w (some ⟨va, vo, none⟩) (ints u)) (hne : blk (y.I (1, t)).1 ≠ some va) :
    Calls Try.prog 88 #[.agg (c.hd q), .int .i64 t, .slice (some ⟨va, vo, none⟩) 3 vc] w fun e w' => e = .returned (.tuple #[]) ∧ OwC w' base q y (c.setX (1, t) (join5 (c.X (1, t)) u)) c.nl ∧ Keeps (fun b => blk (y.I (1, t)).1 = some b) w w' := by
  have hv3 := h.len _ (domV ht) (Nat.le_refl _)
  obtain ⟨g, hg, hgb, hgl⟩ := h.iaddr (domV ht) (by rw [hv3]; decide)
  obtain ⟨vb, hvb, hvbb, hvbl⟩ := h.vaddr (by omega)
  have hJL : (join5 (c.X (1, t)) u).length = (c.X (1, t)).length := by unfold join5; rw [List.length_zipWith, hv3, hu]; rfl
  have HJ0 := hid (show joinTo 0 (c.X (1, t)) u = c.X (1, t) from by simp [joinTo])
  have HJ3 := hid (show joinTo 3 (c.X (1, t)) u = join5 (c.X (1, t)) u from by
    unfold joinTo
    rw [List.take_of_length_le (by omega), List.drop_of_length_le (by omega), List.append_nil])
  have HJG := hid (fun k x (hx : (c.X (1, t))[k]? = some x) => joinTo_get hx hJL)
  have HJS := hid (fun k x z (hx : (c.X (1, t))[k]? = some x) (hz : u[k]? = some z) => joinTo_succ hx hz hJL)
  have HVX := hid (fun k (hk : k < 3) => show ∃ x, (c.X (1, t))[k]? = some x from ⟨_, List.getElem?_eq_getElem (by omega)⟩)
  have HUX := hid (fun k (hk : k < 3) => show ∃ x, u[k]? = some x ∧ w.cell? ⟨va, vo + k, none⟩ = some (.int .i64 x) ∧ va < w.heap.size from by
    obtain ⟨b, off, e, hlt, hc⟩ := hr.at k (by rw [List.length_map]; omega)
    cases e
    rw [List.getElem_map] at hc
    exact ⟨_, List.getElem?_eq_getElem (by omega), hc, hlt⟩)
  have hneg : va ≠ g := fun e => hne (by rw [hg, e]; rfl)
  obtain ⟨gc, hgc⟩ : ∃ gc, gc = (y.I (1, t)).2 := ⟨_, rfl⟩
  have HGC := hid hgc
  have HG := hid hg
  have HVB := hid hvb
  have HT := hid ht
  have hs2 : q.a2 = some ⟨vb, 0, none⟩ := hvb
  have HB1 := hid ((Below.refl w.heap.size w).alloc (Nat.le_refl _) (.cells (c.hd q) 59))
  have HW1 := hid (h.below ((Below.refl w.heap.size w).alloc (Nat.le_refl _) (.cells (c.hd q) 59)))
  unfold Ct.hd at HB1 HW1 ⊢
  rw [hs2] at HB1 HW1 ⊢
  obtain ⟨p0, hp0⟩ : ∃ x, x = (c.X (0, 0)).length := ⟨_, rfl⟩
  obtain ⟨p1, hp1⟩ : ∃ x, x = (c.X (0, 1)).length := ⟨_, rfl⟩
  obtain ⟨nv, hnv⟩ : ∃ x, x = c.nv := ⟨_, rfl⟩
  obtain ⟨nl, hnl⟩ : ∃ x, x = c.nl := ⟨_, rfl⟩
  rw [← hp0, ← hp1, ← hnv, ← hnl] at HB1 HW1
  rw [← hp0, ← hp1, ← hnv, ← hnl]
  rw [← hnv] at ht
  have HNL := hid hnl
  obtain ⟨w1, hw1⟩ : ∃ w1, w1 = w.alloc (.cells #[.slice q.a0 p0 q.c0, .slice q.a1 p1 q.c1, .slice (some ⟨vb, 0, none⟩) nv q.c2, .slice q.a3 nl q.c3] 59) := ⟨_, rfl⟩
  rw [← hw1] at HB1 HW1
  have hs1 : w1.heap.size = w.heap.size + 1 := by rw [hw1]; simp
  have hc1 : w1.heap[w.heap.size]? = some (.cells #[.slice q.a0 p0 q.c0, .slice q.a1 p1 q.c1, .slice (some ⟨vb, 0, none⟩) nv q.c2, .slice q.a3 nl q.c3] 59 (0, 0)) := by rw [hw1]; exact heap_alloc_new w _
  have HC1 := hid hc1
  clear h hr hne hv3 hg hvb hs2 hJL hu hgc hp0 hp1 hnv hnl hc1
  go_enter Try.func88, Try.ntmps88
  go_wp2_with fail
  rw [← hw1]
  clear hw1
  go_loopw [6] (fun i wr => ∃ k : Nat, k ≤ 3 ∧ i = .int .i64 k ∧ Hid (OwC wr base q y (c.setX (1, t) (joinTo k (c.X (1, t)) u)) nl) ∧ Hid (Keeps (· = g) w1 wr)) (fun i _ => 3 - (intOf i).toNat)
  case atStart => exact ⟨0, Nat.zero_le _, rfl, hid (by rw [HJ0.out, setX_same]; exact HW1.out), hid (Keeps.refl _ _)⟩
  case round =>
    obtain ⟨k, hk, rfl, HO, HK⟩ := hrel
    by_cases hlt : k < 3
    · have hki : (k : Int) < 3 := by omega
      obtain ⟨x, hx⟩ := HVX.out k hlt
      obtain ⟨z, hz, huc, hul⟩ := HUX.out k hlt
      have hks := HK.out.size
      have x2 : wr.cell? ⟨w.heap.size, 2, none⟩ = some (.slice (some ⟨vb, 0, none⟩) nv q.c2) := cell_of_row wr w.heap.size 2 _ _ _ ((HK.out.block _ (by omega) (by omega)).trans HC1.out)
      have eb : wr.heap[va]? = w.heap[va]? := (HK.out.block va (by omega) hneg).trans (HB1.out.block va hul)
      have xu : wr.cell? ⟨va, vo + k, none⟩ = some (.int .i64 z) := by rw [World.cell?_of_block eb]; exact huc
      clear eb
      have xv := HO.out.vcell (t := t) HT.out HVB.out
      rw [HG.out, ← HGC.out] at xv
      obtain ⟨xi, xf⟩ := HO.out.icell (ix := (1, t)) (j := k) (x := x) (domV HT.out) HG.out (by rw [setX_get]; exact HJG.out k x hx)
      have HST := hid (HJS.out k x z hx hz)
      have hnvi : (t : Int) < (nv : Int) := by omega
      have HXX := hid hx
      clear hx hz huc
      by_cases hzx : x < z
      · have HMX := hid (show max x z = z by omega)
        rw [HMX.out] at HST
        have hzx' : decide (x < z) = true := decide_eq_true hzx
        go_wp2_with fail
        go_quiet (fail)
        go_wp2_with fail
        obtain ⟨w5, hw5⟩ : ∃ w5, w5 = wr.drewN nq := ⟨_, rfl⟩
        rw [← hw5]
        have hb5 : Below wr.heap.size wr w5 := by rw [hw5]; exact below_drewN nq (Below.refl _ _)
        have HO2 := hid ((HO.out.below hb5).set (ix := (1, t)) (domV HT.out) HG.out k z)
        rw [setX_get, setX_setX, ← HST.out] at HO2
        have HK2 := hid ((HK.out.trans (Keeps.of_below hb5)).trans (Keeps.setCell w5 ⟨g, k, none⟩ (.int .i64 z)))
        have z2 : w5.cell? ⟨w.heap.size, 2, none⟩ = some (.slice (some ⟨vb, 0, none⟩) nv q.c2) := by rw [hw5]; exact x2
        have zu : w5.cell? ⟨va, vo + k, none⟩ = some (.int .i64 z) := by rw [hw5]; exact xu
        have zv : w5.cell? ⟨vb, t, none⟩ = some (.slice (some ⟨g, 0, none⟩) 3 gc) := by rw [hw5]; exact xv
        have zi : w5.cell? ⟨g, k, none⟩ = some (.int .i64 x) := by rw [hw5]; exact xi
        have zf : w5.frozen? ⟨g, k, none⟩ = false := by rw [hw5]; exact xf
        clear hw5 hb5 x2 xu xv xi xf
        refine wp_region_mix (by kernel_rfl) (by kernel_rfl) ?_
        go_wp2_with (first | (with_reducible refine wpMix_nil ?_) | (with_reducible refine wpMix_rd rfl rfl (fun K hK => ?_); go_simp; (try go_bits); refine hK _ ?_; clear hK K) | (with_reducible refine wpMix_act (o := ⟨_, .store _ _ _, _, _, _, _⟩) rfl rfl (fun K hK => ?_)))
        exact ⟨⟨k + 1, by omega, by go_num, hid (HO2.out.below (below_drewN 1 (Below.refl _ _))), hid (HK2.out.trans (Keeps.of_below (below_drewN 1 (Below.refl _ _))))⟩, by simp [intOf]; omega⟩
      · have HMX := hid (show max x z = x by omega)
        rw [HMX.out] at HST
        have hzx' : decide (x < z) = false := decide_eq_false hzx
        have HO3 := hid (show OwC wr base q y (c.setX (1, t) (joinTo (k + 1) (c.X (1, t)) u)) nl from by
          rw [HST.out, list_set_same _ (HJG.out k x HXX.out)]
          exact HO.out)
        go_wp2_with fail
        go_quiet (fail)
        go_wp2_with fail
        go_roundw
        case rel => exact ⟨k + 1, by omega, by go_num, hid (HO3.out.below (below_drewN _ (Below.refl _ _))), hid (HK.out.trans (Keeps.of_below (below_drewN _ (Below.refl _ _))))⟩
        case measure => simp [intOf]; omega
    · have hk3 : ¬ (k : Int) < 3 := by omega
      have HF := hid (show OwC wr base q y (c.setX (1, t) (join5 (c.X (1, t)) u)) nl from by
        have := HO.out
        rw [show k = 3 by omega, HJ3.out] at this
        exact this)
      go_wp2_with fail
      go_end0
      refine ⟨rfl, ?_, ?_⟩
      · exact HF.out
      · have h1 := (Keeps.of_below (S := (· = g)) HB1.out).trans HK.out
        exact h1.mono fun b (e : b = g) => by rw [HG.out, e]; rfl
end Go.Proofs.Ythlmfjoiicnomaa
