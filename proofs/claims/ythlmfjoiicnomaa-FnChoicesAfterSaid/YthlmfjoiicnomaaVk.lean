/-
  PROVED HERE: where the rows of a state of the call's own lie; what spec.l5Join does. plain facts on the rows of a state into which a write is put. CONDITIONS: as each theorem states.
-/
import Derived.Test.YthlmfjoiicnomaaVm
namespace Go.Proofs.Ythlmfjoiicnomaa
open Go.RowKit
set_option linter.unusedVariables false
set_option linter.unusedSimpArgs false

section
variable {w : World} {base : Nat} {q : Sp} {y : Ly} {c : Ct} {n : Nat}
theorem OwC.iaddr (h : OwC w base q y c n) {ix : Ix} (hx : c.dom ix) (hp : 0 < (c.X ix).length) : ∃ g, (y.I ix).1 = some ⟨g, 0, none⟩ ∧ base ≤ g ∧ g < w.heap.size := own_some (h.int ix hx) hp
theorem OwC.icell (h : OwC w base q y c n) {ix : Ix} (hx : c.dom ix) {g : Nat} (hg : (y.I ix).1 = some ⟨g, 0, none⟩) {j : Nat} {x : Int} (hj : (c.X ix)[j]? = some x) : w.cell? ⟨g, j, none⟩ = some (.int .i64 x) ∧ w.frozen? ⟨g, j, none⟩ = false := by
  have ho := h.int ix hx
  unfold OwI at ho
  rw [hg] at ho
  have hl := (List.getElem?_eq_some_iff.1 hj).1
  refine ⟨(ho.cellAt j (by omega)).trans ?_, ho.frozenAt j⟩
  rw [List.getElem?_map, hj]
  rfl
theorem OwC.vaddr (h : OwC w base q y c n) (hp : 0 < c.nv) : ∃ g, q.a2 = some ⟨g, 0, none⟩ ∧ base ≤ g ∧ g < w.heap.size := own_some h.vo hp
theorem OwC.vcell (h : OwC w base q y c n) {t : Nat} (ht : t < c.nv) {g : Nat} (hg : q.a2 = some ⟨g, 0, none⟩) : w.cell? ⟨g, t, none⟩ = some (.slice (y.I (1, t)).1 3 (y.I (1, t)).2) := by
  have ho := h.vo
  rw [hg] at ho
  exact (ho.cellAt t (by omega)).trans (vcells_get ht)
theorem OwC.laddr (h : OwC w base q y c n) (hp : 0 < n) : ∃ g, q.a3 = some ⟨g, 0, none⟩ ∧ base ≤ g ∧ g < w.heap.size := own_some h.lo hp
theorem OwC.lcell (h : OwC w base q y c n) {l : Nat} (hl : l < n) {g : Nat} (hg : q.a3 = some ⟨g, 0, none⟩) : w.cell? ⟨g, l, none⟩ = some (.slice (y.L l).1 (c.N l) (y.L l).2) ∧ w.frozen? ⟨g, l, none⟩ = false := by
  have ho := h.lo
  rw [hg] at ho
  exact ⟨(ho.cellAt l (by omega)).trans (lcells_get hl), ho.frozenAt l⟩
theorem OwC.raddr (h : OwC w base q y c n) {l : Nat} (hl : l < c.nl) (hp : 0 < c.N l) : ∃ g, (y.L l).1 = some ⟨g, 0, none⟩ ∧ base ≤ g ∧ g < w.heap.size := own_some (h.row l hl) hp
theorem OwC.mcell (h : OwC w base q y c n) {l k : Nat} (hl : l < c.nl) (hk : k < c.N l) {g : Nat} (hg : (y.L l).1 = some ⟨g, 0, none⟩) : w.cell? ⟨g, k * 3, none⟩ = some (.int .i64 (c.MV l k)) ∧ w.cell? ⟨g, k * 3 + 1, none⟩ = some (.bool (c.LK l k)) ∧ w.cell? ⟨g, k * 3 + 2, none⟩ = some (.slice (y.I (l + 2, k)).1 3 (y.I (l + 2, k)).2) ∧ w.frozen? ⟨g, k * 3 + 1, none⟩ = false := by
  have ho := h.row l hl
  rw [hg] at ho
  have e := fun j (hj : j < 3) => (ho.cellAt (k * 3 + j) (by omega)).trans (mcells_get (y := y) (MV := c.MV) (LK := c.LK) (l := l) hk hj)
  exact ⟨e 0 (by decide), e 1 (by decide), e 2 (by decide), ho.frozenAt _⟩
/-- A block of another kind. -/
theorem OwC.kind (h : OwC w base q y c n) {b : Nat} {cs : Array Value} {T : TypeId} (hb : w.heap[b]? = some (.cells cs T (0, 0))) : (T ≠ 3 → ∀ ix, c.dom ix → blk (y.I ix).1 ≠ some b) ∧ (T ≠ 24 → blk q.a2 ≠ some b) ∧ (T ≠ 118 → blk q.a3 ≠ some b) ∧ (T ≠ 117 → ∀ l, l < c.nl → blk (y.L l).1 ≠ some b) := by
  have key : ∀ {e size m : Nat} {a : Option Addr} {cap : Nat} {xs : List Value}, w.ownsRow base e size (.slice a m cap) m xs → T ≠ e → blk a ≠ some b := fun {e size m a cap xs} ho hne ha => by
    rcases ho.2 with ⟨hv, _⟩ | ⟨g, cp, cur, hv, _, hg, _⟩
    · simp only [Value.slice.injEq] at hv
      rw [hv.1] at ha
      cases ha
    · simp only [Value.slice.injEq, true_and] at hv
      rw [hv.1] at ha
      simp only [blk, Option.some.injEq] at ha
      rw [ha, hb] at hg
      simp only [Option.some.injEq, Obj.cells.injEq] at hg
      exact hne hg.2.1
  exact ⟨fun hT ix hx => key (h.int ix hx) hT, fun hT => key h.vo hT, fun hT => key h.lo hT, fun hT l hl => key (h.row l hl) hT⟩
end
theorem setX_setX (c : Ct) (ix : Ix) (xs ys : List Int) : (c.setX ix xs).setX ix ys = c.setX ix ys := by
  unfold Ct.setX
  simp only [Ct.mk.injEq, and_true]
  funext iy
  split <;> rfl
theorem setX_same (c : Ct) (ix : Ix) : c.setX ix (c.X ix) = c := by
  cases c
  unfold Ct.setX
  simp only [Ct.mk.injEq, and_true]
  funext iy
  split
  · rename_i e; rw [e]
  · rfl
theorem setX_get (c : Ct) (ix : Ix) (xs : List Int) : (c.setX ix xs).X ix = xs := by
  show (if ix = ix then xs else c.X ix) = xs
  rw [if_pos rfl]
theorem list_set_same {α : Type} (xs : List α) {k : Nat} {x : α} (h : xs[k]? = some x) : xs.set k x = xs := by
  obtain ⟨hk, rfl⟩ := List.getElem?_eq_some_iff.1 h
  exact List.set_getElem_self hk
def joinTo (k : Nat) (v u : List Int) : List Int := (join5 v u).take k ++ v.drop k
theorem joinTo_get {v u : List Int} {k : Nat} {x : Int} (hx : v[k]? = some x) (hl : (join5 v u).length = v.length) : (joinTo k v u)[k]? = some x := by
  unfold joinTo
  have hk := (List.getElem?_eq_some_iff.1 hx).1
  rw [List.getElem?_append_right (by rw [List.length_take]; omega), List.length_take, Nat.min_eq_left (by omega), Nat.sub_self, List.getElem?_drop, Nat.add_zero]
  exact hx
theorem joinTo_succ {v u : List Int} {k : Nat} {x z : Int} (hx : v[k]? = some x) (hz : u[k]? = some z) (hl : (join5 v u).length = v.length) : joinTo (k + 1) v u = (joinTo k v u).set k (max x z) := by
  have hk := (List.getElem?_eq_some_iff.1 hx).1
  have e : (join5 v u)[k]? = some (max x z) := by unfold join5; rw [List.getElem?_zipWith, hx, hz]
  unfold joinTo
  have ht : ((join5 v u).take k).length = k := by rw [List.length_take]; omega
  rw [List.set_append_right _ _ (by rw [ht]; exact Nat.le_refl _), ht, Nat.sub_self, List.drop_eq_getElem_cons hk, List.set_cons_zero, List.take_add_one, e]
  simp
set_option maxRecDepth 100000 in
set_option maxHeartbeats 3200000 in
theorem l5Join_c (w : World) (base : Nat) (q : Sp) (y : Ly) (c : Ct) (t : Nat) (va vo vc : Nat) (u : List Int) (h : OwC w base q y c c.nl) (ht : t < c.nv) (hu : u.length = 3) (hr : Rd w (some ⟨va, vo, none⟩) (ints u)) (hne : blk (y.I (1, t)).1 ≠ some va) :
    Calls Try.prog 88 #[.agg (c.hd q), .int .i64 t, .slice (some ⟨va, vo, none⟩) 3 vc] w fun e w' => e = .returned (.tuple #[]) ∧ OwC w' base q y (c.setX (1, t) (join5 (c.X (1, t)) u)) c.nl ∧ Keeps (fun b => blk (y.I (1, t)).1 = some b) w w' := by
  have hv3 := h.len _ (domV ht) (Nat.le_refl _)
  obtain ⟨g, hg, hgb, hgl⟩ := h.iaddr (domV ht) (by rw [hv3]; decide)
  obtain ⟨vb, hvb, hvbb, hvbl⟩ := h.vaddr (by omega)
  have hJL : (join5 (c.X (1, t)) u).length = (c.X (1, t)).length := by unfold join5; rw [List.length_zipWith, hv3, hu]; rfl
  have HJ0 := hid (show joinTo 0 (c.X (1, t)) u = c.X (1, t) from by simp [joinTo])
  have HJ3 := hid (show joinTo 3 (c.X (1, t)) u = join5 (c.X (1, t)) u from by
    unfold joinTo
    rw [List.take_of_length_le (by omega), List.drop_of_length_le (by omega), List.append_nil])
  have HJG := hid (fun k x (hx : (c.X (1, t))[k]? = some x) => joinTo_get hx hJL)
  have HJS := hid (fun k x z (hx : (c.X (1, t))[k]? = some x) (hz : u[k]? = some z) => joinTo_succ hx hz hJL)
  have HVX := hid (fun k (hk : k < 3) => show ∃ x, (c.X (1, t))[k]? = some x from ⟨_, List.getElem?_eq_getElem (by omega)⟩)
  have HUX := hid (fun k (hk : k < 3) => show ∃ x, u[k]? = some x ∧ w.cell? ⟨va, vo + k, none⟩ = some (.int .i64 x) ∧ va < w.heap.size from by
    obtain ⟨b, off, e, hlt, hc⟩ := hr.at k (by rw [List.length_map]; omega)
    cases e
    rw [List.getElem_map] at hc
    exact ⟨_, List.getElem?_eq_getElem (by omega), hc, hlt⟩)
  have hneg : va ≠ g := fun e => hne (by rw [hg, e]; rfl)
  obtain ⟨gc, hgc⟩ : ∃ gc, gc = (y.I (1, t)).2 := ⟨_, rfl⟩
  have HGC := hid hgc
  have HG := hid hg
  have HVB := hid hvb
  have HT := hid ht
  have hs2 : q.a2 = some ⟨vb, 0, none⟩ := hvb
  have HB1 := hid ((Below.refl w.heap.size w).alloc (Nat.le_refl _) (.cells (c.hd q) 59))
  have HW1 := hid (h.below ((Below.refl w.heap.size w).alloc (Nat.le_refl _) (.cells (c.hd q) 59)))
  unfold Ct.hd at HB1 HW1 ⊢
  rw [hs2] at HB1 HW1 ⊢
  obtain ⟨p0, hp0⟩ : ∃ x, x = (c.X (0, 0)).length := ⟨_, rfl⟩
  obtain ⟨p1, hp1⟩ : ∃ x, x = (c.X (0, 1)).length := ⟨_, rfl⟩
  obtain ⟨nv, hnv⟩ : ∃ x, x = c.nv := ⟨_, rfl⟩
  obtain ⟨nl, hnl⟩ : ∃ x, x = c.nl := ⟨_, rfl⟩
  rw [← hp0, ← hp1, ← hnv, ← hnl] at HB1 HW1
  rw [← hp0, ← hp1, ← hnv, ← hnl]
  rw [← hnv] at ht
  have HNL := hid hnl
  obtain ⟨w1, hw1⟩ : ∃ w1, w1 = w.alloc (.cells #[.slice q.a0 p0 q.c0, .slice q.a1 p1 q.c1, .slice (some ⟨vb, 0, none⟩) nv q.c2, .slice q.a3 nl q.c3] 59) := ⟨_, rfl⟩
  rw [← hw1] at HB1 HW1
  have hs1 : w1.heap.size = w.heap.size + 1 := by rw [hw1]; simp
  have hc1 : w1.heap[w.heap.size]? = some (.cells #[.slice q.a0 p0 q.c0, .slice q.a1 p1 q.c1, .slice (some ⟨vb, 0, none⟩) nv q.c2, .slice q.a3 nl q.c3] 59 (0, 0)) := by rw [hw1]; exact heap_alloc_new w _
  have HC1 := hid hc1
  clear h hr hne hv3 hg hvb hs2 hJL hu hgc hp0 hp1 hnv hnl hc1
  go_enter Try.func88, Try.ntmps88
  go_wp2_with fail
  rw [← hw1]
  clear hw1
  go_loopw [6] (fun i wr => ∃ k : Nat, k ≤ 3 ∧ i = .int .i64 k ∧ Hid (OwC wr base q y (c.setX (1, t) (joinTo k (c.X (1, t)) u)) nl) ∧ Hid (Keeps (· = g) w1 wr)) (fun i _ => 3 - (intOf i).toNat)
  case atStart => exact ⟨0, Nat.zero_le _, rfl, hid (by rw [HJ0.out, setX_same]; exact HW1.out), hid (Keeps.refl _ _)⟩
  case round =>
    obtain ⟨k, hk, rfl, HO, HK⟩ := hrel
    by_cases hlt : k < 3
    · have hki : (k : Int) < 3 := by omega
      obtain ⟨x, hx⟩ := HVX.out k hlt
      obtain ⟨z, hz, huc, hul⟩ := HUX.out k hlt
      have hks := HK.out.size
      have x2 : wr.cell? ⟨w.heap.size, 2, none⟩ = some (.slice (some ⟨vb, 0, none⟩) nv q.c2) := cell_of_row wr w.heap.size 2 _ _ _ ((HK.out.block _ (by omega) (by omega)).trans HC1.out)
      have eb : wr.heap[va]? = w.heap[va]? := (HK.out.block va (by omega) hneg).trans (HB1.out.block va hul)
      have xu : wr.cell? ⟨va, vo + k, none⟩ = some (.int .i64 z) := by rw [World.cell?_of_block eb]; exact huc
      clear eb
      have xv := HO.out.vcell (t := t) HT.out HVB.out
      rw [HG.out, ← HGC.out] at xv
      obtain ⟨xi, xf⟩ := HO.out.icell (ix := (1, t)) (j := k) (x := x) (domV HT.out) HG.out (by rw [setX_get]; exact HJG.out k x hx)
      have HST := hid (HJS.out k x z hx hz)
      have hnvi : (t : Int) < (nv : Int) := by omega
      have HXX := hid hx
      clear hx hz huc
      by_cases hzx : x < z
      · have HMX := hid (show max x z = z by omega)
        rw [HMX.out] at HST
        have hzx' : decide (x < z) = true := decide_eq_true hzx
        go_wp2_with fail
        go_quiet (fail)
        go_wp2_with fail
        obtain ⟨w5, hw5⟩ : ∃ w5, w5 = wr.drewN nq := ⟨_, rfl⟩
        rw [← hw5]
        have hb5 : Below wr.heap.size wr w5 := by rw [hw5]; exact below_drewN nq (Below.refl _ _)
        have HO2 := hid ((HO.out.below hb5).set (ix := (1, t)) (domV HT.out) HG.out k z)
        rw [setX_get, setX_setX, ← HST.out] at HO2
        have HK2 := hid ((HK.out.trans (Keeps.of_below hb5)).trans (Keeps.setCell w5 ⟨g, k, none⟩ (.int .i64 z)))
        have z2 : w5.cell? ⟨w.heap.size, 2, none⟩ = some (.slice (some ⟨vb, 0, none⟩) nv q.c2) := by rw [hw5]; exact x2
        have zu : w5.cell? ⟨va, vo + k, none⟩ = some (.int .i64 z) := by rw [hw5]; exact xu
        have zv : w5.cell? ⟨vb, t, none⟩ = some (.slice (some ⟨g, 0, none⟩) 3 gc) := by rw [hw5]; exact xv
        have zi : w5.cell? ⟨g, k, none⟩ = some (.int .i64 x) := by rw [hw5]; exact xi
        have zf : w5.frozen? ⟨g, k, none⟩ = false := by rw [hw5]; exact xf
        clear hw5 hb5 x2 xu xv xi xf
        refine wp_region_mix (by kernel_rfl) (by kernel_rfl) ?_
        go_wp2_with (first | (with_reducible refine wpMix_nil ?_) | (with_reducible refine wpMix_rd rfl rfl (fun K hK => ?_); go_simp; (try go_bits); refine hK _ ?_; clear hK K) | (with_reducible refine wpMix_act (o := ⟨_, .store _ _ _, _, _, _, _⟩) rfl rfl (fun K hK => ?_)))
        exact ⟨⟨k + 1, by omega, by go_num, hid (HO2.out.below (below_drewN 1 (Below.refl _ _))), hid (HK2.out.trans (Keeps.of_below (below_drewN 1 (Below.refl _ _))))⟩, by simp [intOf]; omega⟩
      · have HMX := hid (show max x z = x by omega)
        rw [HMX.out] at HST
        have hzx' : decide (x < z) = false := decide_eq_false hzx
        have HO3 := hid (show OwC wr base q y (c.setX (1, t) (joinTo (k + 1) (c.X (1, t)) u)) nl from by
          rw [HST.out, list_set_same _ (HJG.out k x HXX.out)]
          exact HO.out)
        go_wp2_with fail
        go_quiet (fail)
        go_wp2_with fail
        go_roundw
        case rel => exact ⟨k + 1, by omega, by go_num, hid (HO3.out.below (below_drewN _ (Below.refl _ _))), hid (HK.out.trans (Keeps.of_below (below_drewN _ (Below.refl _ _))))⟩
        case measure => simp [intOf]; omega
    · have hk3 : ¬ (k : Int) < 3 := by omega
      have HF := hid (show OwC wr base q y (c.setX (1, t) (join5 (c.X (1, t)) u)) nl from by
        have := HO.out
        rw [show k = 3 by omega, HJ3.out] at this
        exact this)
      go_wp2_with fail
      go_end0
      refine ⟨rfl, ?_, ?_⟩
      · exact HF.out
      · have h1 := (Keeps.of_below (S := (· = g)) HB1.out).trans HK.out
        exact h1.mono fun b (e : b = g) => by rw [HG.out, e]; rfl
end Go.Proofs.Ythlmfjoiicnomaa
namespace Go.Proofs.Ythlmfjoiicnomaa
open Go.RowKit
set_option linter.unusedVariables false
set_option linter.unusedSimpArgs false

/-- The rows of P with a place moved. -/
def Ct.bmp (c : Ct) (P : Ix → Bool) (loc k : Nat) : Ct := { c with X := fun ix => if P ix then bump loc k (c.X ix) else c.X ix }
theorem bmp_none (c : Ct) {P : Ix → Bool} (loc k : Nat) (h : ∀ ix, P ix = false) : c.bmp P loc k = c := by
  cases c
  unfold Ct.bmp
  simp only [Ct.mk.injEq, and_true]
  funext ix
  rw [h ix]
  rfl
theorem bmp_yes {c : Ct} {P P' : Ix → Bool} {loc k : Nat} {ix0 : Ix} {x : Int} (h0 : P ix0 = false) (h' : ∀ ix, P' ix = (P ix || decide (ix = ix0))) (hx : (c.X ix0)[loc]? = some x) (hk : (k : Int) ≤ x) : (c.bmp P loc k).setX ix0 (((c.bmp P loc k).X ix0).set loc (x + 1)) = c.bmp P' loc k := by
  unfold Ct.bmp Ct.setX
  simp only [Ct.mk.injEq, and_true]
  funext ix
  by_cases e : ix = ix0
  · subst e
    rw [if_pos rfl, h0, h' ix, h0]
    simp only [Bool.false_or, decide_true, if_true, Bool.false_eq_true, if_false]
    unfold bump
    rw [List.getD_eq_getElem?_getD, hx]
    simp only [Option.getD_some]
    rw [if_pos hk]
  · rw [if_neg e, h' ix, decide_eq_false e, Bool.or_false]
theorem bmp_no {c : Ct} {P P' : Ix → Bool} {loc k : Nat} {ix0 : Ix} {x : Int} (h' : ∀ ix, P' ix = (P ix || decide (ix = ix0))) (hx : (c.X ix0)[loc]? = some x) (hk : ¬ (k : Int) ≤ x) : c.bmp P' loc k = c.bmp P loc k := by
  unfold Ct.bmp
  simp only [Ct.mk.injEq, and_true]
  funext ix
  rw [h' ix]
  by_cases e : ix = ix0
  · subst e
    have hb : bump loc k (c.X ix) = c.X ix := by
      unfold bump
      rw [List.getD_eq_getElem?_getD, hx]
      simp only [Option.getD_some]
      rw [if_neg hk]
    rw [hb]
    split <;> split <;> rfl
  · rw [decide_eq_false e, Bool.or_false]
def P1 (i : Nat) (ix : Ix) : Bool := (ix.1 == 1) && decide (ix.2 < i)
def P2 (nv i j : Nat) (ix : Ix) : Bool := P1 nv ix || (decide (2 ≤ ix.1) && (decide (ix.1 < i + 2) || ((ix.1 == i + 2) && decide (ix.2 < j))))
theorem P1_zero (ix : Ix) : P1 0 ix = false := by simp [P1]
theorem P1_self (i : Nat) : P1 i (1, i) = false := by simp [P1]
theorem P1_succ (i : Nat) (ix : Ix) : P1 (i + 1) ix = (P1 i ix || decide (ix = (1, i))) := by
  obtain ⟨a, b⟩ := ix
  unfold P1
  rw [Bool.eq_iff_iff]
  simp
  omega
theorem P2_zero (nv : Nat) : P2 nv 0 0 = P1 nv := by
  funext ix
  obtain ⟨a, b⟩ := ix
  unfold P2 P1
  rw [Bool.eq_iff_iff]
  simp
  omega
theorem P2_self (nv i j : Nat) : P2 nv i j (i + 2, j) = false := by
  unfold P2 P1
  simp
theorem P2_succ (nv i j : Nat) (ix : Ix) : P2 nv i (j + 1) ix = (P2 nv i j ix || decide (ix = (i + 2, j))) := by
  obtain ⟨a, b⟩ := ix
  unfold P2 P1
  rw [Bool.eq_iff_iff]
  simp
  omega
/-- A row is through. -/
theorem bmp_row (c : Ct) (loc k i : Nat) : CtEq (c.bmp (P2 c.nv i (c.N i)) loc k) (c.bmp (P2 c.nv (i + 1) 0) loc k) := by
  refine ⟨rfl, rfl, fun l hl => rfl, fun ix hx => ?_, fun l k' hl hk' => ⟨rfl, rfl⟩⟩
  have e : P2 c.nv (i + 1) 0 ix = P2 c.nv i (c.N i) ix := by
    obtain ⟨a, b⟩ := ix
    have hx : (a = 0 ∧ b < 2) ∨ (a = 1 ∧ b < c.nv) ∨ (2 ≤ a ∧ a < c.nl + 2 ∧ b < c.N (a - 2)) := hx
    unfold P2 P1
    rw [Bool.eq_iff_iff]
    simp
    rcases hx with ⟨rfl, _⟩ | ⟨rfl, _⟩ | ⟨h1, h2, h3⟩
    · simp
    · simp
    · by_cases ha : a = i + 2
      · subst ha
        rw [show i + 2 - 2 = i by omega] at h3
        simp [h3]
      · omega
  show (if P2 c.nv (i + 1) 0 ix then bump loc k (c.X ix) else c.X ix) = if P2 c.nv i (c.N i) ix then bump loc k (c.X ix) else c.X ix
  rw [e]
/-- A write in the rows. -/
def insC (c : Ct) (loc k : Nat) (val : Int) (nw : List Int) : Ct where
  X := fun ix => if ix.1 = loc + 2 then (if ix.2 < k then c.X ix else if ix.2 = k then nw else c.X (loc + 2, ix.2 - 1)) else c.X ix
  nv := c.nv
  nl := c.nl
  N := fun l => if l = loc then c.N l + 1 else c.N l
  MV := fun l j => if l = loc then (if j < k then c.MV l j else if j = k then val else c.MV l (j - 1)) else c.MV l j
  LK := fun l j => if l = loc then (if j < k then c.LK l j else if j = k then false else c.LK l (j - 1)) else c.LK l j
def insY (y : Ly) (loc k : Nat) (r x : Option Addr × Nat) : Ly where
  I := fun ix => if ix.1 = loc + 2 then (if ix.2 < k then y.I ix else if ix.2 = k then r else y.I (loc + 2, ix.2 - 1)) else y.I ix
  L := fun l => if l = loc then x else y.L l
theorem setX_ne (c : Ct) (iy : Ix) (xs : List Int) {ix : Ix} (h : ix ≠ iy) : (c.setX iy xs).X ix = c.X ix := by
  show (if ix = iy then xs else c.X ix) = c.X ix
  rw [if_neg h]
theorem insC_out (c : Ct) (loc k : Nat) (val : Int) (nw : List Int) {ix : Ix} (h : ix.1 ≠ loc + 2) : (insC c loc k val nw).X ix = c.X ix := by
  show (if ix.1 = loc + 2 then _ else c.X ix) = c.X ix
  rw [if_neg h]
theorem insC_in (c : Ct) (loc k : Nat) (val : Int) (nw : List Int) (b : Nat) : (insC c loc k val nw).X (loc + 2, b) = if b < k then c.X (loc + 2, b) else if b = k then nw else c.X (loc + 2, b - 1) := by
  show (if loc + 2 = loc + 2 then _ else _) = _
  rw [if_pos rfl]
theorem bmp_X (c : Ct) (P : Ix → Bool) (loc k : Nat) (ix : Ix) : (c.bmp P loc k).X ix = if P ix then bump loc k (c.X ix) else c.X ix := rfl
theorem mcells_ins (y : Ly) (c : Ct) (loc k : Nat) (val : Int) (nw : List Int) (r x : Option Addr × Nat) (hk : k ≤ c.N loc) :
    mcells (insY y loc k r x) (insC c loc k val nw).MV (insC c loc k val nw).LK loc (c.N loc + 1) = (mcells y c.MV c.LK loc (c.N loc)).take (k * 3) ++ [.int .i64 val, .bool false, .slice r.1 3 r.2] ++ (mcells y c.MV c.LK loc (c.N loc)).drop (k * 3) := by
  apply List.ext_getElem?
  intro i
  have hl := mcells_len y c.MV c.LK loc (c.N loc)
  have ht : ((mcells y c.MV c.LK loc (c.N loc)).take (k * 3)).length = k * 3 := by rw [List.length_take]; omega
  by_cases hi : i < (c.N loc + 1) * 3
  · obtain ⟨m, j, rfl, hj⟩ : ∃ m j, i = m * 3 + j ∧ j < 3 := ⟨i / 3, i % 3, by omega, by omega⟩
    have hm : m < c.N loc + 1 := by omega
    rw [mcells_get hm hj, List.append_assoc]
    have e1 : (insY y loc k r x).I (loc + 2, m) = if m < k then y.I (loc + 2, m) else if m = k then r else y.I (loc + 2, m - 1) := by
      show (if loc + 2 = loc + 2 then _ else _) = _
      rw [if_pos rfl]
    have e2 : (insC c loc k val nw).MV loc m = if m < k then c.MV loc m else if m = k then val else c.MV loc (m - 1) := by
      show (if loc = loc then _ else _) = _
      rw [if_pos rfl]
    have e3 : (insC c loc k val nw).LK loc m = if m < k then c.LK loc m else if m = k then false else c.LK loc (m - 1) := by
      show (if loc = loc then _ else _) = _
      rw [if_pos rfl]
    rw [e1, e2, e3]
    by_cases h1 : m < k
    · rw [if_pos h1, if_pos h1, if_pos h1, List.getElem?_append_left (by rw [ht]; omega), List.getElem?_take_of_lt (by omega), mcells_get (by omega) hj]
    · rw [if_neg h1, if_neg h1, if_neg h1, List.getElem?_append_right (by rw [ht]; omega), ht]
      by_cases h2 : m = k
      · subst h2
        rw [if_pos rfl, if_pos rfl, if_pos rfl, Nat.add_sub_cancel_left]
        have : j = 0 ∨ j = 1 ∨ j = 2 := by omega
        rcases this with rfl | rfl | rfl <;> rfl
      · rw [if_neg h2, if_neg h2, if_neg h2]
        obtain ⟨m', rfl⟩ : ∃ m', m = m' + 1 := ⟨m - 1, by omega⟩
        rw [Nat.add_sub_cancel, List.getElem?_append_right (by simp only [List.length_cons, List.length_nil]; omega), List.getElem?_drop]
        simp only [List.length_cons, List.length_nil]
        rw [show k * 3 + ((m' + 1) * 3 + j - k * 3 - (0 + 1 + 1 + 1)) = m' * 3 + j by omega, mcells_get (by omega) hj]
  · rw [List.getElem?_eq_none (by rw [mcells_len]; omega), List.getElem?_eq_none]
    simp only [List.length_append, List.length_take, List.length_drop, List.length_cons, List.length_nil, hl]
    omega
theorem ins_row {s : Vs} {t loc k : Nat} {val : Int} (hll : s.list.length = 3) (hl : loc < 3) (l : Nat) : row5 (ins5 s t loc k val) l = if loc = l then ((row5 s loc).map (bumpM loc k)).take k ++ [⟨val, false, (bump loc k (vw s t)).set loc (k : Int)⟩] ++ ((row5 s loc).map (bumpM loc k)).drop k else (row5 s l).map (bumpM loc k) := by
  unfold ins5
  have e0 : row5 ⟨s.st, s.view, s.list.map (List.map (bumpM loc k))⟩ l = (row5 s l).map (bumpM loc k) := by
    unfold row5
    rw [List.getD_eq_getElem?_getD, List.getD_eq_getElem?_getD]
    dsimp only
    rw [List.getElem?_map]
    cases s.list[l]? <;> rfl
  rw [row5_set (s := ⟨s.st, s.view, s.list.map (List.map (bumpM loc k))⟩) (l := loc) (c := l) (st := s.st) (by rw [List.length_map, hll]; exact hl), e0]
theorem ins_vw {s : Vs} {t loc k : Nat} {val : Int} {u : Nat} (hu : u < s.view.length) (ht : t < s.view.length) : vw (ins5 s t loc k val) u = if u = t then (bump loc k (vw s t)).set loc (k : Int) else bump loc k (vw s u) := by
  unfold vw ins5
  dsimp only
  rw [List.getD_eq_getElem?_getD, List.getElem?_set]
  by_cases e : t = u
  · subst e
    rw [if_pos rfl, if_pos (by rw [List.length_map]; exact ht), if_pos rfl]
    rfl
  · rw [if_neg e, if_neg (fun e' => e e'.symm), List.getElem?_map, List.getElem?_eq_getElem hu, List.getD_eq_getElem?_getD, List.getElem?_eq_getElem hu]
    rfl
/-- What the rows hold after a write has been put in. -/
theorem ins_ct {s : Vs} {t loc k : Nat} {val : Int} (hll : s.list.length = 3) (hl : loc < 3) (hk : k ≤ (row5 s loc).length) (ht : t < s.view.length) :
    CtEq (insC (((ct s).bmp (P2 s.view.length 3 0) loc k).setX (1, t) ((bump loc k (vw s t)).set loc (k : Int))) loc k val ((bump loc k (vw s t)).set loc (k : Int))) (ct (ins5 s t loc k val)) := by
  have hb : ∀ {l j : Nat}, j < (row5 s l).length → ((row5 s l).map (bumpM loc k)).getD j msZ = bumpM loc k ((row5 s l).getD j msZ) := fun h => getD_map_bump h
  have hin : ∀ j, j < (row5 s loc).length + 1 → (row5 (ins5 s t loc k val) loc).getD j msZ = if j < k then bumpM loc k ((row5 s loc).getD j msZ) else if j = k then ⟨val, false, (bump loc k (vw s t)).set loc (k : Int)⟩ else bumpM loc k ((row5 s loc).getD (j - 1) msZ) := by
    intro j hj
    rw [ins_row hll hl, if_pos rfl]
    have htl : (((row5 s loc).map (bumpM loc k)).take k).length = k := by rw [List.length_take, List.length_map]; omega
    rw [List.getD_eq_getElem?_getD, List.append_assoc]
    by_cases h1 : j < k
    · rw [if_pos h1, List.getElem?_append_left (by omega), List.getElem?_take_of_lt h1, ← List.getD_eq_getElem?_getD, hb (by omega)]
    · rw [if_neg h1, List.getElem?_append_right (by omega), htl]
      by_cases h2 : j = k
      · subst h2
        rw [if_pos rfl, Nat.sub_self]
        rfl
      · rw [if_neg h2]
        obtain ⟨j', rfl⟩ : ∃ j', j = j' + 1 := ⟨j - 1, by omega⟩
        rw [Nat.add_sub_cancel, show j' + 1 - k = (j' - k) + 1 by omega]
        simp only [List.cons_append, List.nil_append, List.getElem?_cons_succ, List.getElem?_drop]
        rw [show k + (j' - k) = j' by omega, ← List.getD_eq_getElem?_getD, hb (by omega)]
  refine ⟨?_, ?_, fun l hl' => ?_, fun ix hx => ?_, fun l j hl' hj => ?_⟩
  · show (ins5 s t loc k val).view.length = s.view.length
    simp [ins5]
  · show (ins5 s t loc k val).list.length = s.list.length
    simp [ins5]
  · show (row5 (ins5 s t loc k val) l).length = if l = loc then (row5 s l).length + 1 else (row5 s l).length
    rw [ins_len hll hl hk]
    split <;> omega
  · obtain ⟨a, b⟩ := ix
    have hx : (a = 0 ∧ b < 2) ∨ (a = 1 ∧ b < s.view.length) ∨ (2 ≤ a ∧ a < s.list.length + 2 ∧ b < (if a - 2 = loc then (row5 s (a - 2)).length + 1 else (row5 s (a - 2)).length)) := hx
    rcases hx with ⟨rfl, hb2⟩ | ⟨rfl, hb2⟩ | ⟨h1, h2, h3⟩
    · have : b = 0 ∨ b = 1 := by omega
      rcases this with rfl | rfl
      · rw [insC_out _ _ _ _ _ (by simp), setX_ne _ _ _ (by simp), bmp_X, if_neg (by simp [P2, P1])]
        rfl
      · rw [insC_out _ _ _ _ _ (by simp), setX_ne _ _ _ (by simp), bmp_X, if_neg (by simp [P2, P1])]
        rfl
    · rw [insC_out _ _ _ _ _ (by simp)]
      show vw (ins5 s t loc k val) b = _
      rw [ins_vw hb2 ht]
      by_cases e : b = t
      · subst e
        rw [if_pos rfl, setX_get]
      · rw [if_neg e, setX_ne _ _ _ (by simpa using e), bmp_X, if_pos (show P2 s.view.length 3 0 (1, b) = true by simp [P2, P1, hb2])]
        rfl
    · obtain ⟨l, rfl⟩ : ∃ l, a = l + 2 := ⟨a - 2, by omega⟩
      rw [show l + 2 - 2 = l by omega] at h3
      have hl3 : l < 3 := by omega
      have hp : ∀ j, P2 s.view.length 3 0 (l + 2, j) = true := fun j => by simp [P2, P1]; omega
      have hX : ∀ j, (((ct s).bmp (P2 s.view.length 3 0) loc k).setX (1, t) ((bump loc k (vw s t)).set loc (k : Int))).X (l + 2, j) = bump loc k ((row5 s l).getD j msZ).view := fun j => by
        rw [setX_ne _ _ _ (by simp), bmp_X, if_pos (hp j)]
        rfl
      show ((row5 (ins5 s t loc k val) l).getD b msZ).view = _
      by_cases e : l = loc
      · subst e
        rw [if_pos rfl] at h3
        rw [insC_in, hX, hX, hin b h3]
        split
        · rfl
        · split <;> rfl
      · rw [if_neg e] at h3
        rw [insC_out _ _ _ _ _ (by simpa using e), hX, ins_row hll hl, if_neg (fun e' => e e'.symm), hb h3]
        rfl
  · have hl' : l < s.list.length := hl'
    have hj : j < (if l = loc then (row5 s l).length + 1 else (row5 s l).length) := hj
    show ((row5 (ins5 s t loc k val) l).getD j msZ).val = (if l = loc then (if j < k then ((row5 s l).getD j msZ).val else if j = k then val else ((row5 s l).getD (j - 1) msZ).val) else ((row5 s l).getD j msZ).val) ∧ ((row5 (ins5 s t loc k val) l).getD j msZ).lock = (if l = loc then (if j < k then ((row5 s l).getD j msZ).lock else if j = k then false else ((row5 s l).getD (j - 1) msZ).lock) else ((row5 s l).getD j msZ).lock)
    by_cases e : l = loc
    · subst e
      rw [if_pos rfl] at hj
      rw [if_pos rfl, if_pos rfl, hin j hj]
      split
      · exact ⟨rfl, rfl⟩
      · split <;> exact ⟨rfl, rfl⟩
    · rw [if_neg e] at hj
      rw [if_neg e, if_neg e, ins_row hll hl, if_neg (fun e' => e e'.symm), hb hj]
      exact ⟨rfl, rfl⟩
theorem OwC.congr {w : World} {base : Nat} {q : Sp} {y : Ly} {c c' : Ct} {n : Nat} (h : OwC w base q y c n) (e : CtEq c c') : OwC w base q y c' n := by
  have hn := h.nle
  refine ⟨fun ix hx => by rw [e.X ix (e.dom hx)]; exact h.int ix (e.dom hx), fun ix iy b hx hy => h.dis ix iy b (e.dom hx) (e.dom hy), h.h0, h.h1, by rw [e.nv]; exact h.vo, ?_, fun l hl => ?_, fun l l' b hl hl' => h.ldis l l' b (by rw [← e.nl]; exact hl) (by rw [← e.nl]; exact hl'), fun ix hx h1 => by rw [e.X ix (e.dom hx)]; exact h.len ix (e.dom hx) h1, by rw [e.nl]; exact hn⟩
  · rw [lcells_congr (y := y) (N := c.N) fun l hl => ⟨rfl, e.N l (by omega)⟩]
    exact h.lo
  · rw [e.nl] at hl
    rw [e.N l hl, mcells_congr (y := y) (MV := c.MV) (LK := c.LK) (l := l) fun k hk => ⟨rfl, e.M l k hl hk⟩]
    exact h.row l hl
theorem insY_out (y : Ly) (loc k : Nat) (r x : Option Addr × Nat) {ix : Ix} (h : ix.1 ≠ loc + 2) : (insY y loc k r x).I ix = y.I ix := by
  show (if ix.1 = loc + 2 then _ else y.I ix) = y.I ix
  rw [if_neg h]
/-- The row with the new write is laid into the list of rows. -/
theorem ins_fin {w : World} {base B1 B2 : Nat} {q : Sp} {y : Ly} {c : Ct} {loc k lb g' cc : Nat} {val : Int} {nw : List Int} {r : Option Addr × Nat} (h : OwC w base q y c 3) (hnl : c.nl = 3) (hl : loc < 3) (hk : k ≤ c.N loc) (hq : q.a3 = some ⟨lb, 0, none⟩) (hv : w.ownsRow B1 3 1 (.slice r.1 3 r.2) 3 (ints nw)) (hnw : nw.length = 3) (hB1 : base ≤ B1)
    (hr : w.ownsRow B2 117 3 (.slice (some ⟨g', 0, none⟩) (c.N loc + 1) cc) (c.N loc + 1) ((mcells y c.MV c.LK loc (c.N loc)).take (k * 3) ++ [.int .i64 val, .bool false, .slice r.1 3 r.2] ++ (mcells y c.MV c.LK loc (c.N loc)).drop (k * 3))) (hB2 : base ≤ B2) :
    FrC (w.setCell ⟨lb, loc, none⟩ (.slice (some ⟨g', 0, none⟩) (c.N loc + 1) cc)) base q (insC c loc k val nw) := by
  have kp := Keeps.setCell w ⟨lb, loc, none⟩ (.slice (some ⟨g', 0, none⟩) (c.N loc + 1) cc)
  have hlo := h.lo
  have hlb : blk q.a3 = some lb := by rw [hq]; rfl
  have oth : ∀ {b e size m : Nat} {a : Option Addr} {cap : Nat} {cs : List Value}, w.ownsRow b e size (.slice a m cap) m cs → e ≠ 118 → (w.setCell ⟨lb, loc, none⟩ (.slice (some ⟨g', 0, none⟩) (c.N loc + 1) cc)).ownsRow b e size (.slice a m cap) m cs := fun ho he =>
    own_keeps ho kp fun b hb e => own_apart ho hlo he b hb (by rw [hlb]; exact congrArg some (Eq.symm e))
  have hI : ∀ ix, (insC c loc k val nw).dom ix → (∃ b, base ≤ b ∧ w.ownsRow b 3 1 (.slice ((insY y loc k r (some ⟨g', 0, none⟩, cc)).I ix).1 ((insC c loc k val nw).X ix).length ((insY y loc k r (some ⟨g', 0, none⟩, cc)).I ix).2) ((insC c loc k val nw).X ix).length (ints ((insC c loc k val nw).X ix))) ∧ (1 ≤ ix.1 → ((insC c loc k val nw).X ix).length = 3) := by
    rintro ⟨a, b⟩ hx
    have hx : (a = 0 ∧ b < 2) ∨ (a = 1 ∧ b < c.nv) ∨ (2 ≤ a ∧ a < c.nl + 2 ∧ b < (if a - 2 = loc then c.N (a - 2) + 1 else c.N (a - 2))) := hx
    by_cases ha : a = loc + 2
    · subst ha
      rw [insC_in]
      have e1 : (insY y loc k r (some ⟨g', 0, none⟩, cc)).I (loc + 2, b) = if b < k then y.I (loc + 2, b) else if b = k then r else y.I (loc + 2, b - 1) := by
        show (if loc + 2 = loc + 2 then _ else _) = _
        rw [if_pos rfl]
      rw [e1]
      have hb : b < c.N loc + 1 := by
        rcases hx with ⟨h1, _⟩ | ⟨h1, _⟩ | ⟨_, _, h3⟩
        · omega
        · omega
        · rw [show loc + 2 - 2 = loc by omega, if_pos rfl] at h3
          exact h3
      by_cases h1 : b < k
      · rw [if_pos h1, if_pos h1]
        have hd : c.dom (loc + 2, b) := domM (by omega) (by omega)
        exact ⟨⟨base, Nat.le_refl _, h.int _ hd⟩, fun _ => h.len _ hd (by simp)⟩
      · rw [if_neg h1, if_neg h1]
        by_cases h2 : b = k
        · rw [if_pos h2, if_pos h2, hnw]
          exact ⟨⟨B1, hB1, hv⟩, fun _ => rfl⟩
        · rw [if_neg h2, if_neg h2]
          have hd : c.dom (loc + 2, b - 1) := domM (by omega) (by omega)
          exact ⟨⟨base, Nat.le_refl _, h.int _ hd⟩, fun _ => h.len _ hd (by simp)⟩
    · rw [insC_out _ _ _ _ _ (by simpa using ha)]
      have e1 : (insY y loc k r (some ⟨g', 0, none⟩, cc)).I (a, b) = y.I (a, b) := insY_out _ _ _ _ _ (by simpa using ha)
      rw [e1]
      have hd : c.dom (a, b) := by
        rcases hx with h1 | h1 | ⟨h1, h2, h3⟩
        · exact .inl h1
        · exact .inr (.inl h1)
        · rw [if_neg (by omega)] at h3
          exact .inr (.inr ⟨h1, h2, h3⟩)
      exact ⟨⟨base, Nat.le_refl _, h.int _ hd⟩, fun h1 => h.len _ hd h1⟩
  have hL : ∀ l, l < 3 → ∃ b, base ≤ b ∧ w.ownsRow b 117 3 (.slice ((insY y loc k r (some ⟨g', 0, none⟩, cc)).L l).1 ((insC c loc k val nw).N l) ((insY y loc k r (some ⟨g', 0, none⟩, cc)).L l).2) ((insC c loc k val nw).N l) (mcells (insY y loc k r (some ⟨g', 0, none⟩, cc)) (insC c loc k val nw).MV (insC c loc k val nw).LK l ((insC c loc k val nw).N l)) := by
    intro l hl3
    by_cases e : l = loc
    · subst e
      have eN : (insC c l k val nw).N l = c.N l + 1 := by show (if l = l then _ else _) = _; rw [if_pos rfl]
      have eL : (insY y l k r (some ⟨g', 0, none⟩, cc)).L l = (some ⟨g', 0, none⟩, cc) := by show (if l = l then _ else _) = _; rw [if_pos rfl]
      rw [eN, eL, mcells_ins y c l k val nw r _ hk]
      exact ⟨B2, hB2, hr⟩
    · have eN : (insC c loc k val nw).N l = c.N l := by show (if l = loc then _ else _) = _; rw [if_neg e]
      have eL : (insY y loc k r (some ⟨g', 0, none⟩, cc)).L l = y.L l := by show (if l = loc then _ else _) = _; rw [if_neg e]
      rw [eN, eL, mcells_congr (y := y) (MV := c.MV) (LK := c.LK) (l := l) fun j hj => ⟨insY_out _ _ _ _ _ (by simpa using e), by show (if l = loc then _ else _) = _; rw [if_neg e], by show (if l = loc then _ else _) = _; rw [if_neg e]⟩]
      exact ⟨base, Nat.le_refl _, h.row l (by omega)⟩
  refine ⟨insY y loc k r (some ⟨g', 0, none⟩, cc), ⟨fun ix hx => ?_, ?_, ?_, ?_, ?_, fun l hl' => ?_, fun ix hx h1 => (hI ix hx).2 h1⟩, fun ix b hx hb => ?_, fun b hb => (own_blk h.vo b hb).1, fun b hb => (own_blk h.lo b hb).1, fun l b hl' hb => ?_⟩
  · obtain ⟨⟨b, _, ho⟩, _⟩ := hI ix hx
    exact ⟨Rd.own (oth ho (by decide)), own_cap ho⟩
  · rw [insY_out _ _ _ _ _ (by simp)]
    exact h.h0
  · rw [insY_out _ _ _ _ _ (by simp)]
    exact h.h1
  · have e : vcells (insY y loc k r (some ⟨g', 0, none⟩, cc)) c.nv = vcells y c.nv := vcells_congr fun t ht => insY_out _ _ _ _ _ (by simp)
    show Rd _ q.a2 (vcells (insY y loc k r (some ⟨g', 0, none⟩, cc)) c.nv)
    rw [e]
    exact Rd.own (oth h.vo (by decide))
  · have e : lcells (insY y loc k r (some ⟨g', 0, none⟩, cc)) (insC c loc k val nw).N 3 = (lcells y c.N 3).set loc (.slice (some ⟨g', 0, none⟩) (c.N loc + 1) cc) := by
      apply List.ext_getElem?
      intro i
      rw [List.getElem?_set]
      by_cases hi : i < 3
      · rw [lcells_get hi]
        by_cases e : loc = i
        · subst e
          rw [if_pos rfl, if_pos (by rw [lcells_len]; exact hl)]
          show some (Value.slice (if loc = loc then ((some ⟨g', 0, none⟩ : Option Addr), cc) else y.L loc).1 (if loc = loc then c.N loc + 1 else c.N loc) (if loc = loc then ((some ⟨g', 0, none⟩ : Option Addr), cc) else y.L loc).2) = _
          rw [if_pos rfl, if_pos rfl]
        · rw [if_neg e, lcells_get hi]
          show some (Value.slice (if i = loc then ((some ⟨g', 0, none⟩ : Option Addr), cc) else y.L i).1 (if i = loc then c.N i + 1 else c.N i) (if i = loc then ((some ⟨g', 0, none⟩ : Option Addr), cc) else y.L i).2) = _
          rw [if_neg (fun e' => e e'.symm), if_neg (fun e' => e e'.symm)]
      · rw [List.getElem?_eq_none (by rw [lcells_len]; omega), List.getElem?_eq_none (by rw [lcells_len]; omega)]
        split
        · rw [if_neg (by rw [lcells_len]; omega)]
        · rfl
    show Rd _ q.a3 (lcells (insY y loc k r (some ⟨g', 0, none⟩, cc)) (insC c loc k val nw).N c.nl)
    rw [hnl, e]
    rw [hq] at hlo ⊢
    have h1 := (hlo.stored loc (.slice (some ⟨g', 0, none⟩) (c.N loc + 1) cc)).1
    exact Rd.own (by simpa using h1)
  · have hl' : l < c.nl := hl'
    obtain ⟨b, _, ho⟩ := hL l (by omega)
    exact ⟨Rd.own (oth ho (by decide)), own_cap ho⟩
  · obtain ⟨⟨b', hb', ho⟩, _⟩ := hI ix hx
    exact Nat.le_trans hb' (own_blk ho b hb).1
  · have hl' : l < c.nl := hl'
    obtain ⟨b', hb', ho⟩ := hL l (by omega)
    exact Nat.le_trans hb' (own_blk ho b hb).1
end Go.Proofs.Ythlmfjoiicnomaa
