/-
  PROVED HERE: what spec.l4Do does where a thread goes on. CONDITIONS: as each theorem states.
-/
import Derived.Test.YtloghcfkjcbjlaaSqc
import Derived.Test.YtloghcfkjcbjlaaChn
import Derived.Test.YtloghcfkjcbjlaaSpe
namespace Go.Proofs.Ytloghcfkjcbjlaa
open Go.RowKit
set_option linter.unusedVariables false
set_option linter.unusedSimpArgs false

def ldR (i : Nat) (sv : Int) (m : Nat) (ρ : Nat → Value) (w : World) : Prop :=
  if m = 1 then ρ 5 = .int .i64 (i : Int) else if m = 2 then ρ 5 = .int .i64 (i : Int) ∧ ρ 11 = .int .i64 sv else True
def stR (w1 : World) (top : Nat) (a : Option Addr) (c : Nat) (r : List (Int × Int)) (ln : Nat) (wv : Int) (m : Nat) (ρ : Nat → Value) (w : World) : Prop :=
  if m = 0 then OwI w top a c (flatB r) else if m = 1 then ρ 13 = .int .i64 wv ∧ OwI w top a c (flatB r)
  else if m = 2 then (∃ H, ρ 14 = .slice (some ⟨H, 0, none⟩) 2 2 ∧ Rd w (some ⟨H, 0, none⟩) (ints [(ln : Int), wv])) ∧ OwI w top a c (flatB r)
  else ∃ a5 c5, ρ 15 = .slice a5 (flatB (r ++ [((ln : Int), wv)])).length c5 ∧ OwI w top a5 c5 (flatB (r ++ [((ln : Int), wv)])) ∧ (blk a5 = blk a ∨ ∀ x, blk a5 = some x → w1.heap.size ≤ x)

set_option maxRecDepth 100000 in
set_option maxHeartbeats 3200000 in
theorem l4DoT_c (w : World) (a : Option Addr) (cap : Nat) (p : Prg) (q : Sp) (s : St) (split : Bool) (t : Nat) (hp : RdP w a p) (h : RdS w q s) (hv : Shape p) (hg : Good4 p split s) (ht : t < p.length) (hr : ready4 p s split t = true) :
    Calls Try.prog 51 #[.slice a p.length cap, q.v s, .bool split, .int .i64 t] w fun e w' => ∃ q' : Sp, e = .returned (q'.v (do4 p s split t)) ∧ Fresh w' w.heap.size q' (do4 p s split t) ∧ Below w.heap.size w w' := by
  have hn0 : 0 < p.length := by omega
  obtain ⟨z0, z1, z2⟩ := good_small hg.toGood hv
  have hsm := good4_small hg hv
  have HCOPY := hid (fun w (h : RdS w q s) => l3Copy_c w q s h (by omega) (by omega) (by omega) hsm.n hsm.len)
  have HRD := hid h
  have HRP := hid hp
  have HGD := hid hg
  have HSH := hid hv
  obtain ⟨a0, c0, a1, c1, a2, c2, a3, c3⟩ := q
  obtain ⟨n, hn⟩ : ∃ n, n = p.length := ⟨_, rfl⟩
  have hpc : s.pc.length = n := by rw [hn]; exact hg.pcl
  have HE := hid (And.intro hn hpc)
  have hgo : goes p s t = true := by unfold ready4 at hr; simp only [Bool.and_eq_true] at hr; exact hr.1
  obtain ⟨xs, k, x, hxs, hk, hx, hiv, hnx, hk7⟩ := hg.toGood.next hv hgo
  obtain ⟨ln, hln, hl2⟩ := valid_loc hiv
  obtain ⟨rn, hrn, hr2⟩ := valid_reg hiv
  have hop := valid_op hiv
  have HIV := hid hiv
  obtain ⟨op, loc, reg, val⟩ := x
  have hln : loc = ln := hln
  have hrn : reg = rn := hrn
  subst hln
  subst hrn
  have hop1 : 1 ≤ op := hop.1
  have hop5 : op ≤ 5 := hop.2
  have HX := hid (And.intro hxs (And.intro hk (And.intro hx hnx)))
  have hlen := hv.len
  have hpls : place t ln split < s.buf.length := by rw [hg.bufl]; exact place_lt ht hl2
  have hbl9 := hg.blen hv
  have hrow7 := hg.rlen hv (row4_get hpls)
  have HW := hid (fun (h : op = 4 ∨ op = 5) => show do4 p s split t = do3 p s t from by
    unfold do4
    rw [if_pos ht, hnx, if_pos (by rcases h with h | h <;> simp [waits4, h])])
  have hwx : ¬ (op = 4 ∨ op = 5) → waits4 ⟨op, ln, rn, val⟩ = false := fun h => by simp only [waits4, Bool.or_eq_false_iff, beq_eq_false_iff_ne]; exact ⟨fun e => h (.inl e), fun e => h (.inr e)⟩
  have HLD := hid (fun (h : op = 1) => show do4 p s split t = { pc := s.pc.set t ((k : Int) + 1), regs := s.regs.set (t * 3 + rn) (seen4 s t ln split), mem := s.mem, buf := s.buf } from by
    unfold do4
    rw [if_pos ht, hnx, if_neg (by rw [hwx (by omega)]; decide), if_pos h]
    simp [List.getD_eq_getElem?_getD, hk])
  have HST := hid (fun (h : ¬ (op = 4 ∨ op = 5)) (h1 : op ≠ 1) => show do4 p s split t = { pc := s.pc.set t ((k : Int) + 1), regs := s.regs, mem := s.mem, buf := s.buf.set (place t ln split) (row4 s (place t ln split) ++ [((ln : Int), wval s t ⟨op, ln, rn, val⟩)]) } from by
    unfold do4
    rw [if_pos ht, hnx, if_neg (by rw [hwx h]; decide), if_neg h1]
    simp [List.getD_eq_getElem?_getD, hk])
  have HDO3 := hid (fun w hp (h : RdS w ⟨a0, c0, a1, c1, a2, c2, a3, c3⟩ s) => l3Do_c w a cap p ⟨a0, c0, a1, c1, a2, c2, a3, c3⟩ s t hp h hv hg.toGood hsm hgo)
  have HREG0 := hid (fun w => l3Reg_c w t rn _ rfl (by omega) (by omega))
  have HSEEN0 := hid (fun w h => l4Seen_c w ⟨a0, c0, a1, c1, a2, c2, a3, c3⟩ s t ln split h hg.meml hl2 (by omega) hpls (by omega) (by omega))
  have HVAL0 := hid (fun w h => l3Value_c w ⟨a0, c0, a1, c1, a2, c2, a3, c3⟩ s t ⟨op, ln, rn, val⟩ h hiv (by rw [hg.regl]; omega) (by omega))
  have HPL0 := hid (fun w => l4Place_c w t ln _ split rfl (by omega) (by omega))
  have hreg : t * 3 + rn < s.regs.length := by rw [hg.regl]; omega
  have htn : t < n := by rw [hn]; exact ht
  have d2 : ¬ ((n : Int) ≤ (t : Int)) := by omega
  rw [← hn] at HDO3
  have HZZ := hid (And.intro z0 (And.intro z1 z2))
  clear hxs hk hx hnx hiv hop hgo hr ht hwx hg hv
  rw [← hn] at hn0 ⊢
  have HZ := hid (And.intro z0 (And.intro z1 z2))
  clear hn hpc z0 z1 z2 hsm
  unfold Sp.v at HCOPY ⊢
  dsimp only at HCOPY ⊢
  clear h hp
  unfold Sp.v at HSEEN0 HVAL0 HDO3
  dsimp only at HSEEN0 HVAL0 HDO3
  go_enter Try.func51, Try.ntmps51
  go_wp2_with fail
  refine (HCOPY.out _ ?_).mono ?_
  · exact HRD.out.below (((Below.refl w.heap.size w).alloc (Nat.le_refl _) _).alloc (by simp) _)
  rintro e w1 ⟨q', rfl, hown, hb1⟩
  obtain ⟨g0, hg0, _, l0⟩ := own_some hown.pc (by rw [HE.out.2]; omega)
  obtain ⟨g1, hg1, _, l1⟩ := own_some hown.regs (by rw [HGD.out.regl]; have := HE.out.1; omega)
  obtain ⟨g2, hg2, _, l2⟩ := own_some hown.mem (by rw [HGD.out.meml]; omega)
  obtain ⟨e0, d0, e1, d1, e2, d2, e3, d3⟩ := q'
  have hg0 : e0 = some ⟨g0, 0, none⟩ := hg0
  have hg1 : e1 = some ⟨g1, 0, none⟩ := hg1
  have hg2 : e2 = some ⟨g2, 0, none⟩ := hg2
  subst hg0
  subst hg1
  subst hg2
  obtain ⟨w0, hw0⟩ : ∃ w0, w0 = (w.alloc (.cells #[.slice a0 s.pc.length c0, .slice a1 s.regs.length c1, .slice a2 s.mem.length c2, .slice a3 s.buf.length c3] 53)).alloc (.cells zSt 53) := ⟨_, rfl⟩
  rw [← hw0] at hown hb1
  have HOWN := hid hown
  have HB1 := hid hb1
  clear hown hb1
  go_wp2_with fail
  have hs0 : w0.heap.size = w.heap.size + 2 := by rw [hw0]; simp
  have hb0 : Below w.heap.size w w0 := by rw [hw0]; exact ((Below.refl _ _).alloc (Nat.le_refl _) _).alloc (by simp) _
  have hbox0 : w0.heap[w.heap.size]? = some (.cells #[.slice a0 s.pc.length c0, .slice a1 s.regs.length c1, .slice a2 s.mem.length c2, .slice a3 s.buf.length c3] 53 (0, 0)) := by
    rw [hw0, heap_alloc_old _ _ (by simp)]
    exact heap_alloc_new w _
  have hres0 : w0.heap[w.heap.size + 1]? = some (.cells zSt 53 (0, 0)) := by
    rw [hw0]
    have := heap_alloc_new (w.alloc (.cells #[.slice a0 s.pc.length c0, .slice a1 s.regs.length c1, .slice a2 s.mem.length c2, .slice a3 s.buf.length c3] 53)) (.cells zSt 53)
    simpa using this
  have hs1 := HB1.out.size
  have hba := (Below.refl w1.heap.size w1).alloc (Nat.le_refl _) (.cells #[.slice (some ⟨g0, 0, none⟩) s.pc.length d0, .slice (some ⟨g1, 0, none⟩) s.regs.length d1, .slice (some ⟨g2, 0, none⟩) s.mem.length d2, .slice e3 s.buf.length d3] 53)
  have D2 : DoI w w.heap.size (w.heap.size + 1) w1.heap.size w0.heap.size ⟨a0, c0, a1, c1, a2, c2, a3, c3⟩ ⟨some ⟨g0, 0, none⟩, d0, some ⟨g1, 0, none⟩, d1, some ⟨g2, 0, none⟩, d2, e3, d3⟩ s s (w1.alloc (.cells #[.slice (some ⟨g0, 0, none⟩) s.pc.length d0, .slice (some ⟨g1, 0, none⟩) s.regs.length d1, .slice (some ⟨g2, 0, none⟩) s.mem.length d2, .slice e3 s.buf.length d3] 53)) :=
    ⟨(hba.block _ (by omega)).trans ((HB1.out.block _ (by omega)).trans hbox0), (hba.block _ (by omega)).trans ((HB1.out.block _ (by omega)).trans hres0), heap_alloc_new w1 _, HOWN.out.below hba, (hb0.trans (HB1.out.mono (by omega))).trans (hba.mono (by omega)), by omega, by simp; omega⟩
  obtain ⟨w2, hw2⟩ : ∃ w2, w2 = w1.alloc (.cells #[.slice (some ⟨g0, 0, none⟩) s.pc.length d0, .slice (some ⟨g1, 0, none⟩) s.regs.length d1, .slice (some ⟨g2, 0, none⟩) s.mem.length d2, .slice e3 s.buf.length d3] 53) := ⟨_, rfl⟩
  rw [← hw2] at D2 ⊢
  have HD2 := hid D2
  have hs2 : w2.heap.size = w1.heap.size + 1 := by rw [hw2]; simp
  clear D2 hba hbox0 hres0 hb0 HOWN HB1 hw2 hw0
  -- what is read of the program and of the state
  obtain ⟨pb, po, r, rc, xs', hpa, hplt, hpx, hpc, hpr, hpl⟩ := HRP.out.at' t (by rw [← HE.out.1]; exact htn)
  obtain rfl : xs = xs' := by have := HX.out.1; rw [this] at hpx; exact Option.some.inj hpx
  subst hpa
  obtain ⟨rb, ro, x', hra, hrlt, hrx, hins⟩ := hpr.ins k (List.getElem?_eq_some_iff.1 HX.out.2.2.1).1
  obtain rfl : (⟨op, ln, rn, val⟩ : Ins) = x' := by have := HX.out.2.2.1; rw [this] at hrx; exact Option.some.inj hrx
  subst hra
  obtain ⟨sb, so, hsa, hslt, hsc⟩ := HRD.out.pc.int t (by rw [HE.out.2]; exact htn)
  have hsa : a0 = some ⟨sb, so, none⟩ := hsa
  subst hsa
  have hk0 : s.pc[t]'(by rw [HE.out.2]; exact htn) = (k : Int) := (List.getElem?_eq_some_iff.1 HX.out.2.1).2
  rw [hk0] at hsc
  have HSC := hid hsc
  obtain ⟨m, hm⟩ : ∃ m, m = xs.length := ⟨_, rfl⟩
  have hkm : k < m := by rw [hm]; exact (List.getElem?_eq_some_iff.1 HX.out.2.2.1).1
  rw [← hm] at hpc
  have htq : t < s.pc.length := by rw [HE.out.2]; exact htn
  obtain ⟨J, hJ⟩ : ∃ J : World → Prop, J = fun w' => Below w2.heap.size w2 w' := ⟨_, rfl⟩
  have HJ := hid (fun w' (h : Below w2.heap.size w2 w') => show J w' by rw [hJ]; exact h)
  have HC := hid (fun w' (h : J w') => show w'.cell? ⟨pb, po + t, none⟩ = some (.slice (some ⟨rb, ro, none⟩) m rc) ∧ w'.cell? ⟨sb, so + t, none⟩ = some (.int .i64 k) ∧ w'.cell? ⟨w.heap.size, 0, none⟩ = some (.slice (some ⟨sb, so, none⟩) s.pc.length c0) ∧ (w'.cell? ⟨rb, ro + k * 4, none⟩ = some (.int .i64 op) ∧ w'.cell? ⟨rb, ro + k * 4 + 1, none⟩ = some (.int .i64 ln) ∧ w'.cell? ⟨rb, ro + k * 4 + 2, none⟩ = some (.int .i64 rn) ∧ w'.cell? ⟨rb, ro + k * 4 + 3, none⟩ = some (.int .i64 val)) from by
    rw [hJ] at h
    have hb : Below w.heap.size w w' := HD2.out.below.trans (h.mono (by omega))
    refine ⟨(hb.cell (p := ⟨pb, po + t, none⟩) hplt).trans hpc, (hb.cell (p := ⟨sb, so + t, none⟩) hslt).trans hsc, ?_, hins.below hb hrlt⟩
    rw [cell_of_row w' w.heap.size 0 _ _ _ ((h.block _ (by omega)).trans HD2.out.box)]
    rfl)
  have hJ0 : J w2.drew := HJ.out _ (below_drewN 1 (Below.refl _ _))
  clear hJ hins hpr hpc hsc hk0 hpx hrx hpl hm
  refine MJ.wp_region_mix (J := J) (by kernel_rfl) (by kernel_rfl) ?_
  repeat (first | (refine MJ.wpMix_pure rfl rfl (fun K hK => ?_); go_simp; (first | refine hK _ ?_ | refine ⟨_, fun W hW => rfl, hK _ ?_⟩ | refine ⟨_, fun W hW => ⟨rfl, rfl⟩, hK _ ?_⟩); clear hK K) | (refine MJ.wpMix_held rfl rfl (by assumption) (fun K hK => ?_); go_simp; apply Exists.intro; refine And.intro (fun W hW => ?_) (hK _ ?_); (focus (have hcs := HC.out W hW; go_simp; try rfl)); clear hK K))
  have hJ1 : J ((w2.alloc (.cells #[.int .i64 0, .int .i64 0, .int .i64 0, .int .i64 0] 59)).drew) := HJ.out _ (below_drewN 1 ((Below.refl _ _).alloc (Nat.le_refl _) _))
  (with_reducible refine MJ.wpMix_make rfl rfl (fun K hK => ?_); go_simp)
  refine hK _ _ (by assumption) ?_
  clear hK K
  (with_reducible refine MJ.wpMix_act rfl rfl rfl (fun K hK => ?_); go_simp)
  refine hK _ _ ?_
  clear hK K
  refine MJ.wpMix_nil ?_
  have hb3 : Below w2.heap.size w2 (w2.alloc (.cells #[.int .i64 op, .int .i64 ln, .int .i64 rn, .int .i64 val] 59)).drew := below_drewN 1 ((Below.refl _ _).alloc (Nat.le_refl _) _)
  have hx3 : Box (w2.alloc (.cells #[.int .i64 op, .int .i64 ln, .int .i64 rn, .int .i64 val] 59)).drew w2.heap.size ⟨op, ln, rn, val⟩ := Box.new w2 ⟨op, ln, rn, val⟩ _
  obtain ⟨w3, hw3⟩ : ∃ w3, w3 = (w2.alloc (.cells #[.int .i64 op, .int .i64 ln, .int .i64 rn, .int .i64 val] 59)).drew := ⟨_, rfl⟩
  rw [← hw3] at hb3 hx3 ⊢
  have HD3 := hid (HD2.out.later hb3)
  rw [hs2] at hx3
  have hs3 : w3.heap.size = w1.heap.size + 2 := by rw [hw3]; simp; omega
  have HX3 := hid hx3
  have HXB0 : w3.heap[w1.heap.size + 1]? = some (.cells #[.int .i64 op, .int .i64 ln, .int .i64 rn, .int .i64 val] 59 (0, 0)) := by rw [hw3, ← hs2]; exact heap_alloc_new w2 _
  clear hb3 hx3 hw3 HJ HC hJ0 hJ1
  have HXB := hid HXB0
  clear HXB0
  have x3 := Box.four HX3.out
  by_cases hw5 : op = 5
  · subst hw5
    clear HLD HST HREG0 HSEEN0 HVAL0 HPL0
    have HDO := hid (HW.out (by omega))
    go_wp2_with (first | (refine wpList_load_row rfl 53 (.tmp 5) rfl w.heap.size rfl 53 _ (0, 0) _ HD3.out.box Try.underlying53 rfl (by kernel_rfl) ?_))
    refine (HDO3.out _ (HRP.out.below HD3.out.below) (HRD.out.below HD3.out.below)).mono ?_
    rintro e w4 ⟨q4, rfl, hf4, hb4⟩
    have HD4 := hid (HD3.out.later hb4)
    have HF4 := hid hf4
    have hs4 := hb4.size
    obtain ⟨f0, m0, f1, m1, f2, m2, f3, m3⟩ := q4
    obtain ⟨s', hs'⟩ : ∃ s', s' = do3 p s t := ⟨_, rfl⟩
    rw [← hs'] at HF4 HDO ⊢
    dsimp only
    clear hf4 hb4 hs'
    go_wp2_with (first | (refine wpList_store_row rfl 53 (.tmp 8) (.tmp 70) rfl (w.heap.size + 1) _ rfl rfl 53 zSt HD4.out.res (by kernel_rfl) rfl (DoI.one ⟨f0, m0, f1, m1, f2, m2, f3, m3⟩ s') ?_))
    rw [HDO.out]
    refine bodyPost_ret (results_cell_row rfl _ _ (w.heap.size + 1) 53 _ (0, 0) _ rfl (setRow_heap _ _ _ _ _ _ HD4.out.res) Try.underlying53 rfl (by kernel_rfl)) rfl ⟨⟨f0, m0, f1, m1, f2, m2, f3, m3⟩, rfl, ?_, ?_⟩
    · exact (HF4.out.keeps (keeps_setRow _ _ _) (fun b hb e => by omega)).down (by omega)
    · exact Proofs.Ytloghcfkjcbjlaa.Below.keeps HD4.out.below (keeps_setRow w4 (w.heap.size + 1) _) HD4.out.below.size (fun x e => by omega)
  by_cases hw4 : op = 4
  · subst hw4
    clear HLD HST HREG0 HSEEN0 HVAL0 HPL0 hw5
    have HDO := hid (HW.out (by omega))
    go_wp2_with (first | (refine wpList_load_row rfl 53 (.tmp 5) rfl w.heap.size rfl 53 _ (0, 0) _ HD3.out.box Try.underlying53 rfl (by kernel_rfl) ?_))
    refine (HDO3.out _ (HRP.out.below HD3.out.below) (HRD.out.below HD3.out.below)).mono ?_
    rintro e w4 ⟨q4, rfl, hf4, hb4⟩
    have HD4 := hid (HD3.out.later hb4)
    have HF4 := hid hf4
    have hs4 := hb4.size
    obtain ⟨f0, m0, f1, m1, f2, m2, f3, m3⟩ := q4
    obtain ⟨s', hs'⟩ : ∃ s', s' = do3 p s t := ⟨_, rfl⟩
    rw [← hs'] at HF4 HDO ⊢
    dsimp only
    clear hf4 hb4 hs'
    go_wp2_with (first | (refine wpList_store_row rfl 53 (.tmp 8) (.tmp 70) rfl (w.heap.size + 1) _ rfl rfl 53 zSt HD4.out.res (by kernel_rfl) rfl (DoI.one ⟨f0, m0, f1, m1, f2, m2, f3, m3⟩ s') ?_))
    rw [HDO.out]
    refine bodyPost_ret (results_cell_row rfl _ _ (w.heap.size + 1) 53 _ (0, 0) _ rfl (setRow_heap _ _ _ _ _ _ HD4.out.res) Try.underlying53 rfl (by kernel_rfl)) rfl ⟨⟨f0, m0, f1, m1, f2, m2, f3, m3⟩, rfl, ?_, ?_⟩
    · exact (HF4.out.keeps (keeps_setRow _ _ _) (fun b hb e => by omega)).down (by omega)
    · exact Proofs.Ytloghcfkjcbjlaa.Below.keeps HD4.out.below (keeps_setRow w4 (w.heap.size + 1) _) HD4.out.below.size (fun x e => by omega)
  have n5 : (op == 5) = false := by simpa using hw5
  have n4 : (op == 4) = false := by simpa using hw4
  by_cases ho1 : op = 1
  · have HDO := hid (HLD.out ho1)
    subst ho1
    obtain ⟨i, hi⟩ : ∃ i, i = t * 3 + rn := ⟨_, rfl⟩
    have HREG := HREG0
    rw [← hi] at HREG HDO hreg
    have hir := hreg
    obtain ⟨sv, hsv⟩ : ∃ sv, sv = seen4 s t ln split := ⟨_, rfl⟩
    have HSEEN := HSEEN0
    rw [← hsv] at HSEEN HDO
    clear hi hsv hw5 hw4 HW HLD HST HREG0 HSEEN0 HVAL0 HPL0 HDO3
    have c3 := HD3.out.cells
    have s3 := (HD3.out.below.cell (p := ⟨sb, so + t, none⟩) hslt).trans HSC.out
    obtain ⟨z3, o3c, o3f⟩ := own_intAt HD3.out.own.pc t htq
    dsimp only at c3
    go_wp2_with fail
    refine wp_region_mix (by kernel_rfl) (by kernel_rfl) ?_
    repeat (with_reducible refine wpMix_rd rfl rfl (fun K hK => ?_); go_simp; (try go_bits); refine hK _ ?_; clear hK K)
    (with_reducible refine wpMix_act (o := ⟨_, .store _ _ _, _, _, _, _⟩) rfl rfl (fun K hK => ?_))
    go_simp
    refine hK _ _ ?_
    clear hK K
    have HD4 := hid (DoI.drew (HD3.out.set0 rfl t ((k : Int) + 1)))
    have HX4 := hid (Box.drew (HX3.out.set (g := g0) (j := t) (v := .int .i64 ((k : Int) + 1)) (by omega)))
    have HB4 := hid (show (w3.setCell ⟨g0, t, none⟩ (.int .i64 ((k : Int) + 1))).drew.heap[w1.heap.size + 1]? = some (.cells #[.int .i64 1, .int .i64 ln, .int .i64 rn, .int .i64 val] 59 (0, 0)) from heap_set HXB.out (by omega))
    obtain ⟨w4, hw4⟩ : ∃ w4, w4 = (w3.setCell ⟨g0, t, none⟩ (.int .i64 ((k : Int) + 1))).drew := ⟨_, rfl⟩
    rw [← hw4] at HD4 HX4 HB4 ⊢
    have hs4 : w4.heap.size = w1.heap.size + 2 := by rw [hw4]; simpa [World.setCell] using hs3
    clear c3 s3 o3c o3f HD3 HX3 hw4 x3
    (with_reducible refine wpMix_nil ?_)
    have x4 := Box.four HX4.out
    go_wp2_with fail
    obtain ⟨J, hJ⟩ : ∃ J : World → Prop, J = fun w' => Below w4.heap.size w4 w' := ⟨_, rfl⟩
    have HJ := hid (fun w' (h : (fun w' => Below w4.heap.size w4 w') w') => show J w' by rw [hJ]; exact h)
    have HJB := hid (fun w' (h : J w') => show (fun w' => Below w4.heap.size w4 w') w' by rw [hJ] at h; exact h)
    have HJI := hid (fun S ρ w' (h : ChI [5, 11] (ldR i sv) J S ρ w') => h.j)
    have HC := hid (fun w' (h : J w') => show (w'.cell? ⟨w1.heap.size, 1, none⟩ = some (.slice (some ⟨g1, 0, none⟩) s.regs.length d1)) ∧ (w'.cell? ⟨w.heap.size, 0, none⟩ = some (.slice (some ⟨sb, so, none⟩) s.pc.length c0) ∧ w'.cell? ⟨w.heap.size, 1, none⟩ = some (.slice a1 s.regs.length c1) ∧ w'.cell? ⟨w.heap.size, 2, none⟩ = some (.slice a2 s.mem.length c2) ∧ w'.cell? ⟨w.heap.size, 3, none⟩ = some (.slice a3 s.buf.length c3)) ∧ (w'.cell? ⟨w1.heap.size + 1, 0, none⟩ = some (.int .i64 1) ∧ w'.cell? ⟨w1.heap.size + 1, 1, none⟩ = some (.int .i64 ln) ∧ w'.cell? ⟨w1.heap.size + 1, 2, none⟩ = some (.int .i64 rn) ∧ w'.cell? ⟨w1.heap.size + 1, 3, none⟩ = some (.int .i64 val)) from by
      have h := HJB.out w' h
      have d := (HD4.out.later h).cells
      exact ⟨d.2.2.1, d.1, HX4.out.below h (by omega)⟩)
    have hJ0 : J w4.drew := HJ.out _ (below_drewN 1 (Below.refl _ _))
    clear hJ x4
    refine FR.wp_region_free 12 (ChI [5, 11] (ldR i sv) J) (by kernel_rfl) (by kernel_rfl) (by kernel_rfl) (fun _ => undef) (ChI.start hJ0 trivial) fun V => ?_
    (refine FR.frGo_pure _ rfl (fun K hK => ?_); go_simp; (first | refine hK _ ?_ | refine ⟨_, fun W hW => rfl, hK _ ?_⟩ | refine ⟨_, fun W hW => ⟨rfl, rfl⟩, hK _ ?_⟩); clear hK K)
    (refine FR.frGo_held _ rfl J (fun S ρ w' h _ => HJI.out S ρ w' h) (fun K hK => ?_); go_simp; apply Exists.intro; refine And.intro (fun W hW => ?_) (hK _ ?_); (focus (have hcs := HC.out W hW; go_simp; try rfl)); clear hK K)
    (refine FR.frGo_pure _ rfl (fun K hK => ?_); go_simp; (first | refine hK _ ?_ | refine ⟨_, fun W hW => rfl, hK _ ?_⟩ | refine ⟨_, fun W hW => ⟨rfl, rfl⟩, hK _ ?_⟩); clear hK K)
    (refine FR.frGo_pure _ rfl (fun K hK => ?_); go_simp; (first | refine hK _ ?_ | refine ⟨_, fun W hW => rfl, hK _ ?_⟩ | refine ⟨_, fun W hW => ⟨rfl, rfl⟩, hK _ ?_⟩); clear hK K)
    (refine FR.frGo_held _ rfl J (fun S ρ w' h _ => HJI.out S ρ w' h) (fun K hK => ?_); go_simp; apply Exists.intro; refine And.intro (fun W hW => ?_) (hK _ ?_); (focus (have hcs := HC.out W hW; go_simp; try rfl)); clear hK K)
    refine FR.frGo_act (k := 5) _ rfl (fun S ρ w' hI hS hp K hK => ?_) ?_
    · go_simp
      refine (HREG.out w').mono ?_
      rintro e w'' ⟨rfl, rfl⟩
      refine hK _ _ (hI.next (i := 0) (by decide) rfl hS (by simp) hI.j ?_)
      show FR.upd ρ 5 _ 5 = _
      rw [FR.upd_same]
    (refine FR.frGo_held _ rfl J (fun S ρ w' h _ => HJI.out S ρ w' h) (fun K hK => ?_); go_simp; apply Exists.intro; refine And.intro (fun W hW => ?_) (hK _ ?_); (focus (have hcs := HC.out W hW; go_simp; try rfl)); clear hK K)
    (refine FR.frGo_pure _ rfl (fun K hK => ?_); go_simp; (first | refine hK _ ?_ | refine ⟨_, fun W hW => rfl, hK _ ?_⟩ | refine ⟨_, fun W hW => ⟨rfl, rfl⟩, hK _ ?_⟩); clear hK K)
    (refine FR.frGo_pure _ rfl (fun K hK => ?_); go_simp; (first | refine hK _ ?_ | refine ⟨_, fun W hW => rfl, hK _ ?_⟩ | refine ⟨_, fun W hW => ⟨rfl, rfl⟩, hK _ ?_⟩); clear hK K)
    (refine FR.frGo_held _ rfl J (fun S ρ w' h _ => HJI.out S ρ w' h) (fun K hK => ?_); go_simp; apply Exists.intro; refine And.intro (fun W hW => ?_) (hK _ ?_); (focus (have hcs := HC.out W hW; go_simp; try rfl)); clear hK K)
    (refine FR.frGo_pure _ rfl (fun K hK => ?_); go_simp; (first | refine hK _ ?_ | refine ⟨_, fun W hW => rfl, hK _ ?_⟩ | refine ⟨_, fun W hW => ⟨rfl, rfl⟩, hK _ ?_⟩); clear hK K)
    refine FR.frGo_act (k := 11) _ rfl (fun S ρ w' hI hS hp K hK => ?_) ?_
    · have hp5 := hp 5 (by kernel_rfl)
      have hb := HJB.out w' hI.j
      have q5 : ρ 5 = .int .i64 (i : Int) := hI.at (i := 1) (by decide) rfl hS (by simpa using hp5.1)
      go_simp
      refine (HSEEN.out w' (HRD.out.below (HD4.out.below.trans (hb.mono HD4.out.below.size)))).mono ?_
      rintro e w'' ⟨rfl, hb2⟩
      refine hK _ _ (hI.next (i := 1) (by decide) rfl hS (by simpa using hp5.1) (HJ.out _ (hb.trans (hb2.mono hb.size))) ?_)
      show FR.upd ρ 11 _ 5 = _ ∧ FR.upd ρ 11 _ 11 = _
      rw [FR.upd_same, FR.upd_ne _ _ (by decide)]
      exact ⟨q5, rfl⟩
    refine FR.frGo_nil _ ?_
    intro S ρ w5 hI hS
    have z5 := hS 5 (by decide) (by kernel_rfl)
    have z11 := hS 11 (by decide) (by kernel_rfl)
    obtain ⟨e5, e11⟩ : ρ 5 = .int .i64 (i : Int) ∧ ρ 11 = .int .i64 sv := hI.done (by decide) (by simp [z5.1, z11.1])
    rw [z5.2] at e5
    rw [z11.2] at e11
    rw [e5, e11]
    have HD5 := hid (HD4.out.later (HJB.out w5 hI.j))
    obtain ⟨z5', o5c, o5f⟩ := own_intAt HD5.out.own.regs i (by have := hir; simpa using this)
    clear hI hS z5 z11 e5 e11
    refine wpMix_rd rfl rfl (fun K hK => ?_)
    go_simp
    refine hK _ ?_
    clear hK K
    refine wpMix_act rfl rfl (fun K hK => ?_)
    go_simp
    refine hK _ _ ?_
    clear hK K
    have HD9 := hid (HD5.out.set1 rfl i sv)
    obtain ⟨w9, hw9⟩ : ∃ w9, w9 = w5.setCell ⟨g1, i, none⟩ (.int .i64 sv) := ⟨_, rfl⟩
    rw [← hw9] at HD9 ⊢
    clear o5c o5f hw9
    (with_reducible refine wpMix_nil ?_)
    go_wp2_with (first | (refine wpList_load_row rfl 53 (.tmp 9) rfl w1.heap.size rfl 53 _ (0, 0) _ HD9.out.cur Try.underlying53 rfl (by kernel_rfl) ?_) | (refine wpList_store_row rfl 53 (.tmp 8) (.tmp 97) rfl (w.heap.size + 1) _ rfl rfl 53 zSt HD9.out.res (by kernel_rfl) rfl (DoI.one _ _) ?_))
    have hD := HD9.out.done (by omega) (by omega)
    rw [HDO.out]
    refine bodyPost_ret (results_cell_row rfl _ _ (w.heap.size + 1) 53 _ (0, 0) _ rfl (setRow_heap _ _ _ _ _ _ HD9.out.res) Try.underlying53 rfl (by kernel_rfl)) rfl ⟨_, ?_, hD⟩
    simp
  · have HDO := hid (HST.out (by omega) ho1)
    have n1 : (op == 1) = false := by simpa using ho1
    obtain ⟨pl, hpl0⟩ : ∃ pl, pl = place t ln split := ⟨_, rfl⟩
    have HPL := HPL0
    rw [← hpl0] at HPL HDO hpls hrow7
    have HROW := hid (row4_get hpls)
    obtain ⟨wv, hwv⟩ : ∃ wv, wv = wval s t ⟨op, ln, rn, val⟩ := ⟨_, rfl⟩
    have HVAL := HVAL0
    rw [← hwv] at HVAL HDO
    obtain ⟨rl, hrl⟩ : ∃ rl, rl = (row4 s pl).length * 2 := ⟨_, rfl⟩
    have HRL := hid hrl
    have hrl7 : rl ≤ 14 := by omega
    clear hpl0 hwv hw5 hw4 HW HLD HST HREG0 HSEEN0 HVAL0 HPL0 HDO3 hrl hrow7
    have c3 := HD3.out.cells
    have s3 := (HD3.out.below.cell (p := ⟨sb, so + t, none⟩) hslt).trans HSC.out
    obtain ⟨z3, o3c, o3f⟩ := own_intAt HD3.out.own.pc t htq
    dsimp only at c3
    go_wp2_with fail
    refine wp_region_mix (by kernel_rfl) (by kernel_rfl) ?_
    repeat (with_reducible refine wpMix_rd rfl rfl (fun K hK => ?_); go_simp; (try go_bits); refine hK _ ?_; clear hK K)
    (with_reducible refine wpMix_act (o := ⟨_, .store _ _ _, _, _, _, _⟩) rfl rfl (fun K hK => ?_))
    go_simp
    refine hK _ _ ?_
    clear hK K
    have HD4 := hid (DoI.drew (HD3.out.set0 rfl t ((k : Int) + 1)))
    have HX4 := hid (Box.drew (HX3.out.set (g := g0) (j := t) (v := .int .i64 ((k : Int) + 1)) (by omega)))
    have HB4 := hid (show (w3.setCell ⟨g0, t, none⟩ (.int .i64 ((k : Int) + 1))).drew.heap[w1.heap.size + 1]? = some (.cells #[.int .i64 op, .int .i64 ln, .int .i64 rn, .int .i64 val] 59 (0, 0)) from heap_set HXB.out (by omega))
    obtain ⟨w4, hw4⟩ : ∃ w4, w4 = (w3.setCell ⟨g0, t, none⟩ (.int .i64 ((k : Int) + 1))).drew := ⟨_, rfl⟩
    rw [← hw4] at HD4 HX4 HB4 ⊢
    have hs4 : w4.heap.size = w1.heap.size + 2 := by rw [hw4]; simpa [World.setCell] using hs3
    clear c3 s3 o3c o3f HD3 HX3 hw4 x3
    (with_reducible refine wpMix_nil ?_)
    have x4 := Box.four HX4.out
    obtain ⟨top, gb, a', c', t1, t2, hq3, hgb, hcb, hob, hty, hput⟩ := HD4.out.row HROW.out
    have hq3 : e3 = some ⟨gb, 0, none⟩ := hq3
    subst hq3
    have HPUT := hid hput
    have HOB := hid hob
    have HTY := hid hty
    have HCB := hid hcb
    clear hput hob hty hcb
    go_wp2_with fail
    refine (HPL.out _).mono ?_
    rintro e w5 ⟨rfl, rfl⟩
    go_wp2_with fail
    obtain ⟨J, hJ⟩ : ∃ J : World → Prop, J = fun w' => Keeps (fun k => blk a' = some k) w5 w' := ⟨_, rfl⟩
    have HJ := hid (fun w' (h : (fun w' => Keeps (fun k => blk a' = some k) w5 w') w') => show J w' by rw [hJ]; exact h)
    have HJB := hid (fun w' (h : J w') => show (fun w' => Keeps (fun k => blk a' = some k) w5 w') w' by rw [hJ] at h; exact h)
    have HJI := hid (fun S ρ w' (h : ChI [13, 14, 15] (stR w5 top a' c' (row4 s pl) ln wv) J S ρ w') => h.j)
    have HBW := hid (fun w' (h : Keeps (fun k => blk a' = some k) w5 w') => show Below w.heap.size w w' from Proofs.Ytloghcfkjcbjlaa.Below.keeps HD4.out.below h HD4.out.below.size (fun x e => by have := (own_blk HOB.out x e).1; omega))
    have HFL := hid (show (flatB (row4 s pl)).length = rl by rw [length_flatB, ← HRL.out])
    have HFL2 := hid (show (flatB (row4 s pl ++ [((ln : Int), wv)])).length = rl + 2 by rw [flatB_append, List.length_append, HFL.out]; rfl)
    have HFE := hid (show ints (flatB (row4 s pl ++ [((ln : Int), wv)])) = ints (flatB (row4 s pl)) ++ ints [(ln : Int), wv] by rw [flatB_append]; simp [flatB])
    have HC := hid (fun w' (h : J w') => show (w'.cell? ⟨w1.heap.size, 3, none⟩ = some (.slice (some ⟨gb, 0, none⟩) s.buf.length d3) ∧ w'.cell? ⟨gb, pl, none⟩ = some (.slice a' rl c')) ∧ (w'.cell? ⟨w.heap.size, 0, none⟩ = some (.slice (some ⟨sb, so, none⟩) s.pc.length c0) ∧ w'.cell? ⟨w.heap.size, 1, none⟩ = some (.slice a1 s.regs.length c1) ∧ w'.cell? ⟨w.heap.size, 2, none⟩ = some (.slice a2 s.mem.length c2) ∧ w'.cell? ⟨w.heap.size, 3, none⟩ = some (.slice a3 s.buf.length c3)) ∧ (w'.cell? ⟨w1.heap.size + 1, 0, none⟩ = some (.int .i64 op) ∧ w'.cell? ⟨w1.heap.size + 1, 1, none⟩ = some (.int .i64 ln) ∧ w'.cell? ⟨w1.heap.size + 1, 2, none⟩ = some (.int .i64 rn) ∧ w'.cell? ⟨w1.heap.size + 1, 3, none⟩ = some (.int .i64 val)) from by
      have h := HJB.out w' h
      have lt : ∀ {k : Nat} {o : Array Value} {ty : TypeId}, ty ≠ 3 → w5.heap[k]? = some (.cells o ty (0, 0)) → w'.heap[k]? = some (.cells o ty (0, 0)) := fun {k o ty} hne hk => by
        rw [h.block k (Array.getElem?_eq_some_iff.1 hk).1 (fun e => by
          obtain ⟨_, _, arr, f, hx⟩ := HTY.out k e
          rw [hk] at hx
          simp only [Option.some.injEq, Obj.cells.injEq] at hx
          exact hne hx.2.1)]
        exact hk
      have bx := fun (j : Nat) => cell_of_row w' w.heap.size j _ _ _ (lt (by decide) HD4.out.box)
      have cu := cell_of_row w' w1.heap.size 3 _ _ _ (lt (by decide) HD4.out.cur)
      have xx := fun (j : Nat) => cell_of_row w' (w1.heap.size + 1) j _ _ _ (lt (by decide) HB4.out)
      refine ⟨⟨cu, ?_⟩, ⟨bx 0, bx 1, bx 2, bx 3⟩, ⟨xx 0, xx 1, xx 2, xx 3⟩⟩
      exact (World.cell?_of_block (h.block gb hgb (fun e => (HTY.out gb e).1 rfl))).trans (by rw [HRL.out]; exact HCB.out))
    have hJ0 : J w5.drew := HJ.out _ (keepsDrew (Keeps.refl _ _))
    clear hJ x4
    refine FR.wp_region_free 16 (ChI [13, 14, 15] (stR w5 top a' c' (row4 s pl) ln wv) J) (by kernel_rfl) (by kernel_rfl) (by kernel_rfl) (fun _ => undef) (ChI.start hJ0 HOB.out) fun V => ?_
    (refine FR.frGo_pure _ rfl (fun K hK => ?_); go_simp; (first | refine hK _ ?_ | refine ⟨_, fun W hW => rfl, hK _ ?_⟩ | refine ⟨_, fun W hW => ⟨rfl, rfl⟩, hK _ ?_⟩); clear hK K)
    (refine FR.frGo_held _ rfl J (fun S ρ w' h _ => HJI.out S ρ w' h) (fun K hK => ?_); go_simp; apply Exists.intro; refine And.intro (fun W hW => ?_) (hK _ ?_); (focus (have hcs := HC.out W hW; go_simp; try rfl)); clear hK K)
    (refine FR.frGo_pure _ rfl (fun K hK => ?_); go_simp; (first | refine hK _ ?_ | refine ⟨_, fun W hW => rfl, hK _ ?_⟩ | refine ⟨_, fun W hW => ⟨rfl, rfl⟩, hK _ ?_⟩); clear hK K)
    (refine FR.frGo_pure _ rfl (fun K hK => ?_); go_simp; (first | refine hK _ ?_ | refine ⟨_, fun W hW => rfl, hK _ ?_⟩ | refine ⟨_, fun W hW => ⟨rfl, rfl⟩, hK _ ?_⟩); clear hK K)
    (refine FR.frGo_held _ rfl J (fun S ρ w' h _ => HJI.out S ρ w' h) (fun K hK => ?_); go_simp; apply Exists.intro; refine And.intro (fun W hW => ?_) (hK _ ?_); (focus (have hcs := HC.out W hW; go_simp; try rfl)); clear hK K)
    (refine FR.frGo_pure _ rfl (fun K hK => ?_); go_simp; (first | refine hK _ ?_ | refine ⟨_, fun W hW => rfl, hK _ ?_⟩ | refine ⟨_, fun W hW => ⟨rfl, rfl⟩, hK _ ?_⟩); clear hK K)
    (refine FR.frGo_pure _ rfl (fun K hK => ?_); go_simp; (first | refine hK _ ?_ | refine ⟨_, fun W hW => rfl, hK _ ?_⟩ | refine ⟨_, fun W hW => ⟨rfl, rfl⟩, hK _ ?_⟩); clear hK K)
    (refine FR.frGo_held _ rfl J (fun S ρ w' h _ => HJI.out S ρ w' h) (fun K hK => ?_); go_simp; apply Exists.intro; refine And.intro (fun W hW => ?_) (hK _ ?_); (focus (have hcs := HC.out W hW; go_simp; try rfl)); clear hK K)
    (refine FR.frGo_pure _ rfl (fun K hK => ?_); go_simp; (first | refine hK _ ?_ | refine ⟨_, fun W hW => rfl, hK _ ?_⟩ | refine ⟨_, fun W hW => ⟨rfl, rfl⟩, hK _ ?_⟩); clear hK K)
    (refine FR.frGo_held _ rfl J (fun S ρ w' h _ => HJI.out S ρ w' h) (fun K hK => ?_); go_simp; apply Exists.intro; refine And.intro (fun W hW => ?_) (hK _ ?_); (focus (have hcs := HC.out W hW; go_simp; try rfl)); clear hK K)
    (refine FR.frGo_held _ rfl J (fun S ρ w' h _ => HJI.out S ρ w' h) (fun K hK => ?_); go_simp; apply Exists.intro; refine And.intro (fun W hW => ?_) (hK _ ?_); (focus (have hcs := HC.out W hW; go_simp; try rfl)); clear hK K)
    (refine FR.frGo_pure _ rfl (fun K hK => ?_); go_simp; (first | refine hK _ ?_ | refine ⟨_, fun W hW => rfl, hK _ ?_⟩ | refine ⟨_, fun W hW => ⟨rfl, rfl⟩, hK _ ?_⟩); clear hK K)
    (refine FR.frGo_held _ rfl J (fun S ρ w' h _ => HJI.out S ρ w' h) (fun K hK => ?_); go_simp; apply Exists.intro; refine And.intro (fun W hW => ?_) (hK _ ?_); (focus (have hcs := HC.out W hW; go_simp; try rfl)); clear hK K)
    refine FR.frGo_act (k := 13) _ rfl (fun S ρ w' hI hS hp K hK => ?_) ?_
    · have hk' := HJB.out w' hI.j
      have ho : OwI w' top a' c' (flatB (row4 s pl)) := hI.at (i := 0) (by decide) rfl hS (by simp)
      go_simp
      refine (HVAL.out w' (HRD.out.below (HBW.out w' hk'))).mono ?_
      rintro e w'' ⟨rfl, hb2⟩
      refine hK _ _ (hI.next (i := 0) (by decide) rfl hS (by simp) (HJ.out _ (hk'.trans (Keeps.of_below hb2))) ?_)
      show FR.upd ρ 13 _ 13 = _ ∧ _
      rw [FR.upd_same]
      exact ⟨rfl, own_below ho hb2⟩
    refine FR.frGo_act (k := 14) _ rfl (fun S ρ w' hI hS hp K hK => ?_) ?_
    · have hk' := HJB.out w' hI.j
      have hp13 := hp 13 (by kernel_rfl)
      obtain ⟨e13, ho⟩ : ρ 13 = .int .i64 wv ∧ OwI w' top a' c' (flatB (row4 s pl)) := hI.at (i := 1) (by decide) rfl hS (by simpa using hp13.1)
      rw [hp13.2] at e13
      rw [e13] at hK ⊢
      go_simp
      have hb2 := (Below.refl w'.heap.size w').alloc (Nat.le_refl _) (.cells #[.int .i64 (ln : Int), .int .i64 wv] 3)
      refine hK _ _ (hI.next (i := 1) (by decide) rfl hS (by simpa using hp13.1) (HJ.out _ (hk'.trans (Keeps.of_below hb2))) ?_)
      show (∃ H, FR.upd ρ 14 _ 14 = _ ∧ _) ∧ _
      rw [FR.upd_same]
      exact ⟨⟨_, rfl, rd_two w' _ _ _⟩, own_below ho hb2⟩
    refine FR.frGo_act (k := 15) _ rfl (fun S ρ w' hI hS hp K hK => ?_) ?_
    · have hk' := HJB.out w' hI.j
      have hp13 := hp 13 (by kernel_rfl)
      have hp14 := hp 14 (by kernel_rfl)
      obtain ⟨⟨H, e14, hrd⟩, ho⟩ : (∃ H, ρ 14 = .slice (some ⟨H, 0, none⟩) 2 2 ∧ Rd w' (some ⟨H, 0, none⟩) (ints [(ln : Int), wv])) ∧ OwI w' top a' c' (flatB (row4 s pl)) := hI.at (i := 2) (by decide) rfl hS (by simp [hp13.1, hp14.1])
      rw [hp14.2] at e14
      unfold OwI at ho
      rw [HFL.out] at ho
      refine oper_append_rd (.tmp 110) (.tmp 117) 24 rfl top 3 (.int .i64 0) 1 8 Try.underlying24 Try.info_int rfl (by decide) (.slice a' rl c') rl (ints (flatB (row4 s pl))) rfl ho (some ⟨H, 0, none⟩) 2 2 (ints [(ln : Int), wv]) ?_ hrd rfl (ints_one _ _) (by omega) (by decide) (by have := hk'.size; omega) ?_
      · rw [e14]; rfl
      intro a5 c5 w'' hown hg hat
      rw [ownBlock_slice] at hg hat
      refine hK _ _ (hI.next (i := 2) (by decide) rfl hS (by simp [hp13.1, hp14.1]) (HJ.out _ (hk'.trans (Keeps.of_grown hg (fun k hk => hk)))) ?_)
      show ∃ a5 c5, FR.upd ρ 15 _ 15 = _ ∧ _ ∧ _
      rw [FR.upd_same]
      refine ⟨a5, c5, by rw [HFL2.out], ?_, hat.imp id fun e x hx => ?_⟩
      · unfold OwI
        rw [HFL2.out, HFE.out]
        exact hown
      · rw [e] at hx
        have := hk'.size
        cases hx
        exact this
    refine FR.frGo_nil _ ?_
    intro S ρ w6 hI hS
    have z13 := hS 13 (by decide) (by kernel_rfl)
    have z14 := hS 14 (by decide) (by kernel_rfl)
    have z15 := hS 15 (by decide) (by kernel_rfl)
    obtain ⟨a5, c5, e15, ho5, hat5⟩ : ∃ a5 c5, ρ 15 = .slice a5 (flatB (row4 s pl ++ [((ln : Int), wv)])).length c5 ∧ OwI w6 top a5 c5 (flatB (row4 s pl ++ [((ln : Int), wv)])) ∧ (blk a5 = blk a' ∨ ∀ x, blk a5 = some x → w5.heap.size ≤ x) := hI.done (by decide) (by simp [z13.1, z14.1, z15.1])
    rw [z15.2] at e15
    rw [e15]
    have k6 := HJB.out w6 hI.j
    obtain ⟨p1, p2, p3⟩ := HPUT.out w6 (.slice a5 (flatB (row4 s pl ++ [((ln : Int), wv)])).length c5) (row4 s pl ++ [((ln : Int), wv)]) k6 ho5 (by rw [ownBlock_slice]; exact hat5)
    have HD9 := hid p3
    clear p3 ho5 hat5 k6 hI hS z13 z14 z15 e15
    refine wpMix_rd rfl rfl (fun K hK => ?_)
    go_simp
    refine hK _ ?_
    clear hK K
    refine wpMix_act rfl rfl (fun K hK => ?_)
    go_simp
    refine hK _ _ ?_
    clear hK K
    (with_reducible refine wpMix_nil ?_)
    go_wp2_with (first | (refine wpList_load_row rfl 53 (.tmp 9) rfl w1.heap.size rfl 53 _ (0, 0) _ HD9.out.cur Try.underlying53 rfl (by kernel_rfl) ?_) | (refine wpList_store_row rfl 53 (.tmp 8) (.tmp 120) rfl (w.heap.size + 1) _ rfl rfl 53 zSt HD9.out.res (by kernel_rfl) rfl (DoI.one _ _) ?_))
    have hD := HD9.out.done (by omega) (by omega)
    rw [HDO.out]
    refine bodyPost_ret (results_cell_row rfl _ _ (w.heap.size + 1) 53 _ (0, 0) _ rfl (setRow_heap _ _ _ _ _ _ HD9.out.res) Try.underlying53 rfl (by kernel_rfl)) rfl ⟨_, ?_, hD⟩
    simp
end Go.Proofs.Ytloghcfkjcbjlaa
