/-
  PROVED HERE: what spec.l3Do does. CONDITIONS: as each theorem states.
-/
import Derived.Test.YtbncmeggnhggkaaSpd
import Derived.Test.YtbncmeggnhggkaaOpn
namespace Go.Proofs.Ytbncmeggnhggkaa
open Go.RowKit
set_option linter.unusedVariables false
set_option linter.unusedSimpArgs false

/-- What a state's buffers may hold. -/
structure Small (s : St) : Prop where
  n : s.buf.length ≤ 1000
  len : ∀ xs ∈ s.buf, xs.length ≤ 1000
theorem good_small {p : Prg} {s : St} (h : Good p s) (hv : Shape p) : s.pc.length ≤ 3 ∧ s.regs.length ≤ 9 ∧ s.mem.length = 3 := by
  have := hv.len
  have := h.pcl
  have := h.regl
  exact ⟨by omega, by omega, h.meml⟩

set_option maxRecDepth 100000 in
set_option maxHeartbeats 3200000 in
theorem l3Do_c (w : World) (a : Option Addr) (cap : Nat) (p : Prg) (q : Sp) (s : St) (t : Nat) (hp : RdP w a p) (h : RdS w q s) (hv : Shape p) (hg : Good p s) (hs : Small s) (hgo : goes p s t = true) :
    Calls Try.prog 35 #[.slice a p.length cap, q.v s, .int .i64 t] w fun e w' => ∃ q' : Sp, e = .returned (q'.v (do3 p s t)) ∧ Fresh w' w.heap.size q' (do3 p s t) ∧ Below w.heap.size w w' := by
  obtain ⟨z0, z1, z2⟩ := good_small hg hv
  have HCOPY := hid (fun w (h : RdS w q s) => l3Copy_c w q s h (by omega) (by omega) (by omega) hs.n hs.len)
  obtain ⟨xs, k, x, hxs, hk, hx, hiv, hnx, hk7⟩ := hg.next hv hgo
  have HRD := hid h
  have HRP := hid hp
  obtain ⟨ln, hln, hl2⟩ := valid_loc hiv
  obtain ⟨rn, hrn, hr2⟩ := valid_reg hiv
  obtain ⟨op, loc, reg, val⟩ := x
  have hln : loc = ln := hln
  have hrn : reg = rn := hrn
  subst hln
  subst hrn
  obtain ⟨a0, c0, a1, c1, a2, c2, a3, c3⟩ := q
  have hpc := hg.pcl
  have htp : t < p.length := (List.getElem?_eq_some_iff.1 hxs).1
  obtain ⟨n, hn⟩ : ∃ n, n = p.length := ⟨_, rfl⟩
  rw [← hn] at htp hpc ⊢
  have HE := hid (And.intro hn (And.intro hpc (And.intro hxs (And.intro hk (And.intro hx hnx)))))
  have HZ := hid (And.intro z0 (And.intro z1 z2))
  clear hn hpc hxs hk hx hnx z0 z1 z2
  unfold Sp.v at HCOPY ⊢
  dsimp only at HCOPY ⊢
  clear h hp
  go_enter Try.func35, Try.ntmps35
  go_wp2_with fail
  refine (HCOPY.out _ ?_).mono ?_
  · exact HRD.out.below (((Below.refl w.heap.size w).alloc (Nat.le_refl _) _).alloc (by simp) _)
  rintro e w1 ⟨q', rfl, hown, hb1⟩
  obtain ⟨g0, hg0, _, l0⟩ := own_some hown.pc (by rw [HE.out.2.1]; omega)
  obtain ⟨g1, hg1, _, l1⟩ := own_some hown.regs (by rw [hg.regl]; have := HE.out.1; omega)
  obtain ⟨g2, hg2, _, l2⟩ := own_some hown.mem (by rw [hg.meml]; omega)
  obtain ⟨e0, d0, e1, d1, e2, d2, e3, d3⟩ := q'
  have hg0 : e0 = some ⟨g0, 0, none⟩ := hg0
  have hg1 : e1 = some ⟨g1, 0, none⟩ := hg1
  have hg2 : e2 = some ⟨g2, 0, none⟩ := hg2
  subst hg0
  subst hg1
  subst hg2
  obtain ⟨w0, hw0⟩ : ∃ w0, w0 = (w.alloc (.cells #[.slice a0 s.pc.length c0, .slice a1 s.regs.length c1, .slice a2 s.mem.length c2, .slice a3 s.buf.length c3] 44)).alloc (.cells zSt 44) := ⟨_, rfl⟩
  rw [← hw0] at hown hb1
  have HOWN := hid hown
  have HB1 := hid hb1
  clear hown hb1
  go_wp2_with fail
  have hs0 : w0.heap.size = w.heap.size + 2 := by rw [hw0]; simp
  have hb0 : Below w.heap.size w w0 := by rw [hw0]; exact ((Below.refl _ _).alloc (Nat.le_refl _) _).alloc (by simp) _
  have hbox0 : w0.heap[w.heap.size]? = some (.cells #[.slice a0 s.pc.length c0, .slice a1 s.regs.length c1, .slice a2 s.mem.length c2, .slice a3 s.buf.length c3] 44 (0, 0)) := by
    rw [hw0, heap_alloc_old _ _ (by simp)]
    exact heap_alloc_new w _
  have hres0 : w0.heap[w.heap.size + 1]? = some (.cells zSt 44 (0, 0)) := by
    rw [hw0]
    have := heap_alloc_new (w.alloc (.cells #[.slice a0 s.pc.length c0, .slice a1 s.regs.length c1, .slice a2 s.mem.length c2, .slice a3 s.buf.length c3] 44)) (.cells zSt 44)
    simpa using this
  have hs1 := HB1.out.size
  have hba := (Below.refl w1.heap.size w1).alloc (Nat.le_refl _) (.cells #[.slice (some ⟨g0, 0, none⟩) s.pc.length d0, .slice (some ⟨g1, 0, none⟩) s.regs.length d1, .slice (some ⟨g2, 0, none⟩) s.mem.length d2, .slice e3 s.buf.length d3] 44)
  have D2 : DoI w w.heap.size (w.heap.size + 1) w1.heap.size w0.heap.size ⟨a0, c0, a1, c1, a2, c2, a3, c3⟩ ⟨some ⟨g0, 0, none⟩, d0, some ⟨g1, 0, none⟩, d1, some ⟨g2, 0, none⟩, d2, e3, d3⟩ s s (w1.alloc (.cells #[.slice (some ⟨g0, 0, none⟩) s.pc.length d0, .slice (some ⟨g1, 0, none⟩) s.regs.length d1, .slice (some ⟨g2, 0, none⟩) s.mem.length d2, .slice e3 s.buf.length d3] 44)) :=
    ⟨(hba.block _ (by omega)).trans ((HB1.out.block _ (by omega)).trans hbox0), (hba.block _ (by omega)).trans ((HB1.out.block _ (by omega)).trans hres0), heap_alloc_new w1 _, HOWN.out.below hba, (hb0.trans (HB1.out.mono (by omega))).trans (hba.mono (by omega)), by omega, by simp; omega⟩
  obtain ⟨w2, hw2⟩ : ∃ w2, w2 = w1.alloc (.cells #[.slice (some ⟨g0, 0, none⟩) s.pc.length d0, .slice (some ⟨g1, 0, none⟩) s.regs.length d1, .slice (some ⟨g2, 0, none⟩) s.mem.length d2, .slice e3 s.buf.length d3] 44) := ⟨_, rfl⟩
  rw [← hw2] at D2 ⊢
  have HD2 := hid D2
  have hs2 : w2.heap.size = w1.heap.size + 1 := by rw [hw2]; simp
  clear D2 hba hbox0 hres0 hb0 HOWN HB1 hw2 hw0
  -- what is read of the program and of the state
  obtain ⟨pb, po, r, rc, xs', hpa, hplt, hpx, hpc, hpr, hpl⟩ := HRP.out.at' t (by rw [← HE.out.1]; exact htp)
  obtain rfl : xs = xs' := by have := HE.out.2.2.1; rw [this] at hpx; exact Option.some.inj hpx
  subst hpa
  obtain ⟨rb, ro, x', hra, hrlt, hrx, hins⟩ := hpr.ins k (List.getElem?_eq_some_iff.1 HE.out.2.2.2.2.1).1
  obtain rfl : (⟨op, ln, rn, val⟩ : Ins) = x' := by have := HE.out.2.2.2.2.1; rw [this] at hrx; exact Option.some.inj hrx
  subst hra
  obtain ⟨sb, so, hsa, hslt, hsc⟩ := HRD.out.pc.int t (by rw [HE.out.2.1]; exact htp)
  have hsa : a0 = some ⟨sb, so, none⟩ := hsa
  subst hsa
  have hk0 : s.pc[t]'(by rw [HE.out.2.1]; exact htp) = (k : Int) := (List.getElem?_eq_some_iff.1 HE.out.2.2.2.1).2
  rw [hk0] at hsc
  have HSC := hid hsc
  obtain ⟨m, hm⟩ : ∃ m, m = xs.length := ⟨_, rfl⟩
  have hkm : k < m := by rw [hm]; exact (List.getElem?_eq_some_iff.1 HE.out.2.2.2.2.1).1
  rw [← hm] at hpc
  have htq : t < s.pc.length := by rw [HE.out.2.1]; exact htp
  obtain ⟨J, hJ⟩ : ∃ J : World → Prop, J = fun w' => Below w2.heap.size w2 w' := ⟨_, rfl⟩
  have HJ := hid (fun w' (h : Below w2.heap.size w2 w') => show J w' by rw [hJ]; exact h)
  have HC := hid (fun w' (h : J w') => show w'.cell? ⟨pb, po + t, none⟩ = some (.slice (some ⟨rb, ro, none⟩) m rc) ∧ w'.cell? ⟨sb, so + t, none⟩ = some (.int .i64 k) ∧ w'.cell? ⟨w.heap.size, 0, none⟩ = some (.slice (some ⟨sb, so, none⟩) s.pc.length c0) ∧ (w'.cell? ⟨rb, ro + k * 4, none⟩ = some (.int .i64 op) ∧ w'.cell? ⟨rb, ro + k * 4 + 1, none⟩ = some (.int .i64 ln) ∧ w'.cell? ⟨rb, ro + k * 4 + 2, none⟩ = some (.int .i64 rn) ∧ w'.cell? ⟨rb, ro + k * 4 + 3, none⟩ = some (.int .i64 val)) from by
    rw [hJ] at h
    have hb : Below w.heap.size w w' := HD2.out.below.trans (h.mono (by omega))
    refine ⟨(hb.cell (p := ⟨pb, po + t, none⟩) hplt).trans hpc, (hb.cell (p := ⟨sb, so + t, none⟩) hslt).trans hsc, ?_, hins.below hb hrlt⟩
    rw [cell_of_row w' w.heap.size 0 _ _ _ ((h.block _ (by omega)).trans HD2.out.box)]
    rfl)
  have hJ0 : J w2.drew := HJ.out _ (below_drewN 1 (Below.refl _ _))
  clear hJ hins hpr hpc hsc hk0 hpx hrx hpl hm
  refine MJ.wp_region_mix (J := J) (by kernel_rfl) (by kernel_rfl) ?_
  repeat (first | (refine MJ.wpMix_pure rfl rfl (fun K hK => ?_); go_simp; (first | refine hK _ ?_ | refine ⟨_, fun W hW => rfl, hK _ ?_⟩ | refine ⟨_, fun W hW => ⟨rfl, rfl⟩, hK _ ?_⟩); clear hK K) | (refine MJ.wpMix_held rfl rfl (by assumption) (fun K hK => ?_); go_simp; apply Exists.intro; refine And.intro (fun W hW => ?_) (hK _ ?_); (focus (have hcs := HC.out W hW; go_simp; try rfl)); clear hK K))
  have hJ1 : J ((w2.alloc (.cells #[.int .i64 0, .int .i64 0, .int .i64 0, .int .i64 0] 79)).drew) := HJ.out _ (below_drewN 1 ((Below.refl _ _).alloc (Nat.le_refl _) _))
  (with_reducible refine MJ.wpMix_make rfl rfl (fun K hK => ?_); go_simp)
  refine hK _ _ (by assumption) ?_
  clear hK K
  (with_reducible refine MJ.wpMix_act rfl rfl rfl (fun K hK => ?_); go_simp)
  refine hK _ _ ?_
  clear hK K
  refine MJ.wpMix_nil ?_
  have hb3 : Below w2.heap.size w2 (w2.alloc (.cells #[.int .i64 op, .int .i64 ln, .int .i64 rn, .int .i64 val] 79)).drew := below_drewN 1 ((Below.refl _ _).alloc (Nat.le_refl _) _)
  have hx3 : Box (w2.alloc (.cells #[.int .i64 op, .int .i64 ln, .int .i64 rn, .int .i64 val] 79)).drew w2.heap.size ⟨op, ln, rn, val⟩ := Box.new w2 ⟨op, ln, rn, val⟩ _
  obtain ⟨w3, hw3⟩ : ∃ w3, w3 = (w2.alloc (.cells #[.int .i64 op, .int .i64 ln, .int .i64 rn, .int .i64 val] 79)).drew := ⟨_, rfl⟩
  rw [← hw3] at hb3 hx3 ⊢
  have HD3 := hid (HD2.out.later hb3)
  rw [hs2] at hx3
  have hs3 : w3.heap.size = w1.heap.size + 2 := by rw [hw3]; simp; omega
  have HX3 := hid hx3
  clear hb3 hx3 hw3 HJ HC hJ0 hJ1
  -- 'out.at[t] = s.at[t] + 1'
  have c3 := HD3.out.cells
  have s3 := (HD3.out.below.cell (p := ⟨sb, so + t, none⟩) hslt).trans HSC.out
  obtain ⟨z3, o3c, o3f⟩ := own_intAt HD3.out.own.pc t htq
  dsimp only at c3
  go_wp2_with fail
  refine wp_region_mix (by kernel_rfl) (by kernel_rfl) ?_
  repeat (with_reducible refine wpMix_rd rfl rfl (fun K hK => ?_); go_simp; (try go_bits); refine hK _ ?_; clear hK K)
  (with_reducible refine wpMix_act (o := ⟨_, .store _ _ _, _, _, _, _⟩) rfl rfl (fun K hK => ?_))
  go_simp
  refine hK _ _ ?_
  clear hK K
  have HD4 := hid (DoI.drew (HD3.out.set0 rfl t ((k : Int) + 1)))
  have HX4 := hid (Box.drew (HX3.out.set (g := g0) (j := t) (v := .int .i64 ((k : Int) + 1)) (by omega)))
  obtain ⟨w4, hw4⟩ : ∃ w4, w4 = (w3.setCell ⟨g0, t, none⟩ (.int .i64 ((k : Int) + 1))).drew := ⟨_, rfl⟩
  rw [← hw4] at HD4 HX4 ⊢
  have hs4 : w4.heap.size = w1.heap.size + 2 := by rw [hw4]; simpa [World.setCell] using hs3
  clear c3 s3 o3c o3f HD3 HX3 hw4
  obtain ⟨mb, mo, hmb, hmlt, hmc⟩ := HRD.out.mem.int ln (by rw [hg.meml]; omega)
  have hmb : a2 = some ⟨mb, mo, none⟩ := hmb
  subst hmb
  have HMC := hid hmc
  have hlm : ln < s.mem.length := by rw [hg.meml]; omega
  obtain ⟨mv, hmv⟩ : ∃ mv, mv = s.mem[ln]'hlm := ⟨_, rfl⟩
  rw [← hmv] at HMC
  obtain ⟨i, hi⟩ : ∃ i, i = t * 3 + rn := ⟨_, rfl⟩
  have hn3 : n ≤ 3 := by have := hv.len; have := HE.out.1; omega
  have hir : i < s.regs.length := by rw [hg.regl, ← HE.out.1]; omega
  have HREG := hid (fun w (h1 : t ≤ 1000000) (h2 : rn ≤ 1000000) => l3Reg_c w t rn i hi h1 h2)
  have HRE := hid (fun w => l1Reads_c w ⟨op, ln, rn, val⟩)
  have HWR := hid (fun w => l1Writes_c w ⟨op, ln, rn, val⟩)
  have HVA := hid (fun w (h : RdS w ⟨some ⟨sb, so, none⟩, c0, a1, c1, some ⟨mb, mo, none⟩, c2, a3, c3⟩ s) => l3Value_c w _ s t ⟨op, ln, rn, val⟩ h hiv (by rw [hg.regl]; have := HE.out.1; omega) (by have := HZ.out.2.1; omega))
  obtain ⟨wv, hwv⟩ : ∃ wv, wv = wval s t ⟨op, ln, rn, val⟩ := ⟨_, rfl⟩
  rw [← hwv] at HVA
  have HDO := hid (show do3 p s t = { pc := s.pc.set t ((k : Int) + 1), regs := if insReads ⟨op, ln, rn, val⟩ then s.regs.set i mv else s.regs, mem := if insWrites ⟨op, ln, rn, val⟩ then s.mem.set ln wv else s.mem, buf := s.buf } from by
    unfold do3
    rw [HE.out.2.2.2.2.2, hwv, hi, hmv]
    simp [List.getD_eq_getElem?_getD, HE.out.2.2.2.1, hlm])
  clear hmc hmv hi hwv hiv hg hs hgo hv
  unfold Sp.v at HVA
  dsimp only at HVA
  (with_reducible refine wpMix_nil ?_)
  have x4 := Box.four HX4.out
  go_wp2_with fail
  refine (HRE.out _).mono ?_
  rintro e w5 ⟨rfl, hb5⟩
  have HD5 := hid (HD4.out.later hb5)
  have HX5 := hid (HX4.out.below hb5 (by omega))
  have hs5 := hb5.size
  clear HD4 HX4 hb5 x4
  by_cases hre : insReads ⟨op, ln, rn, val⟩ = true
  · rw [hre]
    rw [hre, if_pos rfl] at HDO
    have c5 := HD5.out.cells
    dsimp only at c5
    have x5 := Box.four HX5.out
    have m5 := (HD5.out.below.cell (p := ⟨mb, mo + ln, none⟩) hmlt).trans HMC.out
    obtain ⟨z5, o5c, o5f⟩ := own_intAt HD5.out.own.regs i (by have := hir; simpa using this)
    go_wp2_with fail
    refine MQ.wp_region_mix (q := [64]) (by kernel_rfl) (by kernel_rfl) ?_
    repeat (with_reducible refine MQ.wpMix_rd rfl rfl rfl (fun K hK => ?_); go_simp; (try go_bits); refine hK _ ?_; clear hK K)
    refine MQ.wpMix_call rfl 64 _ _ rfl rfl #[.int .i64 t, .int .i64 rn] (by simp [Act.eval]) (callReg _ _) _ (HREG.out _ (by omega) (by omega)) ?_
    repeat (with_reducible refine MQ.wpMix_rd rfl rfl rfl (fun K hK => ?_); go_simp; (try go_bits); refine hK _ ?_; clear hK K)
    (with_reducible refine MQ.wpMix_act (o := ⟨_, .store _ _ _, _, _, _, _⟩) rfl rfl (fun K hK => ?_))
    go_simp
    refine hK _ _ ?_
    clear hK K
    have HD6 := hid (DoI.drew (HD5.out.set1 rfl i mv))
    have HX6 := hid (Box.drew (HX5.out.set (g := g1) (j := i) (v := .int .i64 mv) (by omega)))
    obtain ⟨w6, hw6⟩ : ∃ w6, w6 = (w5.setCell ⟨g1, i, none⟩ (.int .i64 mv)).drew := ⟨_, rfl⟩
    rw [← hw6] at HD6 HX6 ⊢
    have hs6 : w5.heap.size ≤ w6.heap.size := by rw [hw6]; simp [World.setCell]
    clear c5 m5 o5c o5f HD5 HX5 hw6 x5
    (with_reducible refine MQ.wpMix_nil ?_)
    have x6 := Box.four HX6.out
    go_wp2_with fail
    refine (HWR.out _).mono ?_
    rintro e w7 ⟨rfl, hb7⟩
    have HD7 := hid (HD6.out.later hb7)
    have HX7 := hid (HX6.out.below hb7 (by omega))
    have hs7 := hb7.size
    clear HD6 HX6 hb7 x6
    by_cases hwr : insWrites ⟨op, ln, rn, val⟩ = true
    · rw [hwr]
      rw [hwr, if_pos rfl] at HDO
      have c7 := HD7.out.cells
      dsimp only at c7
      have x7 := Box.four HX7.out
      obtain ⟨z7, o7c, o7f⟩ := own_intAt HD7.out.own.mem ln (by have := hlm; simpa using this)
      obtain ⟨J, hJ⟩ : ∃ J : World → Prop, J = fun w' => Below w7.heap.size w7 w' := ⟨_, rfl⟩
      have HJ := hid (fun w' (h : Below w7.heap.size w7 w') => show J w' by rw [hJ]; exact h)
      have HC := hid (fun w' (h : J w') => show (w'.cell? ⟨w1.heap.size, 2, none⟩ = some (.slice (some ⟨g2, 0, none⟩) s.mem.length d2)) ∧ (w'.cell? ⟨w.heap.size, 0, none⟩ = some (.slice (some ⟨sb, so, none⟩) s.pc.length c0) ∧ w'.cell? ⟨w.heap.size, 1, none⟩ = some (.slice a1 s.regs.length c1) ∧ w'.cell? ⟨w.heap.size, 2, none⟩ = some (.slice (some ⟨mb, mo, none⟩) s.mem.length c2) ∧ w'.cell? ⟨w.heap.size, 3, none⟩ = some (.slice a3 s.buf.length c3)) ∧ (w'.cell? ⟨w1.heap.size + 1, 0, none⟩ = some (.int .i64 op) ∧ w'.cell? ⟨w1.heap.size + 1, 1, none⟩ = some (.int .i64 ln) ∧ w'.cell? ⟨w1.heap.size + 1, 2, none⟩ = some (.int .i64 rn) ∧ w'.cell? ⟨w1.heap.size + 1, 3, none⟩ = some (.int .i64 val)) from by
        rw [hJ] at h
        have d := (HD7.out.later h).cells
        exact ⟨d.2.2.2.1, d.1, HX7.out.below h (by omega)⟩)
      have hJ0 : J w7.drew := HJ.out _ (below_drewN 1 (Below.refl _ _))
      clear hJ c7 x7
      go_wp2_with fail
      refine MJ.wp_region_mix (J := J) (by kernel_rfl) (by kernel_rfl) ?_
      repeat (first | (refine MJ.wpMix_pure rfl rfl (fun K hK => ?_); go_simp; (first | refine hK _ ?_ | refine ⟨_, fun W hW => rfl, hK _ ?_⟩ | refine ⟨_, fun W hW => ⟨rfl, rfl⟩, hK _ ?_⟩); clear hK K) | (refine MJ.wpMix_held rfl rfl (by assumption) (fun K hK => ?_); go_simp; apply Exists.intro; refine And.intro (fun W hW => ?_) (hK _ ?_); (focus (have hcs := HC.out W hW; go_simp; try rfl)); clear hK K))
      (with_reducible refine MJ.wpMix_make rfl rfl (fun K hK => ?_); go_simp)
      refine (HVA.out _ ?_).mono ?_
      · exact (HRD.out.below HD7.out.below).below (below_drewN 1 (Below.refl _ _))
      rintro e w8 ⟨rfl, hb8⟩
      have hJ8 : J w8 := HJ.out _ (below_drewN 1 (Below.refl _ _) |>.trans hb8)
      have HD8 := hid (HD7.out.drew.later hb8)
      have o8c := (hb8.cell (p := ⟨g2, ln, none⟩) (by show g2 < w7.heap.size; omega)).trans o7c
      have o8f : w8.frozen? ⟨g2, ln, none⟩ = false := HD8.out.own.mem.frozenAt ln
      clear o7c o7f hb8 hJ0
      refine hK _ _ hJ8 ?_
      clear hK K
      repeat (first | (refine MJ.wpMix_pure rfl rfl (fun K hK => ?_); go_simp; (first | refine hK _ ?_ | refine ⟨_, fun W hW => rfl, hK _ ?_⟩ | refine ⟨_, fun W hW => ⟨rfl, rfl⟩, hK _ ?_⟩); clear hK K) | (refine MJ.wpMix_held rfl rfl (by assumption) (fun K hK => ?_); go_simp; apply Exists.intro; refine And.intro (fun W hW => ?_) (hK _ ?_); (focus (have hcs := HC.out W hW; go_simp; try rfl)); clear hK K))
      (with_reducible refine MJ.wpMix_act rfl rfl rfl (fun K hK => ?_); go_simp)
      refine hK _ _ ?_
      clear hK K
      refine MJ.wpMix_nil ?_
      have HD9 := hid (HD8.out.set2 rfl ln wv)
      obtain ⟨w9, hw9⟩ : ∃ w9, w9 = w8.setCell ⟨g2, ln, none⟩ (.int .i64 wv) := ⟨_, rfl⟩
      rw [← hw9] at HD9 ⊢
      clear o8c o8f HD8 HX7 HJ HC hJ8 hw9
      go_wp2_with (first | (refine wpList_load_row rfl 44 (.tmp 7) rfl w1.heap.size rfl 44 _ (0, 0) _ HD9.out.cur Try.underlying44 rfl (by kernel_rfl) ?_) | (refine wpList_store_row rfl 44 (.tmp 6) (.tmp 58) rfl (w.heap.size + 1) _ rfl rfl 44 zSt HD9.out.res (by kernel_rfl) rfl (DoI.one _ _) ?_))
      have hD := HD9.out.done (by omega) (by omega)
      rw [HDO.out]
      refine bodyPost_ret (results_cell_row rfl _ _ (w.heap.size + 1) 44 _ (0, 0) _ rfl (setRow_heap _ _ _ _ _ _ HD9.out.res) Try.underlying44 rfl (by kernel_rfl)) rfl ⟨_, ?_, hD⟩
      simp
    · have hwr : insWrites ⟨op, ln, rn, val⟩ = false := by simpa using hwr
      rw [hwr]
      rw [hwr, if_neg (by decide)] at HDO
      have HD9 := HD7
      obtain ⟨w9, hw9⟩ : ∃ w9, w9 = w7 := ⟨_, rfl⟩
      rw [← hw9] at HD9 ⊢
      clear HD7 HX7 hw9
      go_wp2_with (first | (refine wpList_load_row rfl 44 (.tmp 7) rfl w1.heap.size rfl 44 _ (0, 0) _ HD9.out.cur Try.underlying44 rfl (by kernel_rfl) ?_) | (refine wpList_store_row rfl 44 (.tmp 6) (.tmp 58) rfl (w.heap.size + 1) _ rfl rfl 44 zSt HD9.out.res (by kernel_rfl) rfl (DoI.one _ _) ?_))
      have hD := HD9.out.done (by omega) (by omega)
      rw [HDO.out]
      refine bodyPost_ret (results_cell_row rfl _ _ (w.heap.size + 1) 44 _ (0, 0) _ rfl (setRow_heap _ _ _ _ _ _ HD9.out.res) Try.underlying44 rfl (by kernel_rfl)) rfl ⟨_, ?_, hD⟩
      simp
  · have hre : insReads ⟨op, ln, rn, val⟩ = false := by simpa using hre
    rw [hre]
    rw [hre, if_neg (by decide)] at HDO
    have x6 := Box.four HX5.out
    go_wp2_with fail
    refine (HWR.out _).mono ?_
    rintro e w7 ⟨rfl, hb7⟩
    have HD7 := hid (HD5.out.later hb7)
    have HX7 := hid (HX5.out.below hb7 (by omega))
    have hs7 := hb7.size
    clear HD5 HX5 hb7 x6
    by_cases hwr : insWrites ⟨op, ln, rn, val⟩ = true
    · rw [hwr]
      rw [hwr, if_pos rfl] at HDO
      have c7 := HD7.out.cells
      dsimp only at c7
      have x7 := Box.four HX7.out
      obtain ⟨z7, o7c, o7f⟩ := own_intAt HD7.out.own.mem ln (by have := hlm; simpa using this)
      obtain ⟨J, hJ⟩ : ∃ J : World → Prop, J = fun w' => Below w7.heap.size w7 w' := ⟨_, rfl⟩
      have HJ := hid (fun w' (h : Below w7.heap.size w7 w') => show J w' by rw [hJ]; exact h)
      have HC := hid (fun w' (h : J w') => show (w'.cell? ⟨w1.heap.size, 2, none⟩ = some (.slice (some ⟨g2, 0, none⟩) s.mem.length d2)) ∧ (w'.cell? ⟨w.heap.size, 0, none⟩ = some (.slice (some ⟨sb, so, none⟩) s.pc.length c0) ∧ w'.cell? ⟨w.heap.size, 1, none⟩ = some (.slice a1 s.regs.length c1) ∧ w'.cell? ⟨w.heap.size, 2, none⟩ = some (.slice (some ⟨mb, mo, none⟩) s.mem.length c2) ∧ w'.cell? ⟨w.heap.size, 3, none⟩ = some (.slice a3 s.buf.length c3)) ∧ (w'.cell? ⟨w1.heap.size + 1, 0, none⟩ = some (.int .i64 op) ∧ w'.cell? ⟨w1.heap.size + 1, 1, none⟩ = some (.int .i64 ln) ∧ w'.cell? ⟨w1.heap.size + 1, 2, none⟩ = some (.int .i64 rn) ∧ w'.cell? ⟨w1.heap.size + 1, 3, none⟩ = some (.int .i64 val)) from by
        rw [hJ] at h
        have d := (HD7.out.later h).cells
        exact ⟨d.2.2.2.1, d.1, HX7.out.below h (by omega)⟩)
      have hJ0 : J w7.drew := HJ.out _ (below_drewN 1 (Below.refl _ _))
      clear hJ c7 x7
      go_wp2_with fail
      refine MJ.wp_region_mix (J := J) (by kernel_rfl) (by kernel_rfl) ?_
      repeat (first | (refine MJ.wpMix_pure rfl rfl (fun K hK => ?_); go_simp; (first | refine hK _ ?_ | refine ⟨_, fun W hW => rfl, hK _ ?_⟩ | refine ⟨_, fun W hW => ⟨rfl, rfl⟩, hK _ ?_⟩); clear hK K) | (refine MJ.wpMix_held rfl rfl (by assumption) (fun K hK => ?_); go_simp; apply Exists.intro; refine And.intro (fun W hW => ?_) (hK _ ?_); (focus (have hcs := HC.out W hW; go_simp; try rfl)); clear hK K))
      (with_reducible refine MJ.wpMix_make rfl rfl (fun K hK => ?_); go_simp)
      refine (HVA.out _ ?_).mono ?_
      · exact (HRD.out.below HD7.out.below).below (below_drewN 1 (Below.refl _ _))
      rintro e w8 ⟨rfl, hb8⟩
      have hJ8 : J w8 := HJ.out _ (below_drewN 1 (Below.refl _ _) |>.trans hb8)
      have HD8 := hid (HD7.out.drew.later hb8)
      have o8c := (hb8.cell (p := ⟨g2, ln, none⟩) (by show g2 < w7.heap.size; omega)).trans o7c
      have o8f : w8.frozen? ⟨g2, ln, none⟩ = false := HD8.out.own.mem.frozenAt ln
      clear o7c o7f hb8 hJ0
      refine hK _ _ hJ8 ?_
      clear hK K
      repeat (first | (refine MJ.wpMix_pure rfl rfl (fun K hK => ?_); go_simp; (first | refine hK _ ?_ | refine ⟨_, fun W hW => rfl, hK _ ?_⟩ | refine ⟨_, fun W hW => ⟨rfl, rfl⟩, hK _ ?_⟩); clear hK K) | (refine MJ.wpMix_held rfl rfl (by assumption) (fun K hK => ?_); go_simp; apply Exists.intro; refine And.intro (fun W hW => ?_) (hK _ ?_); (focus (have hcs := HC.out W hW; go_simp; try rfl)); clear hK K))
      (with_reducible refine MJ.wpMix_act rfl rfl rfl (fun K hK => ?_); go_simp)
      refine hK _ _ ?_
      clear hK K
      refine MJ.wpMix_nil ?_
      have HD9 := hid (HD8.out.set2 rfl ln wv)
      obtain ⟨w9, hw9⟩ : ∃ w9, w9 = w8.setCell ⟨g2, ln, none⟩ (.int .i64 wv) := ⟨_, rfl⟩
      rw [← hw9] at HD9 ⊢
      clear o8c o8f HD8 HX7 HJ HC hJ8 hw9
      go_wp2_with (first | (refine wpList_load_row rfl 44 (.tmp 7) rfl w1.heap.size rfl 44 _ (0, 0) _ HD9.out.cur Try.underlying44 rfl (by kernel_rfl) ?_) | (refine wpList_store_row rfl 44 (.tmp 6) (.tmp 58) rfl (w.heap.size + 1) _ rfl rfl 44 zSt HD9.out.res (by kernel_rfl) rfl (DoI.one _ _) ?_))
      have hD := HD9.out.done (by omega) (by omega)
      rw [HDO.out]
      refine bodyPost_ret (results_cell_row rfl _ _ (w.heap.size + 1) 44 _ (0, 0) _ rfl (setRow_heap _ _ _ _ _ _ HD9.out.res) Try.underlying44 rfl (by kernel_rfl)) rfl ⟨_, ?_, hD⟩
      simp
    · have hwr : insWrites ⟨op, ln, rn, val⟩ = false := by simpa using hwr
      rw [hwr]
      rw [hwr, if_neg (by decide)] at HDO
      have HD9 := HD7
      obtain ⟨w9, hw9⟩ : ∃ w9, w9 = w7 := ⟨_, rfl⟩
      rw [← hw9] at HD9 ⊢
      clear HD7 HX7 hw9
      go_wp2_with (first | (refine wpList_load_row rfl 44 (.tmp 7) rfl w1.heap.size rfl 44 _ (0, 0) _ HD9.out.cur Try.underlying44 rfl (by kernel_rfl) ?_) | (refine wpList_store_row rfl 44 (.tmp 6) (.tmp 58) rfl (w.heap.size + 1) _ rfl rfl 44 zSt HD9.out.res (by kernel_rfl) rfl (DoI.one _ _) ?_))
      have hD := HD9.out.done (by omega) (by omega)
      rw [HDO.out]
      refine bodyPost_ret (results_cell_row rfl _ _ (w.heap.size + 1) 44 _ (0, 0) _ rfl (setRow_heap _ _ _ _ _ _ HD9.out.res) Try.underlying44 rfl (by kernel_rfl)) rfl ⟨_, ?_, hD⟩
      simp
end Go.Proofs.Ytbncmeggnhggkaa
