/-
  PROVED HERE: what spec.RunSchedule does. CONDITIONS: as each theorem states.
-/
import Derived.Test.YtbncmeggnhggkaaSpf
import Derived.Test.YtbncmeggnhggkaaRet
namespace Go.Proofs.Ytbncmeggnhggkaa
open Go.RowKit
set_option linter.unusedVariables false
set_option linter.unusedSimpArgs false

theorem small_nil {s : St} (h : s.buf = []) : Small s := ⟨by rw [h]; simp, by rw [h]; simp⟩

set_option maxRecDepth 100000 in
set_option maxHeartbeats 3200000 in
theorem rsS_c (w : World) (a : Option Addr) (cap : Nat) (p : Prg) (a' : Option Addr) (cap' : Nat) (ms : List Int) (h : RdP w a p) (h' : Rd w a' (ints ms)) (hl : sizeP p ≤ 1048576) (hl' : ms.length ≤ 1048576) :
    Calls Try.prog 11 #[.slice a p.length cap, .slice a' ms.length cap'] w (RetLB w (runSch p ms)) := by
  have HV := hid (pvS_c w a cap p h hl)
  by_cases hv : progValid p = true
  · rw [hv] at HV
    have hsh := (valid_of hv).toShape
    have HRES := hid (show runSch p ms = runRes (done3 p) out3 (seqRun p ms) by unfold runSch; rw [if_pos hv])
    have HSTART := hid (fun w => l3Start_c w a cap p 0 (by have := hsh.len; omega) (by omega))
    have HDO := hid (fun w q s t (hp : RdP w a p) (h : RdS w q s) (hg : Good p s) (hb : s.buf = []) (hgo : goes p s t = true) => l3Do_c w a cap p q s t hp h hsh hg (small_nil hb) hgo)
    have HDN := hid (fun w q s (hp : RdP w a p) (h : RdS w q s) (hg : Good p s) => l3Done_c w a cap p q s hp h hsh hg)
    have HOUT := hid (fun w q s (h : RdS w q s) (hg : Good p s) => l3Outcome_c w q s h (by have := (good_small hg hsh).2.1; omega) (by have := (good_small hg hsh).2.2; omega))
    have HRP := hid h
    have HRM := hid h'
    have HSH := hid hsh
    obtain ⟨n, hn⟩ : ∃ n, n = p.length := ⟨_, rfl⟩
    obtain ⟨l, hll⟩ : ∃ l, l = ms.length := ⟨_, rfl⟩
    have HN := hid (And.intro hn hll)
    have hn3 : n ≤ 3 := by rw [hn]; exact hsh.len
    rw [HRES.out]
    rw [← hn] at HV HSTART HDO HDN ⊢
    rw [← hll] at hl' ⊢
    clear hv hsh h h' hl hn hll HRES
    unfold Sp.v at HDO HDN HOUT HSTART
    go_enter Try.func11, Try.ntmps11
    go_wp2_with fail
    refine HV.out.mono ?_
    rintro e w1 ⟨rfl, hb1⟩
    have HB1 := hid hb1
    clear hb1
    go_wp2_with fail
    refine (HSTART.out _).mono ?_
    rintro e w2 ⟨q, rfl, hrd, hb2⟩
    go_wp2_with fail
    have hbs := HB1.out.size
    have hst : (w2.alloc (.cells #[.slice q.a0 (start3 p 0).pc.length q.c0, .slice q.a1 (start3 p 0).regs.length q.c1, .slice q.a2 (start3 p 0).mem.length q.c2, .slice q.a3 (start3 p 0).buf.length q.c3] 44)).heap[w2.heap.size]? = some (.cells (q.cs (start3 p 0)) 44 (0, 0)) := heap_alloc_new w2 _
    have hs2 := hb2.size
    have hb3 := ((HB1.out.trans (hb2.mono (by omega))).alloc (by omega) (.cells #[.slice q.a0 (start3 p 0).pc.length q.c0, .slice q.a1 (start3 p 0).regs.length q.c1, .slice q.a2 (start3 p 0).mem.length q.c2, .slice q.a3 (start3 p 0).buf.length q.c3] 44))
    have hr3 := hrd.rd.below ((Below.refl w2.heap.size w2).alloc (Nat.le_refl _) (.cells #[.slice q.a0 (start3 p 0).pc.length q.c0, .slice q.a1 (start3 p 0).regs.length q.c1, .slice q.a2 (start3 p 0).mem.length q.c2, .slice q.a3 (start3 p 0).buf.length q.c3] 44))
    obtain ⟨w3, hw3⟩ : ∃ w3, w3 = w2.alloc (.cells #[.slice q.a0 (start3 p 0).pc.length q.c0, .slice q.a1 (start3 p 0).regs.length q.c1, .slice q.a2 (start3 p 0).mem.length q.c2, .slice q.a3 (start3 p 0).buf.length q.c3] 44) := ⟨_, rfl⟩
    rw [← hw3] at hst hb3 hr3 ⊢
    have hs3 : w3.heap.size = w2.heap.size + 1 := by rw [hw3]; simp
    have HREL0 := hid (show ∃ (q : Sp) (s : St), follow (moves3 p) (fun s m => do3 p s m.toNat) (start3 p 0) (ms.take 0) = some s ∧ w3.heap[w2.heap.size]? = some (.cells (q.cs s) 44 (0, 0)) ∧ RdS w3 q s ∧ Good p s ∧ s.buf = [] from
      ⟨q, start3 p 0, by simp [follow], hst, hr3, good_start p 0, by simp [start3]⟩)
    have HB3 := hid hb3
    clear hst hrd hb2 hb3 hr3 hw3
    go_loopw [7] (fun i wr => ∃ k : Nat, k ≤ l ∧ i = .int .i64 k ∧ Hid (∃ (q : Sp) (s : St), follow (moves3 p) (fun s m => do3 p s m.toNat) (start3 p 0) (ms.take k) = some s ∧ wr.heap[w2.heap.size]? = some (.cells (q.cs s) 44 (0, 0)) ∧ RdS wr q s ∧ Good p s ∧ s.buf = []) ∧ Hid (Below w.heap.size w wr)) (fun i _ => l - (intOf i).toNat)
    case atStart => exact ⟨0, Nat.zero_le _, rfl, HREL0, HB3⟩
    case round =>
      obtain ⟨k, hk, rfl, HR, HB⟩ := hrel
      obtain ⟨⟨e0, f0, e1, f1, e2, f2, e3, f3⟩, s, hfo, hgr, hrd, hgood, hbuf⟩ := HR.out
      dsimp only [Sp.cs] at hgr
      have HFO := hid hfo
      have HGR := hid hgr
      have HRD := hid hrd
      have HGD := hid hgood
      have HBF := hid hbuf
      clear HR hfo hgr hrd hgood hbuf
      by_cases hlt : k < l
      · have hkm : k < ms.length := by rw [← HN.out.2]; exact hlt
        obtain ⟨b, off, hab, hbl, hc⟩ := HRM.out.int k hkm
        subst hab
        obtain ⟨m, hm⟩ : ∃ m, m = ms[k] := ⟨_, rfl⟩
        rw [← hm] at hc
        have HX := hid (show ms[k]? = some m by rw [hm]; exact List.getElem?_eq_getElem hkm)
        have hcm := (HB.out.cell (p := ⟨b, off + k, none⟩) hbl).trans hc
        have cs : (wr.cell? ⟨w2.heap.size, 0, none⟩ = some (.slice e0 s.pc.length f0) ∧ wr.cell? ⟨w2.heap.size, 1, none⟩ = some (.slice e1 s.regs.length f1) ∧ wr.cell? ⟨w2.heap.size, 2, none⟩ = some (.slice e2 s.mem.length f2) ∧ wr.cell? ⟨w2.heap.size, 3, none⟩ = some (.slice e3 s.buf.length f3)) := by
          have e := fun (i : Nat) => cell_of_row wr w2.heap.size i _ _ _ HGR.out
          exact ⟨e 0, e 1, e 2, e 3⟩
        clear hc hm hkm hbl
        have STOP := hid (fun (h : m ∉ moves3 p s) => show runRes (done3 p) out3 (seqRun p ms) = ([], false) by unfold seqRun; rw [follow_stop HFO.out HX.out h]; rfl)
        by_cases hneg : m < 0
        · have hst := STOP.out (fun h => by obtain ⟨t, ht, _⟩ := (mem_moves3 m).1 h; omega)
          have HST := hid hst
          clear hst STOP
          have d0 : decide (m < 0) = true := decide_eq_true hneg
          go_wp2_with fail
          go_quiet (fail)
          go_wp2
          go_ret2
          rw [HST.out]
          exact ⟨_, 0, rfl, own_lit0 wr _ _ 1 HB.out.size, below_drewN _ (HB.out.alloc HB.out.size _)⟩
        · obtain ⟨t, rfl⟩ : ∃ t : Nat, m = t := ⟨m.toNat, by omega⟩
          have d0 : decide ((t : Int) < 0) = false := decide_eq_false (by omega)
          by_cases hge : n ≤ t
          · have HST := hid (STOP.out (fun h => by obtain ⟨t', ht, h2, _⟩ := (mem_moves3 _).1 h; have := HN.out.1; omega))
            have d1 : decide ((n : Int) ≤ (t : Int)) = true := decide_eq_true (by omega)
            clear STOP
            go_wp2_with fail
            go_quiet (fail)
            go_wp2
            go_ret2
            rw [HST.out]
            exact ⟨_, 0, rfl, own_lit0 wr _ _ 1 HB.out.size, below_drewN _ (HB.out.alloc HB.out.size _)⟩
          · have d1 : decide ((n : Int) ≤ (t : Int)) = false := decide_eq_false (by omega)
            have htn : t < n := by omega
            obtain ⟨pb, po, r, rc, xs, hpa, hpl, hxs, hpc, _, _⟩ := HRP.out.at' t (by rw [← HN.out.1]; exact htn)
            subst hpa
            obtain ⟨sb, so, j, hsa, hsl, hj, hjl, hsc⟩ := HRD.out.pcAt HGD.out hxs
            have HGO := hid (goes_of hxs hj)
            have c1 := (HB.out.cell (p := ⟨pb, po + t, none⟩) hpl).trans hpc
            obtain ⟨z, hz⟩ : ∃ z, z = xs.length := ⟨_, rfl⟩
            rw [← hz] at c1 hjl HGO
            have hsa : e0 = some ⟨sb, so, none⟩ := hsa
            subst hsa
            have htq : t < s.pc.length := by rw [HGD.out.pcl, ← HN.out.1]; exact htn
            clear hpc hxs hj hz hpl hsl
            by_cases hjz : j < z
            · have d2 : ((j : Int) == (z : Int)) = false := by simp; omega
              rw [decide_eq_true hjz] at HGO
              go_wp2_with fail
              go_quiet (fail)
              have HMV := hid (show ((t : Nat) : Int) ∈ moves3 p s from (mem_moves3 _).2 ⟨t, rfl, by have := HN.out.1; omega, HGO.out⟩)
              clear STOP
              go_wp2_with fail
              refine (HDO.out _ ⟨some ⟨sb, so, none⟩, f0, e1, f1, e2, f2, e3, f3⟩ s t ?_ ?_ HGD.out HBF.out HGO.out).mono ?_
              · exact HRP.out.below (below_drewN _ HB.out)
              · exact HRD.out.below (below_drewN _ (Below.refl _ _))
              rintro e w4 ⟨q', rfl, hfr, hb4⟩
              have hg6 : w2.heap.size < wr.heap.size := (Array.getElem?_eq_some_iff.1 HGR.out).1
              have HG4 := hid ((hb4.block _ hg6).trans HGR.out)
              have hb4' : Below wr.heap.size wr w4 := (below_drewN nq (Below.refl wr.heap.size wr)).trans hb4
              have HR5 := hid (show ∃ (q : Sp) (s' : St), follow (moves3 p) (fun s m => do3 p s m.toNat) (start3 p 0) (ms.take (k + 1)) = some s' ∧ (w4.setRow w2.heap.size (q'.cs (do3 p s t))).heap[w2.heap.size]? = some (.cells (q.cs s') 44 (0, 0)) ∧ RdS (w4.setRow w2.heap.size (q'.cs (do3 p s t))) q s' ∧ Good p s' ∧ s'.buf = [] from by
                refine ⟨q', do3 p s t, follow_step HFO.out HX.out HMV.out, setRow_heap _ _ _ _ _ _ HG4.out, (hfr.keeps (keeps_setRow w4 w2.heap.size _) (fun b hb e => ?_)).rd, HGD.out.do3 HSH.out HGO.out, HBF.out⟩
                have hb : wr.heap.size ≤ b := hb
                omega)
              have HB5 := hid (show Below w.heap.size w (w4.setRow w2.heap.size (q'.cs (do3 p s t))) from Proofs.Ytbncmeggnhggkaa.Below.keeps (HB.out.trans (hb4'.mono HB.out.size)) (keeps_setRow w4 w2.heap.size _) (by have := hb4'.size; have := HB.out.size; omega) (fun x e => by omega))
              clear hfr hb4 hb4' hjz d0 d1 d2 c1 hcm cs
              go_wp2_with (refine wpList_store_row rfl 44 (.tmp 6) (.tmp 50) rfl w2.heap.size (q'.cs (do3 p s t)) rfl rfl 44 _ HG4.out (by kernel_rfl) rfl (DoI.one _ _) ?_)
              go_roundw
              case rel => exact ⟨k + 1, by omega, by go_num, HR5, HB5⟩
              case measure => simp [intOf]; omega
            · have d2 : ((j : Int) == (z : Int)) = true := by simp; omega
              rw [decide_eq_false hjz] at HGO
              have HST := hid (STOP.out (fun h => by obtain ⟨t', ht, _, h2⟩ := (mem_moves3 _).1 h; have e : t = t' := by omega
                                                     subst e; rw [HGO.out] at h2; cases h2))
              clear STOP
              go_wp2_with fail
              go_quiet (fail)
              go_wp2
              go_ret2
              rw [HST.out]
              exact ⟨_, 0, rfl, own_lit0 wr _ _ 1 HB.out.size, below_drewN _ (HB.out.alloc HB.out.size _)⟩
      · have HALL := hid (follow_all HFO.out (show ms.length ≤ k by have := HN.out.2; omega))
        have cs : (wr.cell? ⟨w2.heap.size, 0, none⟩ = some (.slice e0 s.pc.length f0) ∧ wr.cell? ⟨w2.heap.size, 1, none⟩ = some (.slice e1 s.regs.length f1) ∧ wr.cell? ⟨w2.heap.size, 2, none⟩ = some (.slice e2 s.mem.length f2) ∧ wr.cell? ⟨w2.heap.size, 3, none⟩ = some (.slice e3 s.buf.length f3)) := by
          have e := fun (i : Nat) => cell_of_row wr w2.heap.size i _ _ _ HGR.out
          exact ⟨e 0, e 1, e 2, e 3⟩
        have hg6 : w2.heap.size < wr.heap.size := (Array.getElem?_eq_some_iff.1 HGR.out).1
        have HRS := hid (show runRes (done3 p) out3 (seqRun p ms) = if done3 p s then (out3 s, true) else ([], false) from by
          unfold seqRun
          rw [HALL.out]
          rfl)
        have HD1 := hid (HDN.out wr ⟨e0, f0, e1, f1, e2, f2, e3, f3⟩ s (HRP.out.below HB.out) HRD.out HGD.out)
        by_cases hd : done3 p s = true
        · rw [hd] at HD1
          have HRS2 := hid (HRS.out.trans (if_pos hd))
          go_wp2_with fail
          refine HD1.out.mono ?_
          rintro e w4 ⟨rfl, hb4⟩
          have hg4 := (hb4.block _ hg6).trans HGR.out
          have c4 : (w4.cell? ⟨w2.heap.size, 0, none⟩ = some (.slice e0 s.pc.length f0) ∧ w4.cell? ⟨w2.heap.size, 1, none⟩ = some (.slice e1 s.regs.length f1) ∧ w4.cell? ⟨w2.heap.size, 2, none⟩ = some (.slice e2 s.mem.length f2) ∧ w4.cell? ⟨w2.heap.size, 3, none⟩ = some (.slice e3 s.buf.length f3)) := by
            have e := fun (i : Nat) => cell_of_row w4 w2.heap.size i _ _ _ hg4
            exact ⟨e 0, e 1, e 2, e 3⟩
          have HRD4 := hid (HRD.out.below hb4)
          have HB4 := hid (HB.out.trans (hb4.mono HB.out.size))
          clear hb4 hg4 hd cs
          go_wp2_with fail
          refine (HOUT.out _ ⟨e0, f0, e1, f1, e2, f2, e3, f3⟩ s HRD4.out HGD.out).mono ?_
          rintro e w5 ⟨a5, c5, rfl, hown5, hb5⟩
          have HO5 := hid hown5
          have HB5 := hid hb5
          clear hown5 hb5 c4
          go_wp2
          go_ret2
          rw [HRS2.out]
          exact ⟨a5, c5, rfl, own_base HO5.out HB4.out.size, HB4.out.trans (HB5.out.mono HB4.out.size)⟩
        · have hd : done3 p s = false := by simpa using hd
          rw [hd] at HD1
          have HRS2 := hid (HRS.out.trans (if_neg (by rw [hd]; decide)))
          go_wp2_with fail
          refine HD1.out.mono ?_
          rintro e w4 ⟨rfl, hb4⟩
          have HB4 := hid (HB.out.trans (hb4.mono HB.out.size))
          clear hb4 hd cs
          go_wp2
          go_ret2
          rw [HRS2.out]
          exact retLB_lit HB4.out
  · have hv : progValid p = false := by simpa using hv
    rw [hv] at HV
    have HRES := hid (show runSch p ms = ([], false) by unfold runSch; rw [hv]; rfl)
    rw [HRES.out]
    clear hv h h' hl hl' HRES
    go_enter Try.func11, Try.ntmps11
    go_wp2_with fail
    refine HV.out.mono ?_
    rintro e w1 ⟨rfl, hb1⟩
    have HB1 := hid hb1
    clear hb1
    go_wp2
    go_ret2
    exact retLB_lit HB1.out
end Go.Proofs.Ytbncmeggnhggkaa
