/-
  PROVED HERE: what (*views).after does. CONDITIONS: as each theorem states.
-/
import Derived.Test.YthlmfjoiicnomaaWr
namespace Go.Proofs.Ythlmfjoiicnomaa
open Go.RowKit
set_option linter.unusedVariables false
set_option linter.unusedSimpArgs false

theorem fits_pos {p : Prg} {s : Vs} (h : Good5 p s) {t k l : Nat} {x : Ins} (ht : t < p.length) (hl : x.loc = (l : Nat)) (hl3 : l < 3) (hf : fits5 s t x k = true) (h1 : x.op ≠ 1) (h4 : x.op ≠ 4) (h5 : x.op ≠ 5) : 1 ≤ k := by
  unfold fits5 at hf
  rw [if_neg h4, if_neg h1, if_neg h5, hl, Int.toNat_natCast] at hf
  simp only [Bool.and_eq_true, decide_eq_true_eq] at hf
  obtain ⟨j, hj, _⟩ := h.seen ht hl3
  rw [hj] at hf
  omega
set_option maxRecDepth 100000 in
set_option maxHeartbeats 3200000 in
theorem vAfter_c (w : World) (g : Nat) (p : Prg) (s : Vs) (c t k : Nat) (h : VwAt w g p s) (hv : Shape p) (hct : c % 3 = t) (hck : c / 3 = k) (hc : can5 p s t k = true) :
    Calls Try.prog 129 #[.pointer (some ⟨g, 0, none⟩), .int .i64 c] w fun e w' => ∃ b, e = .returned (.iface 102 (.pointer (some ⟨b, 0, none⟩))) ∧ VwAt w' b p (do5 p s t k) ∧ Below w.heap.size w w' := by
  have hgd := h.good
  obtain ⟨xs, i, x, ln, rn, hxs, hi, hx, hiv, hnx, hi7, htp, hln, hl3, hrn, hr3, hgo, hft⟩ := hgd.next hv hc
  obtain ⟨hk1, hk2, hk3, hk4⟩ := fits_lt hgd hln hl3 hft
  have hpos := fits_pos hgd htp hln hl3 hft
  have ex : (c : Int) % 3 = (t : Int) := by omega
  have ey : (c : Int) / 3 = (k : Int) := by omega
  have hk24 : (row5 s ln).length ≤ 24 := hgd.rowlen hv hl3
  have HAT := hid h
  have HVA := hid h.v
  have HGS := hid (hgd.step hv hc)
  have HNX := hid (fun w (h : VAt w g p s.st) => next_c w g p s.st t h hv htp)
  have HST := hid (fun w (h : VAt w g p s.st) => stored_c w g p s.st t x h hv htp hiv)
  have HRE := hid (fun w => readsI_c w x)
  have HPB := hid (hgd.pad_bd hv)
  have HRB := hid (hgd.row_bd hv)
  have HU3 := hid (hgd.u3 hv)
  have HV3 := hid (fun l hl => hgd.v3 (l := l) hl)
  have HVL := hid (hgd.good.vlen hv)
  have hval := valid_val hiv
  have HOP := hid (valid_op hiv)
  have hwb := hgd.good.wv (t := t) hiv
  have hc64 : c ≤ 1000 := by omega
  have hn3 : p.length ≤ 3 := hv.len
  have HDO := hid (show do5 p s t k = do5x s t x k (wval s.st t x) by unfold do5; rw [hnx])
  have HS1 := hid (show ({ s.st with pc := s.st.pc.set t ((i : Int) + 1) } : St) = (up5 s t).st by
    unfold up5
    rw [List.getD_eq_getElem?_getD, hi]
    rfl)
  obtain ⟨op, loc, reg, val⟩ := x
  have hln : loc = ln := hln
  have hrn : reg = rn := hrn
  subst hln
  subst hrn
  have hl3' : (ln : Int) < 3 := by omega
  have hr3' : (rn : Int) < 3 := by omega
  have htl : t < s.st.pc.length := by rw [hgd.good.pcl]; exact htp
  have ht3 : t < 3 := by omega
  have ht3' : (t : Int) < 3 := by omega
  obtain ⟨⟨a, cap, Lz, hg, hrp, hrow⟩, _⟩ := h
  have HRP := hid hrp
  have HROW := hid hrow
  rw [hgo, hnx] at HNX
  simp only [↓reduceIte] at HNX
  have hgl : g < w.heap.size := (Array.getElem?_eq_some_iff.1 hg).1
  have hhl := length_valC (a := a) (n := p.length) (cap := cap) HVL.out
  obtain ⟨V, hV⟩ : ∃ V, V = (vwC (valC a p.length cap s.st) Lz (fun l => (row5 s l).length) (padV s.view)).toArray := ⟨_, rfl⟩
  have HONE := hid (show V.all (·.oneCell') = true from by rw [hV]; exact all_oneCell_toArray (vwC_one (valC_one _ _ _ _)))
  have hVs : V.size = 28 := by rw [hV, List.size_toArray, vwC_len hhl HU3.out]
  have HSZ := hid (show (Try.prog.info? 112).map (·.size) = some V.size from by rw [hVs]; kernel_rfl)
  have HSZ28 := hid (show z28.size = V.size from by rw [hVs]; rfl)
  have hbA : Below w.heap.size w ((w.alloc (.cells z28 112)).setRow w.heap.size V) := Proofs.Ythlmfjoiicnomaa.Below.keeps ((Below.refl w.heap.size w).alloc (Nat.le_refl _) (.cells z28 112)) (keeps_setRow _ w.heap.size V) (by simp) (fun k e => by omega)
  have hgA := (hbA.block g hgl).trans hg
  have HCL := hid (show CloI w ((w.alloc (.cells z28 112)).setRow w.heap.size V) w.heap.size (valC a p.length cap s.st) Lz (row5 s) (padV s.view) 0 from CloI.start (by rw [setRow_heap _ _ _ V _ _ (heap_alloc_new w _), hV]) hbA)
  have cA0 := cell_L hgA (vwC_l (L := Lz) (N := fun l => (row5 s l).length) (U := padV s.view) hhl (l := 0) (by decide))
  have cA1 := cell_L hgA (vwC_l (L := Lz) (N := fun l => (row5 s l).length) (U := padV s.view) hhl (l := 1) (by decide))
  have cA2 := cell_L hgA (vwC_l (L := Lz) (N := fun l => (row5 s l).length) (U := padV s.view) hhl (l := 2) (by decide))
  rw [← hV] at hg
  have HG := hid hg
  have HVV := hid hV
  have HHL := hid hhl
  have HI := hid hi
  clear hg hV hVs hhl hrow hrp hgd hxs hi hx hiv hnx hgo hft hv hbA hgA
  go_enter Try.func129, Try.ntmps129
  go_wp2_with (first | (refine wpList_load_row rfl 112 (.tmp 14) rfl g rfl 112 V (0, 0) _ HG.out Try.underlying112 rfl HSZ.out ?_) | (refine wpList_store_row rfl 112 (.tmp 5) (.tmp 15) rfl w.heap.size V rfl rfl 112 _ (heap_alloc_new w _) HSZ.out HSZ28.out HONE.out ?_))
  have HIX := hid (fun (w : World) j (hj : j < 3) => run_indexL w Lz (fun l => (row5 s l).length) j hj)
  obtain ⟨w1, hw1⟩ : ∃ w1, w1 = (w.alloc (.cells z28 112)).setRow w.heap.size V := ⟨_, rfl⟩
  rw [← hw1] at HCL ⊢
  clear hw1 cA0 cA1 cA2
  obtain ⟨B, hB⟩ : ∃ B, B = w.heap.size := ⟨_, rfl⟩
  rw [← hB] at HCL ⊢
  have HBW := hid hB
  have hBle : w.heap.size ≤ B := by omega
  clear hB
  obtain ⟨hd, hhd⟩ : ∃ hd, hd = valC a p.length cap s.st := ⟨_, rfl⟩
  have HHD := hid hhd
  rw [← hhd] at HHL HCL
  clear hhd
  go_loopw [6, 7, 20] (fun _ _ j wx => ∃ l : Nat, l ≤ 3 ∧ j = .int .i64 l ∧ Hid (CloI w wx B hd Lz (row5 s) (padV s.view) l)) (fun _ _ j _ => 3 - (intOf j).toNat)
  case atStart => exact ⟨0, by omega, rfl, HCL⟩
  case round =>
    clear HCL
    obtain ⟨l, hl, rfl, HCL⟩ := hrel
    by_cases hlt : l < 3
    · have hlt' : (l : Int) < 3 := by omega
      have hrl := (HAT.out.good.rpos hlt).1
      obtain ⟨rb, ro, hra, HRD⟩ : ∃ rb ro, (Lz l).1 = some ⟨rb, ro, none⟩ ∧ Hid (Rd w (some ⟨rb, ro, none⟩) (wcells (row5 s l))) := by
        have h0 := (HROW.out l hlt).1
        have hln := wcells_len (HV3.out l hlt)
        have h1 := h0
        rcases h1 with h | ⟨b, off, e, _⟩
        · rw [h] at hln; simp at hln; omega
        · exact ⟨b, off, e, hid (by rw [← e]; exact h0)⟩
      have hix := fun w => HIX.out w l hlt
      rw [hra] at hix
      obtain ⟨n, hn⟩ : ∃ n, n = (row5 s l).length := ⟨_, rfl⟩
      rw [← hn] at hix
      have HN := hid hn
      have hn24 : n ≤ 90 := by rw [hn]; exact (HRB.out l hlt).1
      have HCC := hid (cloneM_c wr ⟨rb, ro, none⟩ n (Lz l).2 (wcells (row5 s l)) (HRD.out.below HCL.out.below) (by rw [wcells_len (HV3.out l hlt), hn]) (wcells_one _) (by omega))
      clear hn hra
      go_wp2_with fail
      refine HCC.out.mono ?_
      rintro e w4 ⟨a4, c4, rfl, hown4, hb4⟩
      have hCL := HCL.out.step (a := a4) (c := c4) HHL.out hlt hBle hb4 (by rw [← HN.out]; exact hown4)
      rw [← HN.out] at hCL
      have HCL5 := hid hCL
      obtain ⟨⟨L', hcur', _⟩, _⟩ := HCL.out
      have hBlt : B < wr.heap.size := (Array.getElem?_eq_some_iff.1 hcur').1
      have hcur4 := (hb4.block B hBlt).trans hcur'
      have c16 := cell_L hcur4 (vwC_l (L := L') (N := fun l => (row5 s l).length) (U := padV s.view) HHL.out hlt)
      have f16 := frozen_of_row w4 B (16 + l) _ _ hcur4
      clear hCL hown4 hb4 HCC hix hcur' hcur4 HCL
      go_wp2_with fail
      go_roundw
      case rel => exact ⟨l + 1, by omega, by go_num, HCL5⟩
      case measure => simp [intOf]; omega
    · have hl3n : ¬ ((l : Int) < 3) := by omega
      obtain ⟨L, hMid⟩ := CloI.mid (by have : l = 3 := by omega
                                       rw [this] at HCL; exact HCL.out) HHL.out HU3.out hBle (fun l hl => HV3.out l hl)
      have HM := hid hMid
      have HB1 := hid HCL.out.below
      clear hMid HCL HIX
      go_wp2_with fail
      refine (HNX.out wr (HVA.out.below HB1.out)).mono ?_
      rintro e w2 ⟨rfl, hb2⟩
      have hHL2 := HHL.out
      have HM2 := hid (HM.out.later hb2)
      have hcp : hd[1 + t]? = some (.int .u8 (i : Int)) := by rw [HHD.out]; exact valC_pc HVL.out HI.out
      have p3 := HM2.out.cellB (vwC_hd HHL.out hcp)
      have f3 := HM2.out.freeB (1 + t)
      have hw7 : IntKind.u8.wrap ((i : Int) + 1) = (i : Int) + 1 := IntWalk.u8_in _ (by omega)
      obtain ⟨hd1, hhd1⟩ : ∃ hd1, hd1 = hd.set (1 + t) (.int .u8 ((i : Int) + 1)) := ⟨_, rfl⟩
      have HHD1 := hid (show hd1 = valC a p.length cap (up5 s t).st by rw [hhd1, HHD.out, valC_setpc HVL.out htl, HS1.out])
      have HM4 := hid ((HM2.out.sethd (j := 1 + t) (by omega) (.int .u8 ((i : Int) + 1))).later ((Below.refl _ _).alloc (Nat.le_refl _) (.cells #[.int .i64 op, .int .i64 ln, .int .i64 rn, .int .i64 val] 70)))
      rw [← hhd1] at HM4
      have hB2 := HM2.out.lt
      clear hb2 HM hhd1 hcp
      go_wp2_with fail
      obtain ⟨Hx, hHx⟩ : ∃ Hx, Hx = w2.heap.size := ⟨_, rfl⟩
      have HX4 := hid (show ((w2.setCell ⟨B, 1 + t, none⟩ (.int .u8 ((i : Int) + 1))).alloc (.cells #[.int .i64 op, .int .i64 ln, .int .i64 rn, .int .i64 val] 70)).heap[Hx]? = some (.cells #[.int .i64 op, .int .i64 ln, .int .i64 rn, .int .i64 val] 70 (0, 0)) from by
        have := heap_alloc_new (w2.setCell ⟨B, 1 + t, none⟩ (.int .u8 ((i : Int) + 1))) (.cells #[.int .i64 op, .int .i64 ln, .int .i64 rn, .int .i64 val] 70)
        rwa [show (w2.setCell ⟨B, 1 + t, none⟩ (.int .u8 ((i : Int) + 1))).heap.size = Hx by rw [hHx]; simp [World.setCell]] at this)
      have hxB : Hx ≠ B := by omega
      rw [← hHx]
      obtain ⟨w4, hw4⟩ : ∃ w4, w4 = (w2.setCell ⟨B, 1 + t, none⟩ (.int .u8 ((i : Int) + 1))).alloc (.cells #[.int .i64 op, .int .i64 ln, .int .i64 rn, .int .i64 val] 70) := ⟨_, rfl⟩
      rw [← hw4] at HM4 HX4 ⊢
      clear p3 f3 HM2 hw4 hHx hB2
      refine (HRE.out _).mono ?_
      rintro e w6 ⟨rfl, hb6⟩
      have HM6 := hid (HM4.out.later hb6)
      have HX6 := hid ((hb6.block Hx (Array.getElem?_eq_some_iff.1 HX4.out).1).trans HX4.out)
      clear hb6 HM4 HX4
      by_cases hre : insReads ⟨op, ln, rn, val⟩ = true
      · rw [hre]
        have hop : op = 1 ∨ op = 5 := by
          unfold insReads at hre
          simpa using hre
        have hklt := hk2 hop (by show op ≠ 4; omega)
        clear hre
        obtain ⟨m, hm⟩ : ∃ m, (row5 s ln)[k]? = some m := ⟨_, List.getElem?_eq_getElem hklt⟩
        have HMZ := hid (show (row5 s ln).getD k msZ = m by rw [List.getD_eq_getElem?_getD, hm]; rfl)
        have HMM := hid hm
        have hmem := List.mem_of_getElem? hm
        have HMO := hid (HAT.out.good.mok _ (List.mem_of_getElem? (HAT.out.good.row hl3)) m hmem)
        have HMB := hid ((HRB.out ln hl3).2 m hmem)
        obtain ⟨v0, v1, v2, hmv⟩ := len3 (HV3.out ln hl3 m hmem)
        have HMV := hid hmv
        have hmval : 0 ≤ m.val ∧ m.val ≤ 3 := HMO.out.1
        obtain ⟨N, hN⟩ : ∃ N, N = (row5 s ln).length := ⟨_, rfl⟩
        have hkN : k < N := by omega
        obtain ⟨rb, ro, hra, hrbw, hrc⟩ : ∃ rb ro, (Lz ln).1 = some ⟨rb, ro, none⟩ ∧ rb < w.heap.size ∧ ∀ j v, (wcells (row5 s ln))[j]? = some v → w.cell? ⟨rb, ro + j, none⟩ = some v := by
          have h0 := (HROW.out ln hl3).1
          have hlw := wcells_len (HV3.out ln hl3)
          rcases h0 with h | ⟨b, off, e, h1, h2⟩
          · rw [h] at hlw; simp at hlw; omega
          · exact ⟨b, off, e, h1, h2⟩
        have q0 := hrc (k * 5) _ ((wcells_get (HV3.out ln hl3) hm (j := 0) (by decide)).trans (by rw [wcell]; rfl))
        have q1 := hrc (k * 5 + 1) _ ((wcells_get (HV3.out ln hl3) hm (j := 1) (by decide)).trans (by rw [wcell]; rfl))
        have q2 := hrc (k * 5 + 2) _ ((wcells_get (HV3.out ln hl3) hm (j := 2) (by decide)).trans (by rw [wcell, hmv]; rfl))
        have q3 := hrc (k * 5 + 3) _ ((wcells_get (HV3.out ln hl3) hm (j := 3) (by decide)).trans (by rw [wcell, hmv]; rfl))
        have q4 := hrc (k * 5 + 4) _ ((wcells_get (HV3.out ln hl3) hm (j := 4) (by decide)).trans (by rw [wcell, hmv]; rfl))
        rw [← Nat.add_assoc] at q1 q2 q3 q4
        have HLS := hid (show w.cell? ⟨g, 16 + ln, none⟩ = some (.slice (some ⟨rb, ro, none⟩) N (Lz ln).2) from by
          have hg := HG.out
          rw [HVV.out] at hg
          have := cell_L hg (vwC_l (L := Lz) (N := fun l => (row5 s l).length) (U := padV s.view) (by rw [← HHD.out]; exact HHL.out) hl3)
          rw [hra, ← hN] at this
          exact this)
        obtain ⟨lc, hlc⟩ : ∃ lc, lc = (Lz ln).2 := ⟨_, rfl⟩
        rw [← hlc] at HLS
        obtain ⟨mv, hmve⟩ : ∃ mv, mv = m.val := ⟨_, rfl⟩
        obtain ⟨ml, hmle⟩ : ∃ ml, ml = m.lock := ⟨_, rfl⟩
        have HMVL := hid (And.intro hmve hmle)
        have q0 : w.cell? ⟨rb, ro + k * 5, none⟩ = some (.int .u8 mv) := by rw [hmve]; exact q0
        have q1 : w.cell? ⟨rb, ro + k * 5 + 1, none⟩ = some (.bool ml) := by rw [hmle]; exact q1
        rw [← hmve] at hmval
        have HN := hid hN
        clear hm hmem hmv hN hra hlc hrc hmve hmle
        have hb6 : Below w.heap.size w w6 := ⟨HM6.out.kp.os, HM6.out.kp.tape, HM6.out.kp.output, HM6.out.kp.size, fun k hk => HM6.out.kp.block k hk (fun e => e)⟩
        have hxlt6 : Hx < w6.heap.size := (Array.getElem?_eq_some_iff.1 HX6.out).1
        obtain ⟨J, hJ⟩ : ∃ J : World → Prop, J = fun w' => Below w6.heap.size w6 w' := ⟨_, rfl⟩
        have HJ := hid (fun w' (h : Below w6.heap.size w6 w') => show J w' by rw [hJ]; exact h)
        have HC := hid (fun w' (h : J w') => show (w'.cell? ⟨Hx, 0, none⟩ = some (.int .i64 op) ∧ w'.cell? ⟨Hx, 1, none⟩ = some (.int .i64 ln) ∧ w'.cell? ⟨Hx, 2, none⟩ = some (.int .i64 rn) ∧ w'.cell? ⟨Hx, 3, none⟩ = some (.int .i64 val)) ∧ w'.cell? ⟨g, 16 + ln, none⟩ = some (.slice (some ⟨rb, ro, none⟩) N lc) ∧ w'.cell? ⟨rb, ro + k * 5, none⟩ = some (.int .u8 mv) ∧ w'.cell? ⟨rb, ro + k * 5 + 1, none⟩ = some (.bool ml) ∧ w'.cell? ⟨rb, ro + k * 5 + 2, none⟩ = some (.int .u8 v0) ∧ w'.cell? ⟨rb, ro + k * 5 + 3, none⟩ = some (.int .u8 v1) ∧ w'.cell? ⟨rb, ro + k * 5 + 4, none⟩ = some (.int .u8 v2) from by
          rw [hJ] at h
          have e := fun (i : Nat) => cell_of_row w' Hx i _ _ _ ((h.block Hx hxlt6).trans HX6.out)
          have hb := hb6.trans (h.mono hb6.size)
          exact ⟨⟨e 0, e 1, e 2, e 3⟩, (hb.cell (p := ⟨g, 16 + ln, none⟩) hgl).trans HLS.out, (hb.cell (p := ⟨rb, ro + k * 5, none⟩) hrbw).trans q0, (hb.cell (p := ⟨rb, ro + k * 5 + 1, none⟩) hrbw).trans q1, (hb.cell (p := ⟨rb, ro + k * 5 + 2, none⟩) hrbw).trans q2, (hb.cell (p := ⟨rb, ro + k * 5 + 3, none⟩) hrbw).trans q3, (hb.cell (p := ⟨rb, ro + k * 5 + 4, none⟩) hrbw).trans q4⟩)
        have hJ0 : J w6.drew := HJ.out _ (below_drewN 1 (Below.refl _ _))
        have hkN' : (k : Int) < (N : Int) := by omega
        clear hJ q0 q1 q2 q3 q4
        go_wp2_with fail
        refine MJ.wp_region_mix (J := J) (by kernel_rfl) (by kernel_rfl) ?_
        repeat (first | (refine MJ.wpMix_pure rfl rfl (fun K hK => ?_); go_simp; (first | refine hK _ ?_ | refine ⟨_, fun W hW => rfl, hK _ ?_⟩ | refine ⟨_, fun W hW => ⟨rfl, rfl⟩, hK _ ?_⟩); clear hK K) | (refine MJ.wpMix_held rfl rfl (by assumption) (fun K hK => ?_); go_simp; apply Exists.intro; refine And.intro (fun W hW => ?_) (hK _ ?_); (focus (have hcs := HC.out W hW; go_simp; try rfl)); clear hK K))
        (with_reducible refine MJ.wpMix_make rfl rfl (fun K hK => ?_); go_simp)
        obtain ⟨wz, hwz⟩ : ∃ wz, wz = (w6.alloc (.cells #[.int .u8 0, .bool false, .int .u8 0, .int .u8 0, .int .u8 0] 114)).drew := ⟨_, rfl⟩
        have hbz : Below w6.heap.size w6 wz := by rw [hwz]; exact below_drewN 1 ((Below.refl _ _).alloc (Nat.le_refl _) _)
        have hz : wz.heap[w6.heap.size]? = some (.cells #[.int .u8 0, .bool false, .int .u8 0, .int .u8 0, .int .u8 0] 114 (0, 0)) := by rw [hwz]; exact heap_alloc_new w6 _
        rw [← hwz]
        refine hK _ _ (HJ.out _ hbz) ?_
        clear hK K
        repeat (first | (refine MJ.wpMix_pure rfl rfl (fun K hK => ?_); go_simp; (first | refine hK _ ?_ | refine ⟨_, fun W hW => rfl, hK _ ?_⟩ | refine ⟨_, fun W hW => ⟨rfl, rfl⟩, hK _ ?_⟩); clear hK K) | (refine MJ.wpMix_held rfl rfl (by assumption) (fun K hK => ?_); go_simp; apply Exists.intro; refine And.intro (fun W hW => ?_) (hK _ ?_); (focus (have hcs := HC.out W hW; go_simp; try rfl)); clear hK K))
        refine MJ.wpMix_act rfl rfl rfl (fun K hK => ?_)
        refine wp_store_row 114 (.tmp 12) (.tmp 62) rfl w6.heap.size #[.int .u8 mv, .bool ml, .int .u8 v0, .int .u8 v1, .int .u8 v2] rfl rfl 114 _ hz (by kernel_rfl) rfl (by simp [Value.oneCell']) ?_
        refine hK _ _ ?_
        clear hK K
        refine MJ.wpMix_nil ?_
        obtain ⟨Hm, hHm⟩ : ∃ Hm, Hm = w6.heap.size := ⟨_, rfl⟩
        have hmB : Hm ≠ B := by have := HM6.out.lt; omega
        have hmx : Hm ≠ Hx := by omega
        have HW7 := hid (setRow_heap wz Hm _ #[.int .u8 mv, .bool ml, .int .u8 v0, .int .u8 v1, .int .u8 v2] _ _ (by rw [hHm]; exact hz))
        have hb7 : Below w6.heap.size w6 (wz.setRow Hm #[.int .u8 mv, .bool ml, .int .u8 v0, .int .u8 v1, .int .u8 v2]) := Proofs.Ythlmfjoiicnomaa.Below.keeps hbz (keeps_setRow wz Hm _) hbz.size (fun x e => by omega)
        have HM7 := hid (HM6.out.later hb7)
        have HX7 := hid ((hb7.block Hx hxlt6).trans HX6.out)
        rw [← hHm]
        obtain ⟨w7, hw7⟩ : ∃ w7, w7 = wz.setRow Hm #[.int .u8 mv, .bool ml, .int .u8 v0, .int .u8 v1, .int .u8 v2] := ⟨_, rfl⟩
        rw [← hw7] at HW7 HM7 HX7 ⊢
        clear hw7 hb7 hz hbz hwz HJ HC hJ0 HM6 HX6 hHm hxlt6 hb6
        clear J
        have hvl1 : ValLen (up5 s t).st := by rw [← HS1.out]; exact HVL.out.setpc t _
        have hil : t * 3 + rn < s.st.regs.length := by rw [HAT.out.good.good.regl]; omega
        obtain ⟨r7, hr7⟩ : ∃ r7, s.st.regs[t * 3 + rn]? = some r7 := ⟨_, List.getElem?_eq_getElem hil⟩
        have p7 := HM7.out.cellB (vwC_hd HM7.out.hl (show hd1[4 + (t * 3 + rn)]? = some (.int .u8 r7) by rw [HHD1.out]; exact valC_reg hvl1 hr7))
        have f7 := HM7.out.freeB (4 + (t * 3 + rn))
        have HM8 := hid (MidW.drew (HM7.out.sethd (j := 4 + (t * 3 + rn)) (by omega) (.int .u8 mv)))
        obtain ⟨hd2, hhd2⟩ : ∃ hd2, hd2 = hd1.set (4 + (t * 3 + rn)) (.int .u8 mv) := ⟨_, rfl⟩
        have HHD2 := hid (show hd2 = valC a p.length cap (read5 (up5 s t) t rn m).st by
          rw [hhd2, HHD1.out, valC_setreg hvl1 hil, HMVL.out.1]
          rfl)
        rw [← hhd2] at HM8
        have hk8 := Keeps.setCell w7 ⟨B, 4 + (t * 3 + rn), none⟩ (.int .u8 mv)
        have HX8 := hid ((hk8.block Hx (Array.getElem?_eq_some_iff.1 HX7.out).1 (fun e => hxB e)).trans HX7.out)
        have HW8 := hid ((hk8.block Hm (Array.getElem?_eq_some_iff.1 HW7.out).1 (fun e => hmB e)).trans HW7.out)
        rw [← Nat.add_assoc] at p7 f7 HM8 HX8 HW8
        have x70 := cell_of_row w7 Hx 0 _ _ _ HX7.out
        have x71 := cell_of_row w7 Hx 1 _ _ _ HX7.out
        have x72 := cell_of_row w7 Hx 2 _ _ _ HX7.out
        have x73 := cell_of_row w7 Hx 3 _ _ _ HX7.out
        have m70 := cell_of_row w7 Hm 0 _ _ _ HW7.out
        clear hr7 hhd2 hk8
        go_wp2_with fail
        refine wp_region_mix (by kernel_rfl) (by kernel_rfl) ?_
        repeat (with_reducible refine wpMix_rd rfl rfl (fun K hK => ?_); go_simp; (try go_bits); refine hK _ ?_; clear hK K)
        (with_reducible refine wpMix_act (o := ⟨_, .store _ _ _, _, _, _, _⟩) rfl rfl (fun K hK => ?_))
        go_simp
        refine hK _ _ ?_
        clear hK K
        obtain ⟨w8, hw8⟩ : ∃ w8, w8 = (w7.setCell ⟨B, 4 + t * 3 + rn, none⟩ (.int .u8 mv)).drew := ⟨_, rfl⟩
        have HX8' := hid (show w8.heap[Hx]? = some (.cells #[.int .i64 op, .int .i64 ln, .int .i64 rn, .int .i64 val] 70 (0, 0)) from by rw [hw8]; exact HX8.out)
        have HW8' := hid (show w8.heap[Hm]? = some (.cells #[.int .u8 mv, .bool ml, .int .u8 v0, .int .u8 v1, .int .u8 v2] 114 (0, 0)) from by rw [hw8]; exact HW8.out)
        rw [← hw8] at HM8 ⊢
        clear hw8 p7 f7 x70 x71 x72 x73 m70 HM7 HX7 HW7 HX8 HW8
        (with_reducible refine wpMix_nil ?_)
        have hb8 : Below w.heap.size w w8 := ⟨HM8.out.kp.os, HM8.out.kp.tape, HM8.out.kp.output, HM8.out.kp.size, fun k hk => HM8.out.kp.block k hk (fun e => e)⟩
        obtain ⟨v, hv⟩ : ∃ v, (padV s.view)[t]? = some v := ⟨_, List.getElem?_eq_getElem (by rw [HU3.out.1]; exact ht3)⟩
        have HVW := hid (show vw s t = v from by
          have h1 := padV_getD (p := p) HAT.out.good.vl htp
          rw [List.getD_eq_getElem?_getD, hv] at h1
          exact h1.symm)
        have HVB := hid (HPB.out v (List.mem_of_getElem? hv))
        obtain ⟨y0, y1, y2, hvy⟩ := len3 (HU3.out.2 v (List.mem_of_getElem? hv))
        obtain ⟨o0, o1, o2⟩ : w.cell? ⟨g, 19 + t * 3, none⟩ = some (.int .u8 y0) ∧ w.cell? ⟨g, 19 + t * 3 + 1, none⟩ = some (.int .u8 y1) ∧ w.cell? ⟨g, 19 + t * 3 + 2, none⟩ = some (.int .u8 y2) := by
          have hg := HG.out
          rw [HVV.out] at hg
          have hh : (valC a p.length cap s.st).length = 16 := by rw [← HHD.out]; exact HHL.out
          have u0 := cell_L hg (vwC_o hh HU3.out hv (j := 0) (x := y0) (by rw [hvy]; rfl))
          have u1 := cell_L hg (vwC_o hh HU3.out hv (j := 1) (x := y1) (by rw [hvy]; rfl))
          have u2 := cell_L hg (vwC_o hh HU3.out hv (j := 2) (x := y2) (by rw [hvy]; rfl))
          rw [Nat.add_zero] at u0
          rw [← Nat.add_assoc] at u1 u2
          exact ⟨u0, u1, u2⟩
        have HJN := hid (fun W => joined_c W [y0, y1, y2] [v0, v1, v2] rfl rfl (by rw [← hvy]; exact HVB.out) (by rw [← HMV.out]; exact HMB.out))
        obtain ⟨j0, j1, j2, hj⟩ := len3 (show (join5 [y0, y1, y2] [v0, v1, v2]).length = 3 from rfl)
        rw [hj] at HJN
        have HJE := hid (show join5 (vw s t) m.view = [j0, j1, j2] by rw [HVW.out, hvy, HMV.out, hj])
        have hjb := join_bd (x := [y0, y1, y2]) (y := [v0, v1, v2]) (b := 100) (by rw [← hvy]; exact HVB.out) (by rw [← HMV.out]; exact HMB.out)
        rw [hj] at hjb
        have HJB1 := hid hjb
        have HVO := hid hv
        clear hv hvy hj hjb
        have hxlt8 : Hx < w8.heap.size := (Array.getElem?_eq_some_iff.1 HX8'.out).1
        have hmlt8 : Hm < w8.heap.size := (Array.getElem?_eq_some_iff.1 HW8'.out).1
        obtain ⟨J, hJ⟩ : ∃ J : World → Prop, J = fun w' => Below w8.heap.size w8 w' := ⟨_, rfl⟩
        have HJ := hid (fun w' (h : Below w8.heap.size w8 w') => show J w' by rw [hJ]; exact h)
        have HJB := hid (fun w' (h : J w') => show Below w8.heap.size w8 w' by rw [hJ] at h; exact h)
        have HC := hid (fun w' (h : J w') => show (w'.cell? ⟨g, 19 + t * 3, none⟩ = some (.int .u8 y0) ∧ w'.cell? ⟨g, 19 + t * 3 + 1, none⟩ = some (.int .u8 y1) ∧ w'.cell? ⟨g, 19 + t * 3 + 2, none⟩ = some (.int .u8 y2)) ∧ w'.cell? ⟨Hm, 2, none⟩ = some (.int .u8 v0) ∧ w'.cell? ⟨Hm, 3, none⟩ = some (.int .u8 v1) ∧ w'.cell? ⟨Hm, 4, none⟩ = some (.int .u8 v2) from by
          rw [hJ] at h
          have hb := hb8.trans (h.mono hb8.size)
          have e := fun (i : Nat) => cell_of_row w' Hm i _ _ _ ((h.block Hm hmlt8).trans HW8'.out)
          exact ⟨⟨(hb.cell (p := ⟨g, 19 + t * 3, none⟩) hgl).trans o0, (hb.cell (p := ⟨g, 19 + t * 3 + 1, none⟩) hgl).trans o1, (hb.cell (p := ⟨g, 19 + t * 3 + 2, none⟩) hgl).trans o2⟩, e 2, e 3, e 4⟩)
        have hJ0 : J w8.drew := HJ.out _ (below_drewN 1 (Below.refl _ _))
        clear hJ o0 o1 o2
        go_wp2_with fail
        refine FR.wp_region_free 12 (fun S ρ w' => J w' ∧ (S 9 = true → ρ 9 = .agg (b8s [j0, j1, j2]).toArray)) (by kernel_rfl) (by kernel_rfl) (by kernel_rfl) (fun _ => undef) ⟨hJ0, fun e => (by cases e)⟩ fun V9 => ?_
        have HJI := hid (fun (S : Nat → Bool) (ρ : Nat → Value) w' (h : J w' ∧ (S 9 = true → ρ 9 = .agg (b8s [j0, j1, j2]).toArray)) => h.1)
        iterate 6 (refine FR.frGo_pure _ rfl (fun K hK => ?_); go_simp; (first | refine hK _ ?_ | refine ⟨_, fun W hW => rfl, hK _ ?_⟩ | refine ⟨_, fun W hW => ⟨rfl, rfl⟩, hK _ ?_⟩); clear hK K)
        (refine FR.frGo_held _ rfl J (fun S ρ w' h _ => HJI.out S ρ w' h) (fun K hK => ?_); go_simp; apply Exists.intro; refine And.intro (fun W hW => ?_) (hK _ ?_); (focus (have hcs := HC.out W hW; go_simp; try rfl)); clear hK K)
        (refine FR.frGo_pure _ rfl (fun K hK => ?_); go_simp; (first | refine hK _ ?_ | refine ⟨_, fun W hW => rfl, hK _ ?_⟩ | refine ⟨_, fun W hW => ⟨rfl, rfl⟩, hK _ ?_⟩); clear hK K)
        (refine FR.frGo_held _ rfl J (fun S ρ w' h _ => HJI.out S ρ w' h) (fun K hK => ?_); go_simp; apply Exists.intro; refine And.intro (fun W hW => ?_) (hK _ ?_); (focus (have hcs := HC.out W hW; go_simp; try rfl)); clear hK K)
        refine FR.frGo_act (k := 9) _ rfl (fun S ρ w' hI hS hp K hK => ?_) ?_
        · go_simp
          refine (HJN.out w').mono ?_
          rintro e w'' ⟨rfl, hb⟩
          exact hK _ _ ⟨HJ.out _ ((HJB.out _ hI.1).trans (hb.mono (HJB.out _ hI.1).size)), fun _ => by rw [FR.upd_same]⟩
        iterate 2 (refine FR.frGo_pure _ rfl (fun K hK => ?_); go_simp; (first | refine hK _ ?_ | refine ⟨_, fun W hW => rfl, hK _ ?_⟩ | refine ⟨_, fun W hW => ⟨rfl, rfl⟩, hK _ ?_⟩); clear hK K)
        refine FR.frGo_nil _ ?_
        intro S ρ w9 hI hS
        have z9 := hS 9 (by decide) (by kernel_rfl)
        have e9 := hI.2 z9.1
        rw [z9.2] at e9
        rw [e9]
        have hb9 := HJB.out _ hI.1
        have HM9 := hid (HM8.out.later hb9)
        have HX9 := hid ((hb9.block Hx hxlt8).trans HX8'.out)
        clear hI hS z9 e9 hb9 HJN
        refine wpMix_act rfl rfl (fun K hK => ?_)
        refine wp_store_mid 109 _ _ rfl B (19 + t * 3) #[.int .u8 j0, .int .u8 j1, .int .u8 j2] rfl rfl (HM9.out.thereB (by show 19 + t * 3 + 3 ≤ 28; omega)) (by kernel_rfl) (by simp [Value.oneCell']) ?_
        refine hK _ _ ?_
        clear hK K
        (with_reducible refine wpMix_nil ?_)
        have hM10 : MidW (fun _ => False) w (w9.setCells B (19 + t * 3) #[.int .u8 j0, .int .u8 j1, .int .u8 j2].toList) w.heap.size B hd2 L (row5 s) ((padV s.view).set t [j0, j1, j2]) := HM9.out.seto3 ht3 j0 j1 j2
        have hk10 : Keeps (· = B) w9 (w9.setCells B (19 + t * 3) #[.int .u8 j0, .int .u8 j1, .int .u8 j2].toList) := ((Keeps.setCell w9 ⟨B, 19 + t * 3, none⟩ (.int .u8 j0)).trans (Keeps.setCell _ ⟨B, 19 + t * 3 + 1, none⟩ (.int .u8 j1))).trans (Keeps.setCell _ ⟨B, 19 + t * 3 + 1 + 1, none⟩ (.int .u8 j2))
        have hX10 := (hk10.block Hx (Array.getElem?_eq_some_iff.1 HX9.out).1 (fun e => hxB e)).trans HX9.out
        obtain ⟨w10, hw10⟩ : ∃ w10, w10 = w9.setCells B (19 + t * 3) #[.int .u8 j0, .int .u8 j1, .int .u8 j2].toList := ⟨_, rfl⟩
        rw [← hw10] at hM10 hX10 ⊢
        have HM10 := hid hM10
        have HX10 := hid hX10
        clear hw10 hk10 hM10 hX10 HM9 HX9 HM8 HX8' HW8' HJ HJB HC HJI hJ0 hb8 hxlt8 hmlt8
        clear J
        obtain ⟨s2, hs2⟩ : ∃ s2, s2 = read5 (up5 s t) t rn m := ⟨_, rfl⟩
        have HPV := hid (show (padV s.view).set t [j0, j1, j2] = padV s2.view from by
          rw [padV_set _ (by rw [HAT.out.good.vl]; exact htp), ← HJE.out, hs2]
          rfl)
        have HR2 := hid (show row5 s2 = row5 s from by rw [hs2]; rfl)
        have HS2 := hid (show s2.list = s.list ∧ s2.view.length = p.length from by rw [hs2]; exact ⟨rfl, by show (s.view.set t _).length = _; rw [List.length_set]; exact HAT.out.good.vl⟩)
        rw [← hs2] at HHD2
        rw [HPV.out] at HM10
        have HSD := hid hs2
        clear hs2
        have x100 := cell_of_row w10 Hx 0 _ _ _ HX10.out
        have x101 := cell_of_row w10 Hx 1 _ _ _ HX10.out
        have x102 := cell_of_row w10 Hx 2 _ _ _ HX10.out
        have x103 := cell_of_row w10 Hx 3 _ _ _ HX10.out
        rcases hop with rfl | rfl
        · have HFD := hid (show do5 p s t k = s2 from by
            rw [HDO.out, HSD.out]
            unfold do5x
            rw [if_neg (show ¬ ((1 : Int) = 4) from by decide), if_pos rfl]
            dsimp only
            rw [Int.toNat_natCast, Int.toNat_natCast, HMZ.out])
          have HGS2 := hid (show Good5 p s2 by rw [← HFD.out]; exact HGS.out)
          go_wp2_with fail
          go_ret
          rw [HHD2.out] at HM10
          rw [HFD.out]
          exact ⟨B, rfl, HM10.out.fin HRP.out (fun l hl => by rw [HR2.out]) rfl HGS2.out⟩
        · have hlk := hk4 rfl
          have HFD := hid (show do5 p s t k = ins5 (lock5 s2 ln k) t ln (k + 1) val from by
            rw [HDO.out, HSD.out]
            unfold do5x wval
            rw [if_neg (show ¬ ((5 : Int) = 4) from by decide), if_neg (show ¬ ((5 : Int) = 1) from by decide), if_pos rfl, if_neg (show ¬ ((5 : Int) = 3) from by decide)]
            dsimp only
            rw [Int.toNat_natCast, Int.toNat_natCast, HMZ.out])
          have HUB2 := hid (show ∀ v ∈ padV s2.view, ∀ x ∈ v, 0 ≤ x ∧ x ≤ 100 from by
            rw [← HPV.out]
            intro v hv
            rcases List.mem_or_eq_of_mem_set hv with e | rfl
            · exact HPB.out v e
            · exact HJB1.out)
          have hPU := put_c (MidS B L) w10 w10 w.heap.size B hd2 L (row5 s) (padV s2.view) t ln (k + 1) val HM10.out.here ht3 hl3 (by omega) (by rw [← HN.out]; omega) hval HRB.out HUB2.out
          rw [show ((k + 1 : Nat) : Int) = (k : Int) + 1 from rfl] at hPU
          have HPU := hid hPU
          have hwk : IntKind.u8.wrap ((k : Int) + 1) = (k : Int) + 1 := IntWalk.u8_in _ (by omega)
          have hwv : IntKind.u8.wrap val = val := IntWalk.u8_in _ (by omega)
          clear hPU
          go_wp2_with fail
          refine HPU.out.mono ?_
          rintro e w11 ⟨rfl, L', hM11⟩
          have HM11 := hid (HM10.out.back hM11)
          have HX11 := hid ((hM11.kp.block Hx (Array.getElem?_eq_some_iff.1 HX10.out).1 (fun e => HM10.out.neOth HX10.out (by decide) (by decide) e)).trans HX10.out)
          clear hM11 x100 x101 x102 x103 HPU
          have HRK := hid (insR_at (R := row5 s) (U := padV s2.view) (t := t) (val := val) HMM.out)
          have hlen11 := insR_len (R := row5 s) (U := padV s2.view) (t := t) (loc := ln) (k := k + 1) (val := val) ln
          rw [if_pos rfl, ← HN.out] at hlen11
          obtain ⟨g', hg', hgB', _, _, hgc', hgf'⟩ := HM11.out.at_ hl3 (by rw [hlen11]; omega)
          have c16 := HM11.out.cl hl3
          rw [hg', hlen11] at c16
          have cl := hgc' (k * 5 + 1) _ ((wcells_get (HM11.out.v3 ln hl3) HRK.out (j := 1) (by decide)).trans (by rw [wcell]; rfl))
          have fl := hgf' (k * 5 + 1)
          have HM12 := hid (HM11.out.setlock hl3 hg' HRK.out)
          have hkN1 : (k : Int) < (N : Int) + 1 := by omega
          have x110 := cell_of_row w11 Hx 0 _ _ _ HX11.out
          have x111 := cell_of_row w11 Hx 1 _ _ _ HX11.out
          have x112 := cell_of_row w11 Hx 2 _ _ _ HX11.out
          have x113 := cell_of_row w11 Hx 3 _ _ _ HX11.out
          clear hgc' hgf'
          go_wp2_with fail
          go_ret
          have hgs := HGS.out
          rw [HFD.out] at hgs ⊢
          rw [HHD2.out] at HM12
          refine ⟨B, rfl, HM12.out.fin (s := ins5 (lock5 s2 ln k) t ln (k + 1) val) HRP.out (fun l hl => ?_) ?_ hgs⟩
          · rw [row5_insR (p := p) (s := lock5 s2 ln k) (by show (s2.list.set ln _).length = 3; rw [List.length_set, HS2.out.1]; exact HAT.out.good.ll) HS2.out.2 htp hl3]
            have e1 : row5 (lock5 s2 ln k) = fun l => if ln = l then (row5 s ln).set k { m with lock := true } else row5 s l := by
              funext l'
              rw [row5_lock (by rw [HS2.out.1]; exact HAT.out.good.ll) hl3, HR2.out, HMZ.out]
            rw [e1]
            exact (insR_lock (R := row5 s) (U := padV s2.view) (t := t) (loc := ln) (val := val) rfl HMM.out l).symm
          · exact view_insU (p := p) (s := lock5 s2 ln k) HS2.out.2 htp (by omega)
      · have hre' : insReads ⟨op, ln, rn, val⟩ = false := by simpa using hre
        have hn1 : op ≠ 1 ∧ op ≠ 5 := by
          unfold insReads at hre'
          simp at hre'
          exact hre'
        rw [hre']
        clear hre hre'
        have x60 := cell_of_row w6 Hx 0 _ _ _ HX6.out
        have x61 := cell_of_row w6 Hx 1 _ _ _ HX6.out
        have x62 := cell_of_row w6 Hx 2 _ _ _ HX6.out
        have x63 := cell_of_row w6 Hx 3 _ _ _ HX6.out
        by_cases h4 : op = 4
        · subst h4
          have HFD := hid (show do5 p s t k = up5 s t from by rw [HDO.out]; unfold do5x; rw [if_pos rfl])
          go_wp2_with fail
          go_ret
          have hgs := HGS.out
          rw [HFD.out] at hgs ⊢
          rw [HHD1.out] at HM6
          exact ⟨B, rfl, HM6.out.fin HRP.out (fun l hl => rfl) rfl hgs⟩
        · have hp := hpos hn1.1 h4 hn1.2
          have hop : op = 2 ∨ op = 3 := by have := HOP.out; omega
          have HFD := hid (show do5 p s t k = ins5 (up5 s t) t ln k (wval s.st t ⟨op, ln, rn, val⟩) from by
            rw [HDO.out]
            unfold do5x
            rw [if_neg h4, if_neg hn1.1, if_neg hn1.2]
            dsimp only
            rw [Int.toNat_natCast])
          obtain ⟨wv, hwve⟩ : ∃ wv, wv = wval s.st t ⟨op, ln, rn, val⟩ := ⟨_, rfl⟩
          rw [← hwve] at HST HFD hwb
          clear hwve
          have HPU := hid (fun w9 (h9 : MidW (fun _ => False) w w9 w.heap.size B hd1 L (row5 s) (padV s.view)) => put_c (MidS B L) w9 w9 w.heap.size B hd1 L (row5 s) (padV s.view) t ln k wv h9.here ht3 hl3 hp hk1 hwb HRB.out HPB.out)
          have hwk : IntKind.u8.wrap (k : Int) = (k : Int) := IntWalk.u8_in _ (by omega)
          have hxlt6 : Hx < w6.heap.size := (Array.getElem?_eq_some_iff.1 HX6.out).1
          have hb6 : Below w.heap.size w w6 := ⟨HM6.out.kp.os, HM6.out.kp.tape, HM6.out.kp.output, HM6.out.kp.size, fun k hk => HM6.out.kp.block k hk (fun e => e)⟩
          obtain ⟨J, hJ⟩ : ∃ J : World → Prop, J = fun w' => w'.heap[Hx]? = some (.cells #[.int .i64 op, .int .i64 ln, .int .i64 rn, .int .i64 val] 70 (0, 0)) := ⟨_, rfl⟩
          have HJ := hid (fun w' (h : w'.heap[Hx]? = some (.cells #[.int .i64 op, .int .i64 ln, .int .i64 rn, .int .i64 val] 70 (0, 0))) => show J w' by rw [hJ]; exact h)
          have HC := hid (fun w' (h : J w') => show w'.cell? ⟨Hx, 0, none⟩ = some (.int .i64 op) ∧ w'.cell? ⟨Hx, 1, none⟩ = some (.int .i64 ln) ∧ w'.cell? ⟨Hx, 2, none⟩ = some (.int .i64 rn) ∧ w'.cell? ⟨Hx, 3, none⟩ = some (.int .i64 val) from by
            rw [hJ] at h
            have e := fun (i : Nat) => cell_of_row w' Hx i _ _ _ h
            exact ⟨e 0, e 1, e 2, e 3⟩)
          have hJ0 : J w6.drew := HJ.out _ HX6.out
          clear hJ
          rcases hop with rfl | rfl
          · skip
            go_wp2_with fail
            refine MJ.wp_region_mix (J := J) (by kernel_rfl) (by kernel_rfl) ?_
            repeat (first | (refine MJ.wpMix_pure rfl rfl (fun K hK => ?_); go_simp; (first | refine hK _ ?_ | refine ⟨_, fun W hW => rfl, hK _ ?_⟩ | refine ⟨_, fun W hW => ⟨rfl, rfl⟩, hK _ ?_⟩); clear hK K) | (refine MJ.wpMix_held rfl rfl (by assumption) (fun K hK => ?_); go_simp; apply Exists.intro; refine And.intro (fun W hW => ?_) (hK _ ?_); (focus (have hcs := HC.out W hW; go_simp; try rfl)); clear hK K))
            (with_reducible refine MJ.wpMix_make rfl rfl (fun K hK => ?_); go_simp)
            refine (HST.out w6.drew (HVA.out.below (hb6.trans ((below_drewN 1 (Below.refl _ _)).mono hb6.size)))).mono ?_
            rintro e w8 ⟨rfl, hb8⟩
            have hb8' : Below w6.heap.size w6 w8 := (below_drewN 1 (Below.refl _ _)).trans hb8
            have HM8 := hid (HM6.out.later hb8')
            have hX8 := (hb8'.block Hx hxlt6).trans HX6.out
            have HX8 := hid hX8
            have hJ8 : J w8 := HJ.out _ hX8
            refine hK _ _ hJ8 ?_
            clear hK K hb8 hb8' hX8
            repeat (first | (refine MJ.wpMix_pure rfl rfl (fun K hK => ?_); go_simp; (first | refine hK _ ?_ | refine ⟨_, fun W hW => rfl, hK _ ?_⟩ | refine ⟨_, fun W hW => ⟨rfl, rfl⟩, hK _ ?_⟩); clear hK K) | (refine MJ.wpMix_held rfl rfl (by assumption) (fun K hK => ?_); go_simp; apply Exists.intro; refine And.intro (fun W hW => ?_) (hK _ ?_); (focus (have hcs := HC.out W hW; go_simp; try rfl)); clear hK K))
            (with_reducible refine MJ.wpMix_make rfl rfl (fun K hK => ?_); go_simp)
            (try rw [hwk] at hK ⊢)
            refine (HPU.out w8 HM8.out).mono ?_
            rintro e w9 ⟨rfl, L', hM9⟩
            have HM9 := hid (HM8.out.back hM9)
            have hX9 := (hM9.kp.block Hx (Array.getElem?_eq_some_iff.1 HX8.out).1 (fun e => HM8.out.neOth HX8.out (by decide) (by decide) e)).trans HX8.out
            refine hK _ _ (HJ.out _ hX9) ?_
            clear hK K hM9 hX9
            repeat (first | (refine MJ.wpMix_pure rfl rfl (fun K hK => ?_); go_simp; (first | refine hK _ ?_ | refine ⟨_, fun W hW => rfl, hK _ ?_⟩ | refine ⟨_, fun W hW => ⟨rfl, rfl⟩, hK _ ?_⟩); clear hK K) | (refine MJ.wpMix_held rfl rfl (by assumption) (fun K hK => ?_); go_simp; apply Exists.intro; refine And.intro (fun W hW => ?_) (hK _ ?_); (focus (have hcs := HC.out W hW; go_simp; try rfl)); clear hK K))
            refine MJ.wpMix_nil ?_
            clear HJ HC hJ0 hJ8 HPU HM8 HX8 x60 x61 x62 x63 HM6 HX6
            clear J
            go_wp2_with fail
            go_ret
            have hgs := HGS.out
            rw [HFD.out] at hgs ⊢
            rw [HHD1.out] at HM9
            refine ⟨B, rfl, HM9.out.fin (s := ins5 (up5 s t) t ln k wv) HRP.out (fun l hl => ?_) ?_ hgs⟩
            · exact (row5_insR (p := p) (s := up5 s t) HAT.out.good.ll HAT.out.good.vl htp hl3 l).symm
            · exact view_insU (p := p) (s := up5 s t) HAT.out.good.vl htp hp
          · skip
            go_wp2_with fail
            refine MJ.wp_region_mix (J := J) (by kernel_rfl) (by kernel_rfl) ?_
            repeat (first | (refine MJ.wpMix_pure rfl rfl (fun K hK => ?_); go_simp; (first | refine hK _ ?_ | refine ⟨_, fun W hW => rfl, hK _ ?_⟩ | refine ⟨_, fun W hW => ⟨rfl, rfl⟩, hK _ ?_⟩); clear hK K) | (refine MJ.wpMix_held rfl rfl (by assumption) (fun K hK => ?_); go_simp; apply Exists.intro; refine And.intro (fun W hW => ?_) (hK _ ?_); (focus (have hcs := HC.out W hW; go_simp; try rfl)); clear hK K))
            (with_reducible refine MJ.wpMix_make rfl rfl (fun K hK => ?_); go_simp)
            refine (HST.out w6.drew (HVA.out.below (hb6.trans ((below_drewN 1 (Below.refl _ _)).mono hb6.size)))).mono ?_
            rintro e w8 ⟨rfl, hb8⟩
            have hb8' : Below w6.heap.size w6 w8 := (below_drewN 1 (Below.refl _ _)).trans hb8
            have HM8 := hid (HM6.out.later hb8')
            have hX8 := (hb8'.block Hx hxlt6).trans HX6.out
            have HX8 := hid hX8
            have hJ8 : J w8 := HJ.out _ hX8
            refine hK _ _ hJ8 ?_
            clear hK K hb8 hb8' hX8
            repeat (first | (refine MJ.wpMix_pure rfl rfl (fun K hK => ?_); go_simp; (first | refine hK _ ?_ | refine ⟨_, fun W hW => rfl, hK _ ?_⟩ | refine ⟨_, fun W hW => ⟨rfl, rfl⟩, hK _ ?_⟩); clear hK K) | (refine MJ.wpMix_held rfl rfl (by assumption) (fun K hK => ?_); go_simp; apply Exists.intro; refine And.intro (fun W hW => ?_) (hK _ ?_); (focus (have hcs := HC.out W hW; go_simp; try rfl)); clear hK K))
            (with_reducible refine MJ.wpMix_make rfl rfl (fun K hK => ?_); go_simp)
            (try rw [hwk] at hK ⊢)
            refine (HPU.out w8 HM8.out).mono ?_
            rintro e w9 ⟨rfl, L', hM9⟩
            have HM9 := hid (HM8.out.back hM9)
            have hX9 := (hM9.kp.block Hx (Array.getElem?_eq_some_iff.1 HX8.out).1 (fun e => HM8.out.neOth HX8.out (by decide) (by decide) e)).trans HX8.out
            refine hK _ _ (HJ.out _ hX9) ?_
            clear hK K hM9 hX9
            repeat (first | (refine MJ.wpMix_pure rfl rfl (fun K hK => ?_); go_simp; (first | refine hK _ ?_ | refine ⟨_, fun W hW => rfl, hK _ ?_⟩ | refine ⟨_, fun W hW => ⟨rfl, rfl⟩, hK _ ?_⟩); clear hK K) | (refine MJ.wpMix_held rfl rfl (by assumption) (fun K hK => ?_); go_simp; apply Exists.intro; refine And.intro (fun W hW => ?_) (hK _ ?_); (focus (have hcs := HC.out W hW; go_simp; try rfl)); clear hK K))
            refine MJ.wpMix_nil ?_
            clear HJ HC hJ0 hJ8 HPU HM8 HX8 x60 x61 x62 x63 HM6 HX6
            clear J
            go_wp2_with fail
            go_ret
            have hgs := HGS.out
            rw [HFD.out] at hgs ⊢
            rw [HHD1.out] at HM9
            refine ⟨B, rfl, HM9.out.fin (s := ins5 (up5 s t) t ln k wv) HRP.out (fun l hl => ?_) ?_ hgs⟩
            · exact (row5_insR (p := p) (s := up5 s t) HAT.out.good.ll HAT.out.good.vl htp hl3 l).symm
            · exact view_insU (p := p) (s := up5 s t) HAT.out.good.vl htp hp
end Go.Proofs.Ythlmfjoiicnomaa
