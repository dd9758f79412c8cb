/-
  PROVED HERE: what spec.l5Done, l5Most, l5Can do. what spec.l5Choices, l5Outcome do. CONDITIONS: as each theorem states.
-/
import Derived.Test.YthlmfjoiicnomaaVm
namespace Go.Proofs.Ythlmfjoiicnomaa
open Go.RowKit
set_option linter.unusedVariables false
set_option linter.unusedSimpArgs false

theorem RdP.ins5At {w : World} {a : Option Addr} {p : Prg} (h : RdP w a p) {t k : Nat} {xs : List Ins} {x : Ins} (hp : p[t]? = some xs) (hx : xs[k]? = some x) :
    ∃ (pb po rb ro rc : Nat), a = some ⟨pb, po, none⟩ ∧ pb < w.heap.size ∧ rb < w.heap.size ∧ w.cell? ⟨pb, po + t, none⟩ = some (.slice (some ⟨rb, ro, none⟩) xs.length rc) ∧ InsAt w rb ro k x := by
  obtain ⟨pb, po, r, rc, xs', h1, h2, h3, h4, h5, _⟩ := h.at' t (List.getElem?_eq_some_iff.1 hp).1
  rw [hp] at h3
  cases h3
  obtain ⟨rb, ro, x', h6, h7, h8, h9⟩ := h5.ins k (List.getElem?_eq_some_iff.1 hx).1
  rw [hx] at h8
  cases h8
  subst h6
  exact ⟨pb, po, rb, ro, rc, h1, h2, h7, h4, h9⟩
/-- Where thread t's place stands. -/
theorem RdC.pcAt {w : World} {q : Sp} {y : Ly} {s : Vs} {p : Prg} (h : RdC w q y (ct s)) (hg : Good p s.st) {t : Nat} {xs : List Ins} (hx : p[t]? = some xs) :
    ∃ (b off k : Nat), q.a0 = some ⟨b, off, none⟩ ∧ b < w.heap.size ∧ s.st.pc[t]? = some (k : Int) ∧ k ≤ xs.length ∧ w.cell? ⟨b, off + t, none⟩ = some (.int .i64 k) := by
  obtain ⟨k, hk, hl⟩ := hg.pcb t xs hx
  have ht := (List.getElem?_eq_some_iff.1 hk).1
  obtain ⟨b, off, h1, h2, h3⟩ := h.intAt (dom0 _) (show 0 < s.st.pc.length by omega)
  rw [h.h0] at h1
  exact ⟨b, off, k, h1, h2, hk, hl, h3 t _ hk⟩
set_option maxHeartbeats 1600000 in
theorem l5Done_c (w : World) (a : Option Addr) (cap : Nat) (p : Prg) (q : Sp) (s : Vs) (hp : RdP w a p) (h : RdV w q s) (hv : Shape p) (hg : Good5 p s) :
    Calls Try.prog 38 #[.slice a p.length cap, q.v5 s] w fun e w' => e = .returned (.bool (done5 p s)) ∧ Below w.heap.size w w' := by
  obtain ⟨y, h⟩ := h
  obtain ⟨a0, c0, a1, c1, a2, c2, a3, c3⟩ := q
  obtain ⟨n, hn⟩ : ∃ n, n = p.length := ⟨_, rfl⟩
  obtain ⟨m, hm⟩ : ∃ m, m = s.st.pc.length := ⟨_, rfl⟩
  have HN := hid hn
  have hnm : m = n := by rw [hm, hn]; exact hg.good.pcl
  have HNM := hid hnm
  have hn3 : n ≤ 3 := by rw [hn]; exact hv.len
  have HNO := hid (fun t (h : goes p s.st t = true) (ht : t < n) => show done5 p s = false from by
    cases hd : done5 p s with
    | false => rfl
    | true => have := done5_iff.1 hd t (by omega); rw [h] at this; cases this)
  have HYES := hid (fun (h : ∀ t, t < n → goes p s.st t = false) => show done5 p s = true from done5_iff.2 fun t ht => h t (by omega))
  have HP := hid hp
  have HS := hid h
  have HG := hid hg
  unfold Sp.v5 Sp.hd5
  dsimp only
  rw [← hn, ← hm]
  clear hn hm hnm hp h hg hv
  go_enter Try.func38, Try.ntmps38
  go_wp2_with fail
  obtain ⟨w1, hw1⟩ : ∃ w1, w1 = w.alloc (.cells #[.slice a0 m c0, .slice a1 s.st.regs.length c1, .slice a2 s.view.length c2, .slice a3 s.list.length c3] 59) := ⟨_, rfl⟩
  rw [← hw1]
  have hb1 : Below w.heap.size w w1 := by rw [hw1]; exact (Below.refl _ _).alloc (Nat.le_refl _) _
  have hc1 : w1.cell? ⟨w.heap.size, 0, none⟩ = some (.slice a0 m c0) := by rw [hw1]; simp
  have HB1 := hid hb1
  have hlt1 : w.heap.size < w1.heap.size := by rw [hw1]; simp
  clear hb1 hw1
  go_loopw [5] (fun i wr => ∃ k : Nat, k ≤ n ∧ i = .int .i64 k ∧ Hid (∀ t, t < k → goes p s.st t = false) ∧ Hid (Below w1.heap.size w1 wr)) (fun i _ => n - (intOf i).toNat)
  case atStart => exact ⟨0, Nat.zero_le _, rfl, hid (fun t ht => by omega), hid (Below.refl _ _)⟩
  case round =>
    obtain ⟨k, hk, rfl, HK, HB⟩ := hrel
    have HBW := hid (HB1.out.trans (HB.out.mono (by omega)))
    by_cases hlt : k < n
    · obtain ⟨b, off, r, rc, xs, hab, hbl, hxs, hcell, _, _⟩ := HP.out.at' k (by rw [← HN.out]; exact hlt)
      subst hab
      obtain ⟨sb, so, j, hsa, hsl, hj, hjl, hsc⟩ := HS.out.pcAt HG.out.good hxs
      have hsa : a0 = some ⟨sb, so, none⟩ := hsa
      subst hsa
      have HGO := hid (goes_of hxs hj)
      have c1 := (HBW.out.cell (p := ⟨b, off + k, none⟩) hbl).trans hcell
      have c2 := (HBW.out.cell (p := ⟨sb, so + k, none⟩) hsl).trans hsc
      have c3 := (HB.out.cell (p := ⟨w.heap.size, 0, none⟩) hlt1).trans hc1
      have hkm : k < m := by rw [HNM.out]; exact hlt
      obtain ⟨l, hl⟩ : ∃ l, l = xs.length := ⟨_, rfl⟩
      rw [← hl] at c1 hjl HGO
      clear hcell hsc hxs hj hl hbl hsl
      by_cases hjl2 : j < l
      · rw [decide_eq_true hjl2] at HGO
        go_wp2_with fail
        refine wp_region_mix (by kernel_rfl) (by kernel_rfl) ?_
        go_wp2_with (first | (with_reducible refine wpMix_nil ?_) | (with_reducible refine wpMix_rd rfl rfl (fun K hK => ?_); go_simp; (try go_bits); refine hK _ ?_; clear hK K))
        go_ret
        exact ⟨ret_bool (HNO.out k HGO.out hlt).symm, below_drewN 1 HBW.out⟩
      · rw [decide_eq_false hjl2] at HGO
        have hjl3 : ¬ ((j : Int) < (l : Int)) := by omega
        go_wp2_with fail
        refine wp_region_mix (by kernel_rfl) (by kernel_rfl) ?_
        go_wp2_with (first | (with_reducible refine wpMix_nil ?_) | (with_reducible refine wpMix_rd rfl rfl (fun K hK => ?_); go_simp; (try go_bits); refine hK _ ?_; clear hK K))
        go_roundw
        case rel => exact ⟨k + 1, by omega, by go_num, hid (fun t ht => by
          by_cases e : t = k
          · rw [e]; exact HGO.out
          · exact HK.out t (by omega)), hid (below_drewN 1 HB.out)⟩
        case measure => simp [intOf]; omega
    · go_wp2
      go_ret
      exact ⟨ret_bool (HYES.out fun t ht => HK.out t (by omega)).symm, HBW.out⟩

/-- How many places there are above. -/
def mostTo (s : Vs) (k : Nat) : Nat := (s.list.take k).foldl mostR 1
theorem mostTo_succ {s : Vs} {k : Nat} {r : List Ms} (h : s.list[k]? = some r) : mostTo s (k + 1) = mostR (mostTo s k) r := by
  unfold mostTo
  rw [List.take_add_one, h, List.foldl_append]
  rfl
set_option maxHeartbeats 1600000 in
theorem l5Most_c (w : World) (q : Sp) (s : Vs) (p : Prg) (h : RdV w q s) (hv : Shape p) (hg : Good5 p s) :
    Calls Try.prog 69 #[q.v5 s] w fun e w' => e = .returned (.int .i64 (most5 s : Nat)) ∧ Below w.heap.size w w' := by
  obtain ⟨y, h⟩ := h
  obtain ⟨a0, c0, a1, c1, a2, c2, a3, c3⟩ := q
  have HS := hid h
  have hl3 := hg.ll
  have HR := hid (fun k (hk : k < 3) => hg.row hk)
  have HB24 := hid (fun k (hk : k < 3) => hg.rowlen hv hk)
  have HMT := hid (fun k => show mostTo s k ≤ 25 from foldl_le _ _ _ (by decide) fun r hr => Nat.lt_succ_of_le (hg.rlen hv (List.mem_of_mem_take hr)))
  have HF := hid (show most5 s = mostTo s 3 from by unfold most5 mostTo; rw [List.take_of_length_le (by rw [hl3]; exact Nat.le_refl _)])
  have HLEN := hid hl3
  unfold Sp.v5 Sp.hd5
  dsimp only
  rw [hl3]
  clear h hv hg hl3
  go_enter Try.func69, Try.ntmps69
  go_wp2_with fail
  obtain ⟨w1, hw1⟩ : ∃ w1, w1 = w.alloc (.cells #[.slice a0 s.st.pc.length c0, .slice a1 s.st.regs.length c1, .slice a2 s.view.length c2, .slice a3 3 c3] 59) := ⟨_, rfl⟩
  rw [← hw1]
  have hb1 : Below w.heap.size w w1 := by rw [hw1]; exact (Below.refl _ _).alloc (Nat.le_refl _) _
  have hc1 : w1.cell? ⟨w.heap.size, 3, none⟩ = some (.slice a3 3 c3) := by rw [hw1]; simp
  have HB1 := hid hb1
  clear hb1 hw1
  go_loop [3, 4] (fun n i => ∃ k : Nat, k ≤ 3 ∧ i = .int .i64 k ∧ n = .int .i64 (mostTo s k : Nat)) (fun n i => 3 - (intOf i).toNat)
  case atStart => exact ⟨0, by omega, rfl, rfl⟩
  case round =>
    obtain ⟨k, hk, rfl, rfl⟩ := hrel
    by_cases hlt : k < 3
    · obtain ⟨b, off, hab, hbl, hcell, _⟩ := HS.out.rowAt (l := k) (show k < s.list.length by rw [HLEN.out]; exact hlt)
      have hab : a3 = some ⟨b, off, none⟩ := hab
      subst hab
      have hcw := (HB1.out.cell (p := ⟨b, off + k, none⟩) hbl).trans hcell
      replace hcw : w1.cell? ⟨b, off + k, none⟩ = some (.slice (y.L k).1 (row5 s k).length (y.L k).2) := hcw
      have HST := hid (mostTo_succ (HR.out k hlt))
      have h24 := HB24.out k hlt
      have h25 := HMT.out k
      obtain ⟨N, hN⟩ : ∃ N, N = mostTo s k := ⟨_, rfl⟩
      obtain ⟨l, hl⟩ : ∃ l, l = (row5 s k).length := ⟨_, rfl⟩
      have HST2 := hid (show mostTo s (k + 1) = if N ≤ l then l + 1 else N from by rw [HST.out, hN, hl]; rfl)
      rw [← hN] at h25 ⊢
      rw [← hl] at hcw h24
      clear hcell hbl hl hN HST
      by_cases hle : N ≤ l
      · have hle' : (N : Int) ≤ (l : Int) := by omega
        rw [if_pos hle] at HST2
        go_wp2_with fail
        go_round
        case rel => exact ⟨k + 1, by omega, by go_num, by rw [HST2.out]; go_num⟩
        case measure => simp [intOf]; omega
      · have hle' : ¬ (N : Int) ≤ (l : Int) := by omega
        rw [if_neg hle] at HST2
        go_wp2_with fail
        go_round
        case rel => exact ⟨k + 1, by omega, by go_num, by rw [HST2.out]⟩
        case measure => simp [intOf]; omega
    · have HF2 := hid (show most5 s = mostTo s k from by rw [HF.out, show k = 3 by omega])
      have hk3 : ¬ (k : Int) < 3 := by omega
      go_wp2
      go_ret
      exact ⟨by rw [HF2.out]; rfl, HB1.out⟩
set_option maxRecDepth 100000 in
set_option maxHeartbeats 3200000 in
theorem l5Can_c (w : World) (a : Option Addr) (cap : Nat) (p : Prg) (q : Sp) (s : Vs) (t k : Nat) (hp : RdP w a p) (h : RdV w q s) (hv : Shape p) (hg : Good5 p s) (hk : k ≤ 9223372036854775807) :
    Calls Try.prog 67 #[.slice a p.length cap, q.v5 s, .int .i64 t, .int .i64 k] w fun e w' => e = .returned (.bool (can5 p s t k)) ∧ Below w.heap.size w w' := by
  obtain ⟨y, h⟩ := h
  obtain ⟨a0, c0, a1, c1, a2, c2, a3, c3⟩ := q
  obtain ⟨n, hn⟩ : ∃ n, n = p.length := ⟨_, rfl⟩
  have HN := hid hn
  have hn3 : n ≤ 3 := by rw [hn]; exact hv.len
  have HP := hid hp
  have HS := hid h
  have HG := hid hg
  have HV := hid hv
  have hvl : s.view.length = n := by rw [hn]; exact hg.vl
  have hll := hg.ll
  have hpl : s.st.pc.length = n := by rw [hn]; exact hg.good.pcl
  unfold Sp.v5 Sp.hd5
  dsimp only
  rw [← hn, hvl, hll, hpl]
  have HLS := hid (And.intro hvl (And.intro hll hpl))
  have HB1 := hid ((Below.refl w.heap.size w).alloc (Nat.le_refl _) (.cells #[.slice a0 n c0, .slice a1 s.st.regs.length c1, .slice a2 n c2, .slice a3 3 c3] 59))
  clear hn hp h hg hv hvl hll hpl
  have d0 : decide ((t : Int) < 0) = false := decide_eq_false (by omega)
  have d9 : decide ((k : Int) < 0) = false := decide_eq_false (by omega)
  by_cases htn : t < n
  · have d1 : decide (n ≤ t) = false := decide_eq_false (by omega)
    obtain ⟨xs, hxs⟩ : ∃ xs, p[t]? = some xs := ⟨_, List.getElem?_eq_getElem (by rw [← HN.out]; exact htn)⟩
    obtain ⟨sb, so, j, hsa, hsl, hj, hjl, hsc⟩ := HS.out.pcAt HG.out.good hxs
    have hsa : a0 = some ⟨sb, so, none⟩ := hsa
    subst hsa
    have HGO := hid (goes_of hxs hj)
    obtain ⟨z, hz⟩ : ∃ z, z = xs.length := ⟨_, rfl⟩
    rw [← hz] at hjl HGO
    by_cases hjz : j < z
    · rw [decide_eq_true hjz] at HGO
      have d3 : ((j : Int) == (z : Int)) = false := by simp; omega
      obtain ⟨x, hx⟩ : ∃ x, xs[j]? = some x := ⟨_, List.getElem?_eq_getElem (by omega)⟩
      obtain ⟨pb, po, rb, ro, rc, hpa, hpl', hrl, hpc, hins⟩ := HP.out.ins5At hxs hx
      subst hpa
      rw [← hz] at hpc
      have HNX := hid (nxt_of hxs hj hx)
      have hiv := HV.out.ins t xs hxs j x hx
      obtain ⟨ln, hln, hl2⟩ := valid_loc hiv
      have hop := valid_op hiv
      have HR := hid (show can5 p s t k = fits5 s t x k from by unfold can5; rw [HGO.out, HNX.out, Bool.true_and])
      rw [HR.out]
      obtain ⟨vn, hvn, hvn2, hvn3⟩ := HG.out.seen (t := t) (l := ln) (by rw [← HN.out]; exact htn) (by omega)
      have hpos := (HG.out.rpos (l := ln) (by omega)).1
      obtain ⟨vb, vo, rv, rvo, rvc, hva, hvlt, hvc, _, _, hrvl, hrx⟩ := HS.out.viewAt (t := t) (show t < s.view.length by rw [HLS.out.1]; exact htn)
      have hva : a2 = some ⟨vb, vo, none⟩ := hva
      subst hva
      obtain ⟨lb, lo, hla, hllt, hlc, hlcap⟩ := HS.out.rowAt (l := ln) (show ln < s.list.length by rw [HLS.out.2.1]; omega)
      have hla : a3 = some ⟨lb, lo, none⟩ := hla
      subst hla
      obtain ⟨mb, mo, _, _, hma, hmlt, _⟩ := HS.out.msgAt (l := ln) (k := 0) (show ln < s.list.length by rw [HLS.out.2.1]; omega) hpos
      have hlk : ∀ i, i < (row5 s ln).length → w.cell? ⟨mb, mo + i * 3 + 1, none⟩ = some (.bool ((row5 s ln).getD i msZ).lock) := fun i hi => by
        obtain ⟨r, ro, _, _, e, _, _, h1, _⟩ := HS.out.msgAt (l := ln) (k := i) (show ln < s.list.length by rw [HLS.out.2.1]; omega) hi
        rw [hma] at e
        have e := Option.some.inj e
        have e1 : mb = r := congrArg Addr.block e
        have e2 : mo = ro := congrArg Addr.off e
        subst e1 e2
        exact h1
      have hvx := hrx ln _ hvn2
      replace hlc : w.cell? ⟨lb, lo + ln, none⟩ = some (.slice (y.L ln).1 (row5 s ln).length (y.L ln).2) := hlc
      rw [hma] at hlc
      obtain ⟨mc, hmc⟩ : ∃ mc, mc = (y.L ln).2 := ⟨_, rfl⟩
      rw [← hmc] at hlc
      have HFT := hid (show fits5 s t x k = if x.op = 4 then k == 0 else if x.op = 1 then decide ((vn : Int) ≤ (k : Int)) && decide (k < (row5 s ln).length) else if x.op = 5 then decide ((vn : Int) ≤ (k : Int)) && decide (k < (row5 s ln).length) && !((row5 s ln).getD k msZ).lock else decide ((vn : Int) < (k : Int)) && decide (k ≤ (row5 s ln).length) && !((row5 s ln).getD (k - 1) msZ).lock from by
        unfold fits5
        rw [hln, Int.toNat_natCast, hvn])
      obtain ⟨N, hN⟩ : ∃ N, N = (row5 s ln).length := ⟨_, rfl⟩
      rw [← hN] at hlc HFT hvn3 hpos hlk
      have hN24 : N ≤ 24 := by rw [hN]; exact HG.out.rowlen HV.out (by omega)
      obtain ⟨op, loc, reg, val⟩ := x
      have hln : loc = ln := hln
      subst hln
      have hop : 1 ≤ op ∧ op ≤ 5 := hop
      have htq : t < n := htn
      have HJ0 := hid (And.intro hsl (And.intro hpl' (And.intro hrl (And.intro hvlt (And.intro hrvl (And.intro hllt hmlt))))))
      have HK0 := hid (And.intro hsc (And.intro hpc (And.intro hins (And.intro hvc (And.intro hvx (And.intro hlc hlk))))))
      obtain ⟨R, hR⟩ : ∃ R, R = fits5 s t ⟨op, ln, reg, val⟩ k := ⟨_, rfl⟩
      have HFR := hid (hR.trans HFT.out)
      rw [← hR]
      dsimp only at HFR
      clear hR
      clear hsl hpl' hrl hvlt hrvl hllt hmlt hsc hpc hins hvc hvx hlc hlk hxs hj hx hvn2 hvn hrx hma hmc hlcap hiv hz hN hln HFT HR HGO HNX
      obtain ⟨w1, hw1⟩ : ∃ w1, w1 = w.alloc (.cells #[.slice (some ⟨sb, so, none⟩) n c0, .slice a1 s.st.regs.length c1, .slice (some ⟨vb, vo, none⟩) n c2, .slice (some ⟨lb, lo, none⟩) 3 c3] 59) := ⟨_, rfl⟩
      rw [← hw1] at HB1
      have hs1 : w1.heap.size = w.heap.size + 1 := by rw [hw1]; simp
      have HBC := hid (show w1.cell? ⟨w.heap.size, 0, none⟩ = some (.slice (some ⟨sb, so, none⟩) n c0) ∧ w1.cell? ⟨w.heap.size, 2, none⟩ = some (.slice (some ⟨vb, vo, none⟩) n c2) ∧ w1.cell? ⟨w.heap.size, 3, none⟩ = some (.slice (some ⟨lb, lo, none⟩) 3 c3) by rw [hw1]; simp)
      have HALL := hid (fun w' (h : Below w1.heap.size w1 w') => show (w'.cell? ⟨w.heap.size, 0, none⟩ = some (.slice (some ⟨sb, so, none⟩) n c0) ∧ w'.cell? ⟨w.heap.size, 2, none⟩ = some (.slice (some ⟨vb, vo, none⟩) n c2) ∧ w'.cell? ⟨w.heap.size, 3, none⟩ = some (.slice (some ⟨lb, lo, none⟩) 3 c3)) ∧ w'.cell? ⟨pb, po + t, none⟩ = some (.slice (some ⟨rb, ro, none⟩) z rc) ∧ w'.cell? ⟨sb, so + t, none⟩ = some (.int .i64 j) ∧ (w'.cell? ⟨rb, ro + j * 4, none⟩ = some (.int .i64 op) ∧ w'.cell? ⟨rb, ro + j * 4 + 1, none⟩ = some (.int .i64 ln) ∧ w'.cell? ⟨rb, ro + j * 4 + 2, none⟩ = some (.int .i64 reg) ∧ w'.cell? ⟨rb, ro + j * 4 + 3, none⟩ = some (.int .i64 val)) ∧ (w'.cell? ⟨vb, vo + t, none⟩ = some (.slice (some ⟨rv, rvo, none⟩) 3 rvc) ∧ w'.cell? ⟨rv, rvo + ln, none⟩ = some (.int .i64 vn)) ∧ w'.cell? ⟨lb, lo + ln, none⟩ = some (.slice (some ⟨mb, mo, none⟩) N mc) ∧ ∀ i, i < N → w'.cell? ⟨mb, mo + i * 3 + 1, none⟩ = some (.bool ((row5 s ln).getD i msZ).lock) from by
        have hb : Below w.heap.size w w' := HB1.out.trans (h.mono (by omega))
        have hx := fun (i : Nat) v (hi : w1.cell? ⟨w.heap.size, i, none⟩ = some v) => (h.cell (p := ⟨w.heap.size, i, none⟩) (by show w.heap.size < _; omega)).trans hi
        exact ⟨⟨hx 0 _ HBC.out.1, hx 2 _ HBC.out.2.1, hx 3 _ HBC.out.2.2⟩, (hb.cell (p := ⟨pb, po + t, none⟩) HJ0.out.2.1).trans HK0.out.2.1, (hb.cell (p := ⟨sb, so + t, none⟩) HJ0.out.1).trans HK0.out.1, HK0.out.2.2.1.below hb HJ0.out.2.2.1, ⟨(hb.cell (p := ⟨vb, vo + t, none⟩) HJ0.out.2.2.2.1).trans HK0.out.2.2.2.1, (hb.cell (p := ⟨rv, rvo + ln, none⟩) HJ0.out.2.2.2.2.1).trans HK0.out.2.2.2.2.1⟩, (hb.cell (p := ⟨lb, lo + ln, none⟩) HJ0.out.2.2.2.2.2.1).trans HK0.out.2.2.2.2.2.1, fun i hi => (hb.cell (p := ⟨mb, mo + i * 3 + 1, none⟩) HJ0.out.2.2.2.2.2.2).trans (HK0.out.2.2.2.2.2.2 i hi)⟩)
      clear HS HG
      obtain ⟨J, hJ⟩ : ∃ J : World → Prop, J = fun w' => Below w1.heap.size w1 w' := ⟨_, rfl⟩
      have HJ := hid (fun w' (h : Below w1.heap.size w1 w') => show J w' by rw [hJ]; exact h)
      have HC := hid (fun w' (h : J w') => show (w'.cell? ⟨w.heap.size, 0, none⟩ = some (.slice (some ⟨sb, so, none⟩) n c0) ∧ w'.cell? ⟨w.heap.size, 2, none⟩ = some (.slice (some ⟨vb, vo, none⟩) n c2) ∧ w'.cell? ⟨w.heap.size, 3, none⟩ = some (.slice (some ⟨lb, lo, none⟩) 3 c3)) ∧ w'.cell? ⟨pb, po + t, none⟩ = some (.slice (some ⟨rb, ro, none⟩) z rc) ∧ w'.cell? ⟨sb, so + t, none⟩ = some (.int .i64 j) ∧ (w'.cell? ⟨rb, ro + j * 4, none⟩ = some (.int .i64 op) ∧ w'.cell? ⟨rb, ro + j * 4 + 1, none⟩ = some (.int .i64 ln) ∧ w'.cell? ⟨rb, ro + j * 4 + 2, none⟩ = some (.int .i64 reg) ∧ w'.cell? ⟨rb, ro + j * 4 + 3, none⟩ = some (.int .i64 val)) ∧ (w'.cell? ⟨vb, vo + t, none⟩ = some (.slice (some ⟨rv, rvo, none⟩) 3 rvc) ∧ w'.cell? ⟨rv, rvo + ln, none⟩ = some (.int .i64 vn)) ∧ w'.cell? ⟨lb, lo + ln, none⟩ = some (.slice (some ⟨mb, mo, none⟩) N mc) ∧ ∀ i, i < N → w'.cell? ⟨mb, mo + i * 3 + 1, none⟩ = some (.bool ((row5 s ln).getD i msZ).lock) from by rw [hJ] at h; exact HALL.out w' h)
      clear hJ
      have hA := HALL.out w1 (Below.refl _ _)
      obtain ⟨⟨e0, e2, e3⟩, e4, e5, _⟩ := hA
      go_enter Try.func67, Try.ntmps67
      go_wp2_with fail
      rw [← hw1]
      clear hw1
      go_quiet (fail)
      go_wp2_with fail
      have hbw : Below w1.heap.size w1 (w1.drewN nq) := below_drewN nq (Below.refl _ _)
      obtain ⟨w2, hw2⟩ : ∃ w2, w2 = w1.drewN nq := ⟨_, rfl⟩
      rw [← hw2] at hbw ⊢
      have hs2 : w2.heap.size = w1.heap.size := by rw [hw2]; rfl
      clear hw2 e0 e2 e3 e4 e5
      have hJ0 : J w2.drew := HJ.out _ (below_drewN 1 hbw)
      have hJ1 : J ((w2.alloc (.cells #[.int .i64 0, .int .i64 0, .int .i64 0, .int .i64 0] 70)).drew) := HJ.out _ (below_drewN 1 (hbw.alloc (by omega) _))
      refine MJ.wp_region_mix (J := J) (by kernel_rfl) (by kernel_rfl) ?_
      repeat (first | (refine MJ.wpMix_pure rfl rfl (fun K hK => ?_); go_simp; (first | refine hK _ ?_ | refine ⟨_, fun W hW => rfl, hK _ ?_⟩ | refine ⟨_, fun W hW => ⟨rfl, rfl⟩, hK _ ?_⟩); clear hK K) | (refine MJ.wpMix_held rfl rfl (by assumption) (fun K hK => ?_); go_simp; apply Exists.intro; refine And.intro (fun W hW => ?_) (hK _ ?_); (focus (have hcs := HC.out W hW; go_simp; try rfl)); clear hK K))
      (with_reducible refine MJ.wpMix_make rfl rfl (fun K hK => ?_); go_simp)
      refine hK _ _ (by assumption) ?_
      clear hK K
      (with_reducible refine MJ.wpMix_act rfl rfl rfl (fun K hK => ?_); go_simp)
      refine hK _ _ ?_
      clear hK K
      refine MJ.wpMix_nil ?_
      have hx3 : Box (w2.alloc (.cells #[.int .i64 op, .int .i64 ln, .int .i64 reg, .int .i64 val] 70)).drew w2.heap.size ⟨op, ln, reg, val⟩ := Box.new w2 ⟨op, ln, reg, val⟩ _
      have hb3 : Below w1.heap.size w1 (w2.alloc (.cells #[.int .i64 op, .int .i64 ln, .int .i64 reg, .int .i64 val] 70)).drew := below_drewN 1 (hbw.alloc (by omega) _)
      have x3 := Box.four hx3
      rw [hs2, hs1] at x3
      have HB3 := hid (HB1.out.trans (hb3.mono (by omega)))
      have hA := HALL.out _ hb3
      obtain ⟨w3, hw3⟩ : ∃ w3, w3 = (w2.alloc (.cells #[.int .i64 op, .int .i64 ln, .int .i64 reg, .int .i64 val] 70)).drew := ⟨_, rfl⟩
      rw [← hw3] at x3 HB3 hA ⊢
      obtain ⟨⟨e0, e2, e3⟩, _, _, _, ⟨e5, e6⟩, e7, e8⟩ := hA
      have hln3 : (ln : Int) < 3 := by omega
      clear hx3 hb3 hw3 hJ0 hJ1 HJ HC hbw
      have hcase : op = 1 ∨ op = 2 ∨ op = 3 ∨ op = 4 ∨ op = 5 := by omega
      rcases hcase with rfl | rfl | rfl | rfl | rfl
      · have HF := hid (show R = (decide (vn ≤ k) && decide (k < N)) from HFR.out.trans (by simp))
        clear e8
        by_cases b1 : vn ≤ k
        · have b1' : decide (vn ≤ k) = true := decide_eq_true b1
          have b2 : decide ((vn : Int) ≤ (k : Int)) = true := decide_eq_true (by omega)
          by_cases b3 : k < N
          · have b3' : decide (k < N) = true := decide_eq_true b3
            go_wp2_with fail
            go_quiet (fail)
            go_wp2
            go_ret
            exact ⟨ret_bool (by rw [HF.out, b1', b3']; rfl), below_drewN _ HB3.out⟩
          · have b3' : decide (k < N) = false := decide_eq_false b3
            go_wp2_with fail
            go_quiet (fail)
            go_wp2
            go_ret
            exact ⟨ret_bool (by rw [HF.out, b1', b3']; rfl), below_drewN _ HB3.out⟩
        · have b1' : decide (vn ≤ k) = false := decide_eq_false b1
          have b2 : decide ((vn : Int) ≤ (k : Int)) = false := decide_eq_false (by omega)
          go_wp2_with fail
          go_quiet (fail)
          go_wp2
          go_ret
          exact ⟨ret_bool (by rw [HF.out, b1']; rfl), below_drewN _ HB3.out⟩
      · have HF := hid (show R = (decide (vn < k) && decide (k ≤ N) && !((row5 s ln).getD (k - 1) msZ).lock) from HFR.out.trans (by simp))
        by_cases b1 : vn < k
        · have b1' : decide (vn < k) = true := decide_eq_true b1
          by_cases b3 : k ≤ N
          · have b3' : decide (k ≤ N) = true := decide_eq_true b3
            obtain ⟨k1, rfl⟩ : ∃ k1, k = k1 + 1 := ⟨k - 1, by omega⟩
            have e9 := e8 k1 (by omega)
            rw [show (row5 s ln).getD k1 msZ = (row5 s ln).getD (k1 + 1 - 1) msZ by rw [Nat.add_sub_cancel]] at e9
            have hk1 : (k1 : Int) < (N : Int) := by omega
            have b2 : decide ((vn : Int) < (k1 : Int) + 1) = true := decide_eq_true (by omega)
            have b4 : decide ((k1 : Int) + 1 ≤ (N : Int)) = true := decide_eq_true (by omega)
            obtain ⟨B, hB⟩ : ∃ B, B = ((row5 s ln).getD (k1 + 1 - 1) msZ).lock := ⟨_, rfl⟩
            have HBB := hid hB
            rw [← hB] at e9
            clear hB e8
            go_wp2_with fail
            go_quiet (fail)
            go_wp2
            go_ret
            exact ⟨ret_bool (by rw [HF.out, b1', b3', ← HBB.out]; cases B <;> rfl), below_drewN _ HB3.out⟩
          · have b3' : decide (k ≤ N) = false := decide_eq_false b3
            have b2 : decide ((vn : Int) < (k : Int)) = true := decide_eq_true (by omega)
            clear e8
            go_wp2_with fail
            go_quiet (fail)
            go_wp2
            go_ret
            exact ⟨ret_bool (by rw [HF.out, b1', b3']; rfl), below_drewN _ HB3.out⟩
        · have b1' : decide (vn < k) = false := decide_eq_false b1
          have b2 : decide ((vn : Int) < (k : Int)) = false := decide_eq_false (by omega)
          clear e8
          go_wp2_with fail
          go_quiet (fail)
          go_wp2
          go_ret
          exact ⟨ret_bool (by rw [HF.out, b1']; rfl), below_drewN _ HB3.out⟩
      · have HF := hid (show R = (decide (vn < k) && decide (k ≤ N) && !((row5 s ln).getD (k - 1) msZ).lock) from HFR.out.trans (by simp))
        by_cases b1 : vn < k
        · have b1' : decide (vn < k) = true := decide_eq_true b1
          by_cases b3 : k ≤ N
          · have b3' : decide (k ≤ N) = true := decide_eq_true b3
            obtain ⟨k1, rfl⟩ : ∃ k1, k = k1 + 1 := ⟨k - 1, by omega⟩
            have e9 := e8 k1 (by omega)
            rw [show (row5 s ln).getD k1 msZ = (row5 s ln).getD (k1 + 1 - 1) msZ by rw [Nat.add_sub_cancel]] at e9
            have hk1 : (k1 : Int) < (N : Int) := by omega
            have b2 : decide ((vn : Int) < (k1 : Int) + 1) = true := decide_eq_true (by omega)
            have b4 : decide ((k1 : Int) + 1 ≤ (N : Int)) = true := decide_eq_true (by omega)
            obtain ⟨B, hB⟩ : ∃ B, B = ((row5 s ln).getD (k1 + 1 - 1) msZ).lock := ⟨_, rfl⟩
            have HBB := hid hB
            rw [← hB] at e9
            clear hB e8
            go_wp2_with fail
            go_quiet (fail)
            go_wp2
            go_ret
            exact ⟨ret_bool (by rw [HF.out, b1', b3', ← HBB.out]; cases B <;> rfl), below_drewN _ HB3.out⟩
          · have b3' : decide (k ≤ N) = false := decide_eq_false b3
            have b2 : decide ((vn : Int) < (k : Int)) = true := decide_eq_true (by omega)
            clear e8
            go_wp2_with fail
            go_quiet (fail)
            go_wp2
            go_ret
            exact ⟨ret_bool (by rw [HF.out, b1', b3']; rfl), below_drewN _ HB3.out⟩
        · have b1' : decide (vn < k) = false := decide_eq_false b1
          have b2 : decide ((vn : Int) < (k : Int)) = false := decide_eq_false (by omega)
          clear e8
          go_wp2_with fail
          go_quiet (fail)
          go_wp2
          go_ret
          exact ⟨ret_bool (by rw [HF.out, b1']; rfl), below_drewN _ HB3.out⟩
      · have HF := hid (show R = (k == 0) from HFR.out.trans (by simp))
        clear e8
        by_cases b1 : k = 0
        · subst b1
          go_wp2
          go_ret
          exact ⟨ret_bool (by rw [HF.out]; rfl), HB3.out⟩
        · have b1' : ((k : Int) == 0) = false := by simp; omega
          have b2 : (k == 0) = false := by simpa using b1
          go_wp2
          go_ret
          exact ⟨ret_bool (by rw [HF.out, b2]), HB3.out⟩
      · have HF := hid (show R = (decide (vn ≤ k) && decide (k < N) && !((row5 s ln).getD k msZ).lock) from HFR.out.trans (by simp))
        by_cases b1 : vn ≤ k
        · have b1' : decide (vn ≤ k) = true := decide_eq_true b1
          by_cases b3 : k < N
          · have b3' : decide (k < N) = true := decide_eq_true b3
            have e9 := e8 k b3
            have hk1 : (k : Int) < (N : Int) := by omega
            obtain ⟨B, hB⟩ : ∃ B, B = ((row5 s ln).getD k msZ).lock := ⟨_, rfl⟩
            have HBB := hid hB
            rw [← hB] at e9
            clear hB e8
            go_wp2_with fail
            go_quiet (fail)
            go_wp2
            go_ret
            exact ⟨ret_bool (by rw [HF.out, b1', b3', ← HBB.out]; cases B <;> rfl), below_drewN _ HB3.out⟩
          · have b3' : decide (k < N) = false := decide_eq_false b3
            clear e8
            go_wp2_with fail
            go_quiet (fail)
            go_wp2
            go_ret
            exact ⟨ret_bool (by rw [HF.out, b1', b3']; rfl), below_drewN _ HB3.out⟩
        · have b1' : decide (vn ≤ k) = false := decide_eq_false b1
          clear e8
          go_wp2_with fail
          go_quiet (fail)
          go_wp2
          go_ret
          exact ⟨ret_bool (by rw [HF.out, b1']; rfl), below_drewN _ HB3.out⟩
    · rw [decide_eq_false hjz] at HGO
      have d3 : ((j : Int) == (z : Int)) = true := by simp; omega
      have HR := hid (show can5 p s t k = false from by unfold can5; rw [HGO.out, Bool.false_and])
      rw [HR.out]
      obtain ⟨pb, po, r, rc, xs', hpa, hpl', hxs', hpc, _, _⟩ := HP.out.at' t (by rw [← HN.out]; exact htn)
      subst hpa
      obtain rfl : xs = xs' := by rw [hxs] at hxs'; exact Option.some.inj hxs'
      rw [← hz] at hpc
      have hcp := (HB1.out.cell (p := ⟨pb, po + t, none⟩) hpl').trans hpc
      have hcs := (HB1.out.cell (p := ⟨sb, so + t, none⟩) hsl).trans hsc
      have htq : t < n := htn
      clear hsc hxs hj hz hpc hxs' hsl hpl'
      go_enter Try.func67, Try.ntmps67
      go_wp2_with fail
      go_quiet (fail)
      go_wp2
      go_ret
      exact ⟨rfl, below_drewN _ HB1.out⟩
  · have d1 : decide (n ≤ t) = true := decide_eq_true (by omega)
    have HR := hid (show can5 p s t k = false from by
      unfold can5
      cases hgo : goes p s.st t with
      | false => rfl
      | true =>
        exfalso
        obtain ⟨_, _, _, hp, _⟩ := HG.out.good.next HV.out hgo
        have := (List.getElem?_eq_some_iff.1 hp).1
        have := HN.out
        omega)
    rw [HR.out]
    go_enter Try.func67, Try.ntmps67
    go_wp2_with fail
    go_quiet (fail)
    go_wp2
    go_ret
    exact ⟨rfl, below_drewN _ HB1.out⟩
end Go.Proofs.Ythlmfjoiicnomaa
namespace Go.Proofs.Ythlmfjoiicnomaa
open Go.RowKit
set_option linter.unusedVariables false
set_option linter.unusedSimpArgs false

def choTo (p : Prg) (s : Vs) (k : Nat) : List Int := ((List.range k).filter fun c => can5 p s (c % 3) (c / 3)).map fun (c : Nat) => (c : Int)
theorem choTo_succ (p : Prg) (s : Vs) (k : Nat) : choTo p s (k + 1) = choTo p s k ++ if can5 p s (k % 3) (k / 3) then [(k : Int)] else [] := by
  unfold choTo
  rw [List.range_succ, List.filter_append, List.map_append]
  congr 1
  by_cases h : can5 p s (k % 3) (k / 3) = true
  · simp [h]
  · simp [h]
theorem choTo_len (p : Prg) (s : Vs) (k : Nat) : (choTo p s k).length ≤ k := by
  unfold choTo
  rw [List.length_map]
  exact Nat.le_trans (List.length_filter_le _ _) (Nat.le_of_eq List.length_range)
theorem own_casV {w : World} {base e size n n' : Nat} {v : Value} {cs cs' : List Value} (h : w.ownsRow base e size v n cs) (hn : n' = n) (hc : cs' = cs) : w.ownsRow base e size v n' cs' := by
  subst hn hc
  exact h
theorem rd_oneV (w : World) (x : Int) (e : TypeId) : Rd (w.alloc (.cells #[.int .i64 x] e)) (some ⟨w.heap.size, 0, none⟩) [.int .i64 x] :=
  .inr ⟨_, 0, rfl, by simp, fun j u hj => by
    rw [Nat.zero_add, cell_of_row _ _ j _ _ _ (heap_alloc_new w _)]
    match j, hj with
    | 0, hj => simpa using hj
    | j + 1, hj => simp at hj⟩
set_option maxRecDepth 100000 in
set_option maxHeartbeats 3200000 in
theorem l5Choices_c (w : World) (a : Option Addr) (cap : Nat) (p : Prg) (q : Sp) (s : Vs) (hp : RdP w a p) (h : RdV w q s) (hv : Shape p) (hg : Good5 p s) :
    Calls Try.prog 41 #[.slice a p.length cap, q.v5 s] w (RetL w (moves5 p s)) := by
  have HMO := hid (fun w (h : RdV w q s) => l5Most_c w q s p h hv hg)
  have HCA := hid (fun w t k (hp : RdP w a p) (h : RdV w q s) (hk : k ≤ 9223372036854775807) => l5Can_c w a cap p q s t k hp h hv hg hk)
  have HP := hid hp
  have HS := hid h
  have hm25 := hg.most_le hv
  have HMV := hid (show moves5 p s = choTo p s (3 * most5 s) from rfl)
  obtain ⟨M, hM⟩ : ∃ M, M = most5 s := ⟨_, rfl⟩
  rw [← hM] at HMO hm25 HMV
  rw [HMV.out]
  obtain ⟨a0, c0, a1, c1, a2, c2, a3, c3⟩ := q
  unfold Sp.v5 Sp.hd5 at HMO HCA ⊢
  dsimp only at HMO HCA ⊢
  obtain ⟨n0, hn0⟩ : ∃ n, n = s.st.pc.length := ⟨_, rfl⟩
  obtain ⟨n1, hn1⟩ : ∃ n, n = s.st.regs.length := ⟨_, rfl⟩
  obtain ⟨n2, hn2⟩ : ∃ n, n = s.view.length := ⟨_, rfl⟩
  obtain ⟨n3, hn3⟩ : ∃ n, n = s.list.length := ⟨_, rfl⟩
  obtain ⟨n, hn⟩ : ∃ n, n = p.length := ⟨_, rfl⟩
  rw [← hn0, ← hn1, ← hn2, ← hn3] at HMO HCA
  rw [← hn0, ← hn1, ← hn2, ← hn3, ← hn]
  rw [← hn] at HCA
  clear hn0 hn1 hn2 hn3 hn hM hp h hv hg HMV
  have HB0 := hid (((Below.refl w.heap.size w).alloc (Nat.le_refl _) (.cells #[.slice a0 n0 c0, .slice a1 n1 c1, .slice a2 n2 c2, .slice a3 n3 c3] 59)).alloc (by simp) (.cells #[] 3))
  have HO0 := hid (own_lit0 (w.alloc (.cells #[.slice a0 n0 c0, .slice a1 n1 c1, .slice a2 n2 c2, .slice a3 n3 c3] 59)) w.heap.size 3 1 (by simp))
  obtain ⟨w1, hw1⟩ : ∃ w1, w1 = (w.alloc (.cells #[.slice a0 n0 c0, .slice a1 n1 c1, .slice a2 n2 c2, .slice a3 n3 c3] 59)).alloc (.cells #[] 3) := ⟨_, rfl⟩
  rw [← hw1, World.size_alloc] at HO0
  rw [← hw1] at HB0
  have hs1 : w1.heap.size = w.heap.size + 2 := by rw [hw1]; simp
  have HBX := hid (show w1.heap[w.heap.size]? = some (.cells #[.slice a0 n0 c0, .slice a1 n1 c1, .slice a2 n2 c2, .slice a3 n3 c3] 59 (0, 0)) from by
    rw [hw1, heap_alloc_old _ _ (by simp)]
    exact heap_alloc_new w _)
  go_enter Try.func41, Try.ntmps41
  go_wp2_with fail
  rw [← hw1]
  clear hw1
  go_loopw [5, 6] (fun v i wr => ∃ k : Nat, k ≤ 3 * M ∧ i = .int .i64 k ∧ Hid (wr.ownsRow w.heap.size 3 1 v (choTo p s k).length (ints (choTo p s k))) ∧ Hid (Below w.heap.size w wr) ∧ Hid (wr.heap[w.heap.size]? = some (.cells #[.slice a0 n0 c0, .slice a1 n1 c1, .slice a2 n2 c2, .slice a3 n3 c3] 59 (0, 0)))) (fun _ i _ => 3 * M - (intOf i).toNat)
  case atStart => exact ⟨0, Nat.zero_le _, rfl, hid HO0.out, HB0, HBX⟩
  case round =>
    obtain ⟨k, hk, rfl, HO, HB, HX⟩ := hrel
    have x0 := cell_of_row wr w.heap.size 0 _ _ _ HX.out
    have x1 := cell_of_row wr w.heap.size 1 _ _ _ HX.out
    have x2 := cell_of_row wr w.heap.size 2 _ _ _ HX.out
    have x3 := cell_of_row wr w.heap.size 3 _ _ _ HX.out
    have HM1 := hid (HMO.out wr (HS.out.below HB.out))
    go_wp2_with fail
    refine HM1.out.mono ?_
    rintro e w2 ⟨rfl, hb2⟩
    have HO2 := hid (own_below HO.out hb2)
    have hlt0 : w.heap.size < wr.heap.size := (Array.getElem?_eq_some_iff.1 HX.out).1
    have HX2 := hid ((hb2.block _ hlt0).trans HX.out)
    have HB2 := hid (HB.out.trans (hb2.mono HB.out.size))
    clear x0 x1 x2 x3 HO HB HX hb2 HM1
    have x0 := cell_of_row w2 w.heap.size 0 _ _ _ HX2.out
    have x1 := cell_of_row w2 w.heap.size 1 _ _ _ HX2.out
    have x2 := cell_of_row w2 w.heap.size 2 _ _ _ HX2.out
    have x3 := cell_of_row w2 w.heap.size 3 _ _ _ HX2.out
    by_cases hlt : k < 3 * M
    · have HSK := hid (choTo_succ p s k)
      have e3 : ((k % 3 : Nat) : Int) = (k : Int) % 3 := by omega
      have e4 : ((k / 3 : Nat) : Int) = (k : Int) / 3 := by omega
      have HC3 := hid (HCA.out w2 (k % 3) (k / 3) (HP.out.below HB2.out) (HS.out.below HB2.out) (by omega))
      rw [e3, e4] at HC3
      obtain ⟨B, hB⟩ : ∃ B, B = can5 p s (k % 3) (k / 3) := ⟨_, rfl⟩
      rw [← hB] at HC3 HSK
      have hlt' : (k : Int) < 3 * (M : Int) := by omega
      have hcl := choTo_len p s k
      clear hB e3 e4
      go_wp2_with fail
      refine HC3.out.mono ?_
      rintro e w4 ⟨rfl, hb4⟩
      have HO4 := hid (own_below HO2.out hb4)
      have hlt2 : w.heap.size < w2.heap.size := (Array.getElem?_eq_some_iff.1 HX2.out).1
      have HX4 := hid ((hb4.block _ hlt2).trans HX2.out)
      have HB4 := hid (HB2.out.trans (hb4.mono HB2.out.size))
      clear x0 x1 x2 x3 HO2 HB2 HX2 hb4 HC3
      cases B
      · rw [if_neg (by decide), List.append_nil] at HSK
        go_wp2_with fail
        go_roundw
        case rel => exact ⟨k + 1, by omega, by go_num, hid (by rw [HSK.out]; exact HO4.out), HB4, HX4⟩
        case measure => simp [intOf]; omega
      · rw [if_pos rfl] at HSK
        have HL := hid (show (choTo p s (k + 1)).length = (choTo p s k).length + 1 from by rw [HSK.out, List.length_append]; rfl)
        have hb5 : Below w4.heap.size w4 (w4.alloc (.cells #[.int .i64 (k : Int)] 3)) := (Below.refl _ _).alloc (Nat.le_refl _) _
        have HO5 := hid (own_below HO4.out hb5)
        have hs4 := HB4.out.size
        have HB5 := hid (HB4.out.trans (hb5.mono hs4))
        have hlt4 : w.heap.size < w4.heap.size := (Array.getElem?_eq_some_iff.1 HX4.out).1
        have HX5 := hid ((hb5.block _ hlt4).trans HX4.out)
        clear hb5
        go_wp2_with (at_builtin; refine wpList_append_rd rfl (.tmp 22) (.tmp 24) 24 rfl w.heap.size 3 (.int .i64 0) 1 8 Try.underlying24 Try.info_int rfl (by decide) _ _ _ rfl HO5.out _ 1 1 [.int .i64 (k : Int)] rfl (rd_oneV w4 _ _) rfl (by simp [Value.oneCell']) (by omega) (by decide) (by simp; omega) ?_)
        intro v6 w6 hown6 hgrow6 _
        have hown7 : w6.ownsRow w.heap.size 3 1 v6 (choTo p s (k + 1)).length (ints (choTo p s (k + 1))) := by
          rw [HL.out, HSK.out]
          have e : ints (choTo p s k ++ [(k : Int)]) = ints (choTo p s k) ++ [.int .i64 (k : Int)] := by simp
          rw [e]
          exact hown6
        have hne : ∀ x, u5.ownBlock = some x → x ≠ w.heap.size := fun x hx e => by
          obtain ⟨a', c', rfl, _⟩ := own_shape HO5.out
          rw [ownBlock_slice] at hx
          subst e
          have h1 := own_blk HO5.out _ hx
          obtain h2 := HO5.out
          rcases h2.2 with ⟨hv, _⟩ | ⟨g, cp, cur, hv, _, hg, _⟩
          · simp only [Value.slice.injEq] at hv
            rw [hv.1] at hx
            cases hx
          · simp only [Value.slice.injEq, true_and] at hv
            rw [hv.1] at hx
            simp only [blk, Option.some.injEq] at hx
            rw [hx, HX5.out] at hg
            simp only [Option.some.injEq, Obj.cells.injEq] at hg
            exact absurd hg.2.1 (by decide)
        have HX6 := hid ((hgrow6.block _ (by simp; omega) (fun e => hne _ e.symm rfl)).trans HX5.out)
        have HB6 := hid (HB5.out.grown hgrow6 (by simp; omega) (fun b hb => (HO5.out.lt b hb).1))
        have HO7 := hid hown7
        obtain ⟨a6, c6, rfl, _⟩ := own_shape hown7
        clear hown6 hown7 hgrow6 hne
        go_wp2_with fail
        go_roundw
        case rel => exact ⟨k + 1, by omega, by go_num, HO7, HB6, HX6⟩
        case measure => simp [intOf]; omega
    · obtain rfl : k = 3 * M := by omega
      have hlt' : ¬ ((3 * M : Nat) : Int) < 3 * (M : Int) := by omega
      obtain ⟨a6, c6, rfl, _⟩ := own_shape HO2.out
      clear x0 x1 x2 x3
      go_wp2_with fail
      go_ret
      exact ⟨a6, c6, rfl, HO2.out, HB2.out⟩
def lastV (r : List Ms) : Int := (r.getD (r.length - 1) msZ).val
def outTo5 (s : Vs) (k : Nat) : List Int := s.st.regs ++ (s.list.take k).map lastV
theorem outTo5_succ {s : Vs} {k : Nat} {r : List Ms} (h : s.list[k]? = some r) : outTo5 s (k + 1) = outTo5 s k ++ [lastV r] := by
  unfold outTo5
  rw [List.take_add_one, h, List.map_append, List.append_assoc]
  rfl
set_option maxRecDepth 100000 in
set_option maxHeartbeats 3200000 in
theorem l5Outcome_c (w : World) (q : Sp) (s : Vs) (p : Prg) (h : RdV w q s) (hv : Shape p) (hg : Good5 p s) :
    Calls Try.prog 39 #[q.v5 s] w (RetL w (out5 s)) := by
  obtain ⟨y, h⟩ := h
  obtain ⟨a0, c0, a1, c1, a2, c2, a3, c3⟩ := q
  have HS := hid h
  have hl3 := hg.ll
  have HG := hid hg
  have HV := hid hv
  have hrl : s.st.regs.length ≤ 9 := by have := hg.good.regl; have := hv.len; omega
  have HR := hid (fun k (hk : k < 3) => hg.row hk)
  have HOT := hid (show out5 s = outTo5 s 3 from by unfold out5 outTo5 last5; rw [List.take_of_length_le (by rw [hl3]; exact Nat.le_refl _)]; rfl)
  have HL5 := hid (fun k => show (outTo5 s k).length ≤ 12 from by
    unfold outTo5
    rw [List.length_append, List.length_map, List.length_take]
    omega)
  have HL0 := hid (show outTo5 s 0 = s.st.regs from by simp [outTo5])
  have HREG := hid (h.int (0, 1) (dom1 _)).1
  rw [h.h1] at HREG
  have HREG := hid (show Rd w a1 (ints s.st.regs) from HREG.out)
  obtain ⟨n1, hn1⟩ : ∃ n, n = s.st.regs.length := ⟨_, rfl⟩
  have HN1 := hid hn1
  have HLEN := hid hl3
  rw [HOT.out]
  unfold Sp.v5 Sp.hd5
  dsimp only
  rw [← hn1] at hrl ⊢
  rw [hl3]
  clear h hv hg hl3 hn1
  go_enter Try.func39, Try.ntmps39
  have hb0 : Below w.heap.size w ((w.alloc (.cells #[.slice a0 s.st.pc.length c0, .slice a1 n1 c1, .slice a2 s.view.length c2, .slice a3 3 c3] 59)).alloc (.cells #[] 3)) := ((Below.refl _ _).alloc (Nat.le_refl _) _).alloc (by simp) _
  have HO0 := hid (own_lit0 (w.alloc (.cells #[.slice a0 s.st.pc.length c0, .slice a1 n1 c1, .slice a2 s.view.length c2, .slice a3 3 c3] 59)) w.heap.size 3 1 (by simp))
  have HR0 := hid (HREG.out.below hb0)
  have HB0 := hid hb0
  have hsz0 := hb0.size
  rw [World.size_alloc] at HO0
  clear hb0
  go_wp2_with (at_builtin; refine wpList_append_rd rfl (.tmp 5) (.tmp 7) 24 rfl w.heap.size 3 (.int .i64 0) 1 8 Try.underlying24 Try.info_int rfl (by decide) _ _ _ rfl HO0.out a1 n1 c1 (ints s.st.regs) rfl HR0.out (by rw [List.length_map, HN1.out, Nat.mul_one]) (ints_one _ _) (by omega) (by decide) hsz0 ?_)
  intro v2 w2 hown2 hgrow2 _
  have HO2 := hid (show w2.ownsRow w.heap.size 3 1 v2 (outTo5 s 0).length (ints (outTo5 s 0)) from by
    rw [HL0.out, ← HN1.out]
    exact own_casV hown2 (by omega) (by simp))
  have HB2 := hid (HB0.out.grown hgrow2 hsz0 (fun b hb => (HO0.out.lt b hb).1))
  have hlt : w.heap.size < ((w.alloc (.cells #[.slice a0 s.st.pc.length c0, .slice a1 n1 c1, .slice a2 s.view.length c2, .slice a3 3 c3] 59)).alloc (.cells #[] 3)).heap.size := by rw [World.size_alloc, World.size_alloc]; omega
  have HX2 := hid (show w2.heap[w.heap.size]? = some (.cells #[.slice a0 s.st.pc.length c0, .slice a1 n1 c1, .slice a2 s.view.length c2, .slice a3 3 c3] 59 (0, 0)) from by
    rw [hgrow2.block _ hlt (fun e => by simp [Value.ownBlock] at e), heap_alloc_old _ _ (by simp)]
    exact heap_alloc_new w _)
  clear hown2 hgrow2 HO0 HR0 HB0 hlt hsz0
  go_wp2_with fail
  go_loopw [3, 4] (fun v i wr => ∃ k : Nat, k ≤ 3 ∧ i = .int .i64 k ∧ Hid (wr.ownsRow w.heap.size 3 1 v (outTo5 s k).length (ints (outTo5 s k))) ∧ Hid (Below w.heap.size w wr) ∧ Hid (wr.heap[w.heap.size]? = some (.cells #[.slice a0 s.st.pc.length c0, .slice a1 n1 c1, .slice a2 s.view.length c2, .slice a3 3 c3] 59 (0, 0)))) (fun _ i _ => 3 - (intOf i).toNat)
  case atStart => exact ⟨0, Nat.zero_le _, rfl, HO2, HB2, HX2⟩
  case round =>
    clear HO2 HB2 HX2
    obtain ⟨k, hk, rfl, HO, HB, HX⟩ := hrel
    have x3 := cell_of_row wr w.heap.size 3 _ _ _ HX.out
    by_cases hlt : k < 3
    · have hki : (k : Int) < 3 := by omega
      obtain ⟨lb, lo, hla, hllt, hlc, hlcap⟩ := HS.out.rowAt (l := k) (show k < s.list.length by rw [HLEN.out]; exact hlt)
      have hla : a3 = some ⟨lb, lo, none⟩ := hla
      subst hla
      have hpos := (HG.out.rpos hlt).1
      obtain ⟨N, hN⟩ : ∃ N, (row5 s k).length = N + 1 := ⟨(row5 s k).length - 1, by omega⟩
      obtain ⟨mb, mo, _, _, hma, hmlt, hmv, _⟩ := HS.out.msgAt (l := k) (k := N) (show k < s.list.length by rw [HLEN.out]; exact hlt) (show N < (row5 s k).length by omega)
      replace hlc : w.cell? ⟨lb, lo + k, none⟩ = some (.slice (y.L k).1 (row5 s k).length (y.L k).2) := hlc
      replace hmv : w.cell? ⟨mb, mo + N * 3, none⟩ = some (.int .i64 ((row5 s k).getD N msZ).val) := hmv
      rw [hma, hN] at hlc
      have HSK := hid (outTo5_succ (HR.out k hlt))
      have HLV := hid (show lastV (row5 s k) = ((row5 s k).getD N msZ).val from by unfold lastV; rw [hN, Nat.add_sub_cancel])
      obtain ⟨x, hx⟩ : ∃ x, x = ((row5 s k).getD N msZ).val := ⟨_, rfl⟩
      rw [HLV.out, ← hx] at HSK
      rw [← hx] at hmv
      have hN24 : N + 1 ≤ 24 := by rw [← hN]; exact HG.out.rowlen HV.out hlt
      obtain ⟨mc, hmc⟩ : ∃ mc, mc = (y.L k).2 := ⟨_, rfl⟩
      rw [← hmc] at hlc
      have y1 := (HB.out.cell (p := ⟨lb, lo + k, none⟩) hllt).trans hlc
      have y2 := (HB.out.cell (p := ⟨mb, mo + N * 3, none⟩) hmlt).trans hmv
      have hl12 := HL5.out k
      have HL1 := hid (show (outTo5 s (k + 1)).length = (outTo5 s k).length + 1 from by rw [HSK.out, List.length_append]; rfl)
      have hbs := HB.out.size
      have hNN : (N : Int) < (N : Int) + 1 := by omega
      clear hllt hlc hlcap hpos hN hma hmlt hmv hx hmc HLV
      go_wp2_with fail
      refine wp_region_mix (by kernel_rfl) (by kernel_rfl) ?_
      go_wp2_with (first | (with_reducible refine wpMix_rd rfl rfl (fun K hK => ?_); go_simp; (try go_bits); refine hK _ ?_; clear hK K) | (with_reducible refine wpMix_act (o := ⟨_, .buildSlice _ _ _, _, _, _, _⟩) rfl rfl (fun K hK => ?_)))
      refine wpMix_append_one rfl (.tmp 16) (.tmp 32) 24 rfl w.heap.size 3 (.int .i64 0) 8 Try.underlying24 Try.info_int rfl _ _ _ rfl (HO.out.drew.alloc _) _ (.int .i64 x) rfl (by simp) rfl (by omega) (by omega) (by simp; omega) ?_
      intro v1 w1 hown1 hgrow1
      have hsA : w.heap.size ≤ (wr.drew.alloc (.cells #[.int .i64 x] 3)).heap.size := by simp; omega
      have hne : ∀ b, u3.ownBlock = some b → b ≠ w.heap.size := fun b hb e => by
        obtain ⟨a', c', rfl, _⟩ := own_shape HO.out
        rw [ownBlock_slice] at hb
        subst e
        rcases HO.out.2 with ⟨hv, _⟩ | ⟨g, cp, cur, hv, _, hg, _⟩
        · simp only [Value.slice.injEq] at hv
          rw [hv.1] at hb
          cases hb
        · simp only [Value.slice.injEq, true_and] at hv
          rw [hv.1] at hb
          simp only [blk, Option.some.injEq] at hb
          rw [hb, HX.out] at hg
          simp only [Option.some.injEq, Obj.cells.injEq] at hg
          exact absurd hg.2.1 (by decide)
      have hlt0 : w.heap.size < wr.heap.size := (Array.getElem?_eq_some_iff.1 HX.out).1
      have HX1 := hid (show w1.heap[w.heap.size]? = some (.cells #[.slice a0 s.st.pc.length c0, .slice a1 n1 c1, .slice a2 s.view.length c2, .slice (some ⟨lb, lo, none⟩) 3 c3] 59 (0, 0)) from by
        rw [hgrow1.block _ (by simp; omega) (fun e => hne _ e.symm rfl)]
        exact (heap_alloc_old wr (.cells #[.int .i64 x] 3) hlt0).trans HX.out)
      have HB1 := hid ((HB.out.drew.alloc HB.out.size (.cells #[.int .i64 x] 3)).grown hgrow1 hsA (fun b hb => (HO.out.lt b hb).1))
      have HO1 := hid (show w1.ownsRow w.heap.size 3 1 v1 (outTo5 s (k + 1)).length (ints (outTo5 s (k + 1))) from by
        rw [HL1.out, HSK.out]
        have e : ints (outTo5 s k ++ [x]) = ints (outTo5 s k) ++ [.int .i64 x] := by simp
        rw [e]
        exact hown1)
      clear hown1 hgrow1 hne hlt0 hsA y1 y2 x3
      go_wp2_with (first | (with_reducible refine wpMix_nil ?_) | (with_reducible refine wpMix_rd rfl rfl (fun K hK => ?_); go_simp; (try go_bits); refine hK _ ?_; clear hK K))
      go_roundw
      case rel => exact ⟨k + 1, by omega, by go_num, HO1, HB1, HX1⟩
      case measure => simp [intOf]; omega
    · obtain rfl : k = 3 := by omega
      have h33 : ¬ ((3 : Nat) : Int) < 3 := by omega
      obtain ⟨a6, c6, rfl, _⟩ := own_shape HO.out
      go_wp2_with fail
      go_ret
      exact ⟨a6, c6, rfl, HO.out, HB.out⟩
end Go.Proofs.Ythlmfjoiicnomaa
