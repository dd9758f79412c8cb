/-
  PROVED HERE: what (*seq).after does, with the new state's block and the program's address told. CONDITIONS: as the theorem states.
-/
import Derived.Test.YtbncmeggnhggkaaImh
namespace Go.Proofs.Ytbncmeggnhggkaa
open Go.RowKit
set_option linter.unusedVariables false
set_option linter.unusedSimpArgs false

set_option maxRecDepth 100000 in
set_option maxHeartbeats 3200000 in
theorem seqAfterK_c (w : World) (g : Nat) (a : Option Addr) (cap : Nat) (p : Prg) (s : St) (t : Nat) (hg : w.heap[g]? = some (.cells (valC a p.length cap s ++ []).toArray 94 (0, 0))) (hrp : RdP w a p) (hgd : Good p s) (hv : Shape p) (hgo : goes p s t = true) :
    Calls Try.prog 118 #[.pointer (some ⟨g, 0, none⟩), .int .i64 t] w fun e w' => e = .returned (.iface 88 (.pointer (some ⟨w.heap.size, 0, none⟩))) ∧ w'.heap[w.heap.size]? = some (.cells (valC a p.length cap (do3 p s t) ++ []).toArray 94 (0, 0)) ∧ Below w.heap.size w w' := by
  have h : MAt 94 [] w g p s := ⟨⟨a, cap, hg, hrp⟩, hgd⟩
  have ht := goes_thr h.good hgo
  obtain ⟨xs, k, x, hxs, hk, hx, hiv, hnx, hk7⟩ := h.good.next hv hgo
  have hvl := h.good.vlen hv
  have HAT := hid h.v
  have HV := hid hv
  have HNX := hid (fun w (h : VAt w g p s) => next_c w g p s t h hv ht)
  have HST := hid (fun w (h : VAt w g p s) => stored_c w g p s t x h hv ht hiv)
  have HRE := hid (fun w => readsI_c w x)
  have HWR := hid (fun w => writesI_c w x)
  have hn3 : p.length ≤ 3 := hv.len
  obtain ⟨ln, hln, hl2⟩ := valid_loc hiv
  obtain ⟨rn, hrn, hr2⟩ := valid_reg hiv
  have hval := valid_val hiv
  have hwb := hgd.wv (t := t) hiv
  obtain ⟨mv, hmv⟩ : ∃ mv, s.mem[ln]? = some mv := ⟨_, List.getElem?_eq_getElem (by rw [hgd.meml]; omega)⟩
  have hil : t * 3 + rn < s.regs.length := by rw [hgd.regl]; omega
  have htl : t < s.pc.length := by rw [hgd.pcl]; exact ht
  have hcm : ∀ wk, Below w.heap.size w wk → wk.cell? ⟨g, 13 + ln, none⟩ = some (.int .u8 mv) := fun wk hb => by
    obtain ⟨_, _, _, _, _, _, hm⟩ := (HAT.out.below hb).cells hv
    exact hm ln mv hmv
  have HCM := hid hcm
  obtain ⟨wv, hwv⟩ : ∃ wv, wv = wval s t x := ⟨_, rfl⟩
  rw [← hwv] at HST hwb
  have HDO := hid (show do3 p s t = { pc := s.pc.set t ((k : Int) + 1), regs := if insReads x then s.regs.set (t * 3 + rn) mv else s.regs, mem := if insWrites x then s.mem.set ln wv else s.mem, buf := s.buf } from by
    unfold do3
    rw [hnx, hwv, hrn, hln]
    simp [List.getD_eq_getElem?_getD, hk, hmv])
  have HGD := hid (hgd.do3 hv hgo)
  have HRP := hid hrp
  rw [hgo, hnx] at HNX
  simp only [↓reduceIte] at HNX
  obtain ⟨op, loc, reg, val⟩ := x
  have hln : loc = ln := hln
  have hrn : reg = rn := hrn
  subst hln
  subst hrn
  have HK := hid hk
  have hvl' := hid hvl
  obtain ⟨V, hV⟩ : ∃ V, V = (valC a p.length cap s ++ []).toArray := ⟨_, rfl⟩
  rw [← hV] at hg
  have HG := hid hg
  have HVV := hid hV
  have HONE := hid (show V.all (·.oneCell') = true from by
    rw [hV, List.append_nil]
    simp [valC, Value.oneCell'])
  have HSZ := hid (show (Try.prog.info? 94).map (·.size) = some V.size from by
    rw [hV, List.append_nil, List.size_toArray, length_valC hvl]
    kernel_rfl)
  have HSZ16 := hid (show z16.size = V.size from by
    have e : V.size = 16 := by rw [hV, List.append_nil, List.size_toArray]; exact length_valC hvl
    rw [e]; rfl)
  have ht3 : (t : Int) < 3 := by omega
  have hl3 : (ln : Int) < 3 := by omega
  have hr3 : (rn : Int) < 3 := by omega
  clear hxs hk hx hiv hnx hmv hwv hcm hgd hrp hg hV hgo hv
  go_enter Try.func118, Try.ntmps118
  go_wp2_with (first | (refine wpList_load_row rfl 94 (.tmp 10) rfl g rfl 94 V (0, 0) _ HG.out Try.underlying94 rfl HSZ.out ?_) | (refine wpList_store_row rfl 94 (.tmp 5) (.tmp 11) rfl w.heap.size V rfl rfl 94 _ (heap_alloc_new w _) HSZ.out HSZ16.out HONE.out ?_))
  have D1 : AfI w w.heap.size a p.length cap [] 94 s ((w.alloc (.cells z16 94)).setRow w.heap.size V) := by
    refine ⟨?_, hvl, ?_, Nat.le_refl _⟩
    · rw [setRow_heap _ _ _ V _ _ (heap_alloc_new w _), HVV.out]
    · exact Proofs.Ytbncmeggnhggkaa.Below.keeps ((Below.refl w.heap.size w).alloc (Nat.le_refl _) (.cells z16 94)) (keeps_setRow _ w.heap.size V) (by simp) (fun k e => by omega)
  obtain ⟨w1, hw1⟩ : ∃ w1, w1 = (w.alloc (.cells z16 94)).setRow w.heap.size V := ⟨_, rfl⟩
  rw [← hw1] at D1 ⊢
  have HD1 := hid D1
  clear D1 hw1
  refine (HNX.out w1 (HAT.out.below HD1.out.below)).mono ?_
  rintro e w2 ⟨rfl, hb2⟩
  have hx2 : Box ((w2.setCell ⟨w.heap.size, 1 + t, none⟩ (.int .u8 ((k : Int) + 1))).alloc (.cells #[.int .i64 op, .int .i64 ln, .int .i64 rn, .int .i64 val] 79)) w2.heap.size ⟨op, ln, rn, val⟩ := by
    have e : (w2.setCell ⟨w.heap.size, 1 + t, none⟩ (.int .u8 ((k : Int) + 1))).heap.size = w2.heap.size := by simp [World.setCell]
    have := Box.new (w2.setCell ⟨w.heap.size, 1 + t, none⟩ (.int .u8 ((k : Int) + 1))) ⟨op, ln, rn, val⟩ 79
    rw [e] at this
    exact this
  have HD2 := hid (HD1.out.later hb2)
  have HD4 := hid ((HD2.out.setpc htl ((k : Int) + 1)).later ((Below.refl _ _).alloc (Nat.le_refl _) (.cells #[.int .i64 op, .int .i64 ln, .int .i64 rn, .int .i64 val] 79)))
  have hlt2 : w.heap.size < w2.heap.size := by have := hb2.size; have := HD1.out.lt; omega
  have p3 := HD2.out.cell (valC_pc HD2.out.len HK.out)
  have f3 := HD2.out.free (1 + t)
  have HX4 := hid hx2
  clear hb2 HD1 hx2
  go_wp2_with fail
  obtain ⟨w4, hw4⟩ : ∃ w4, w4 = (w2.setCell ⟨w.heap.size, 1 + t, none⟩ (.int .u8 ((k : Int) + 1))).alloc (.cells #[.int .i64 op, .int .i64 ln, .int .i64 rn, .int .i64 val] 79) := ⟨_, rfl⟩
  rw [← hw4] at HD4 HX4 ⊢
  have hs4 : w4.heap.size = w2.heap.size + 1 := by rw [hw4]; simp [World.setCell]
  clear p3 f3 HD2 hw4
  obtain ⟨J, hJ⟩ : ∃ J : World → Prop, J = fun w' => Below w4.heap.size w4 w' := ⟨_, rfl⟩
  have HJ := hid (fun w' (h : Below w4.heap.size w4 w') => show J w' by rw [hJ]; exact h)
  have HC := hid (fun w' (h : J w') => show w'.cell? ⟨w2.heap.size, 0, none⟩ = some (.int .i64 op) ∧ w'.cell? ⟨w2.heap.size, 1, none⟩ = some (.int .i64 ln) ∧ w'.cell? ⟨w2.heap.size, 2, none⟩ = some (.int .i64 rn) ∧ w'.cell? ⟨w2.heap.size, 3, none⟩ = some (.int .i64 val) from by
    rw [hJ] at h
    exact HX4.out.below h (by omega))
  have hJ0 : J w4.drew := HJ.out _ (below_drewN 1 (Below.refl _ _))
  clear hJ
  refine MJ.wp_region_mix (J := J) (by kernel_rfl) (by kernel_rfl) ?_
  repeat (first | (refine MJ.wpMix_pure rfl rfl (fun K hK => ?_); go_simp; (first | refine hK _ ?_ | refine ⟨_, fun W hW => rfl, hK _ ?_⟩ | refine ⟨_, fun W hW => ⟨rfl, rfl⟩, hK _ ?_⟩); clear hK K) | (refine MJ.wpMix_held rfl rfl (by assumption) (fun K hK => ?_); go_simp; apply Exists.intro; refine And.intro (fun W hW => ?_) (hK _ ?_); (focus (have hcs := HC.out W hW; go_simp; try rfl)); clear hK K))
  (with_reducible refine MJ.wpMix_make rfl rfl (fun K hK => ?_); go_simp)
  refine (HST.out _ ((HAT.out.below HD4.out.below).below (below_drewN 1 (Below.refl _ _)))).mono ?_
  rintro e w5 ⟨rfl, hb5⟩
  have hb5' : Below w4.heap.size w4 w5 := (below_drewN 1 (Below.refl _ _)).trans hb5
  have hJ5 : J w5 := HJ.out _ hb5'
  have HD5 := hid (HD4.out.later hb5')
  have HX5 := hid (HX4.out.below hb5' (by omega))
  have hs5 := hb5'.size
  refine hK _ _ hJ5 ?_
  clear hK K hb5 hb5' hJ0
  repeat (first | (refine MJ.wpMix_pure rfl rfl (fun K hK => ?_); go_simp; (first | refine hK _ ?_ | refine ⟨_, fun W hW => rfl, hK _ ?_⟩ | refine ⟨_, fun W hW => ⟨rfl, rfl⟩, hK _ ?_⟩); clear hK K) | (refine MJ.wpMix_held rfl rfl (by assumption) (fun K hK => ?_); go_simp; apply Exists.intro; refine And.intro (fun W hW => ?_) (hK _ ?_); (focus (have hcs := HC.out W hW; go_simp; try rfl)); clear hK K))
  refine MJ.wpMix_nil ?_
  have x5 := Box.four HX5.out
  clear HJ HC hJ5 HD4 HX4
  go_wp2_with fail
  refine (HRE.out _).mono ?_
  rintro e w6 ⟨rfl, hb6⟩
  have HD6 := hid (HD5.out.later hb6)
  have HX6 := hid (HX5.out.below hb6 (by omega))
  have hs6 := hb6.size
  clear HD5 HX5 x5 hb6
  by_cases hre : insReads ⟨op, ln, rn, val⟩ = true
  · rw [hre]
    rw [hre, if_pos rfl] at HDO
    have x6 := Box.four HX6.out
    have m6 := HCM.out _ HD6.out.below
    obtain ⟨r6, hr6⟩ : ∃ r6, s.regs[t * 3 + rn]? = some r6 := ⟨_, List.getElem?_eq_getElem hil⟩
    have p6 := HD6.out.cell (valC_reg HD6.out.len hr6)
    have f6 := HD6.out.free (4 + (t * 3 + rn))
    have HD7 := hid (AfI.drew (HD6.out.setreg (i := t * 3 + rn) hil mv))
    have HX7 := hid (Box.drew (HX6.out.set (g := w.heap.size) (j := 4 + (t * 3 + rn)) (v := .int .u8 mv) (by omega)))
    rw [← Nat.add_assoc] at p6 f6 HD7 HX7
    clear hr6
    go_wp2_with fail
    refine wp_region_mix (by kernel_rfl) (by kernel_rfl) ?_
    repeat (with_reducible refine wpMix_rd rfl rfl (fun K hK => ?_); go_simp; (try go_bits); refine hK _ ?_; clear hK K)
    (with_reducible refine wpMix_act (o := ⟨_, .store _ _ _, _, _, _, _⟩) rfl rfl (fun K hK => ?_))
    go_simp
    refine hK _ _ ?_
    clear hK K
    obtain ⟨w7, hw7⟩ : ∃ w7, w7 = (w6.setCell ⟨w.heap.size, 4 + t * 3 + rn, none⟩ (.int .u8 mv)).drew := ⟨_, rfl⟩
    rw [← hw7] at HD7 HX7 ⊢
    have hs7 : w6.heap.size = w7.heap.size := by rw [hw7]; simp [World.setCell]
    clear x6 m6 p6 f6 HD6 HX6 hw7
    (with_reducible refine wpMix_nil ?_)
    have x7 := Box.four HX7.out
    go_wp2_with fail
    refine (HWR.out _).mono ?_
    rintro e w8 ⟨rfl, hb8⟩
    have HD8 := hid (HD7.out.later hb8)
    have HX8 := hid (HX7.out.below hb8 (by omega))
    have hs8 := hb8.size
    clear HD7 HX7 x7 hb8
    by_cases hwr : insWrites ⟨op, ln, rn, val⟩ = true
    · rw [hwr]
      rw [hwr, if_pos rfl] at HDO
      have x8 := Box.four HX8.out
      obtain ⟨m8, hm8⟩ : ∃ m8, (s.mem)[ln]? = some m8 := ⟨_, List.getElem?_eq_getElem (by have := HD8.out.len.mem; dsimp only at this; omega)⟩
      have p8 := HD8.out.cell (valC_mem HD8.out.len hm8)
      have f8 := HD8.out.free (13 + ln)
      have HD9 := hid (HD8.out.setmem (l := ln) (by omega) wv)
      clear hm8
      go_wp2
      go_ret
      refine ⟨rfl, ?_, HD9.out.below⟩
      rw [HDO.out]
      exact HD9.out.cur
    · have hwr : insWrites ⟨op, ln, rn, val⟩ = false := by simpa using hwr
      rw [hwr]
      rw [hwr, if_neg (by decide)] at HDO
      go_wp2
      go_ret
      refine ⟨rfl, ?_, HD8.out.below⟩
      rw [HDO.out]
      exact HD8.out.cur
  · have hre : insReads ⟨op, ln, rn, val⟩ = false := by simpa using hre
    rw [hre]
    rw [hre, if_neg (by decide)] at HDO
    have x7 := Box.four HX6.out
    go_wp2_with fail
    refine (HWR.out _).mono ?_
    rintro e w8 ⟨rfl, hb8⟩
    have HD8 := hid (HD6.out.later hb8)
    have HX8 := hid (HX6.out.below hb8 (by omega))
    have hs8 := hb8.size
    clear HD6 HX6 x7 hb8
    by_cases hwr : insWrites ⟨op, ln, rn, val⟩ = true
    · rw [hwr]
      rw [hwr, if_pos rfl] at HDO
      have x8 := Box.four HX8.out
      obtain ⟨m8, hm8⟩ : ∃ m8, (s.mem)[ln]? = some m8 := ⟨_, List.getElem?_eq_getElem (by have := HD8.out.len.mem; dsimp only at this; omega)⟩
      have p8 := HD8.out.cell (valC_mem HD8.out.len hm8)
      have f8 := HD8.out.free (13 + ln)
      have HD9 := hid (HD8.out.setmem (l := ln) (by omega) wv)
      clear hm8
      go_wp2
      go_ret
      refine ⟨rfl, ?_, HD9.out.below⟩
      rw [HDO.out]
      exact HD9.out.cur
    · have hwr : insWrites ⟨op, ln, rn, val⟩ = false := by simpa using hwr
      rw [hwr]
      rw [hwr, if_neg (by decide)] at HDO
      go_wp2
      go_ret
      refine ⟨rfl, ?_, HD8.out.below⟩
      rw [HDO.out]
      exact HD8.out.cur
end Go.Proofs.Ytbncmeggnhggkaa
