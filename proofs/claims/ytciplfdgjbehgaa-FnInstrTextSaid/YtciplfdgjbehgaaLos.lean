/-
  PROVED HERE: what LocsOf of both packages does. CONDITIONS: as each theorem states.
-/
import Derived.Test.YtciplfdgjbehgaaLoc
namespace Go.Proofs.Ytciplfdgjbehgaa
open Go.RowKit
set_option linter.unusedVariables false
set_option linter.unusedSimpArgs false

def hasLoc (p : Prg) (l : Int) : Bool := decide (0 < cnt p l true + cnt p l false)
def locsTo (p : Prg) : Nat → List Int
  | 0 => []
  | k + 1 => locsTo p k ++ if hasLoc p (k : Nat) then [((k : Nat) : Int)] else []
theorem locsTo_all {p : Prg} (h : progValid p = true) : locsTo p 3 = locsP p := by
  unfold locsP
  rw [if_pos h]
  show [] ++ (if hasLoc p ((0 : Nat) : Int) then [((0 : Nat) : Int)] else []) ++ (if hasLoc p ((1 : Nat) : Int) then [((1 : Nat) : Int)] else []) ++ (if hasLoc p ((2 : Nat) : Int) then [((2 : Nat) : Int)] else []) = [0, 1, 2].filter (hasLoc p)
  simp only [List.filter_cons, List.filter_nil]
  cases e0 : hasLoc p 0 <;> cases e1 : hasLoc p 1 <;> cases e2 : hasLoc p 2 <;> simp [e0, e1, e2]
theorem locsTo_le (p : Prg) : ∀ k, (locsTo p k).length ≤ k
  | 0 => Nat.le_refl _
  | k + 1 => by
    have := locsTo_le p k
    show (locsTo p k ++ _).length ≤ _
    rw [List.length_append]
    split <;> simp <;> omega
theorem locsP_le (p : Prg) : (locsP p).length ≤ 1048576 := by
  unfold locsP
  split
  · exact Nat.le_trans (List.length_filter_le _ _) (by decide)
  · simp

set_option maxHeartbeats 1600000 in
theorem loS_c (w : World) (a : Option Addr) (cap : Nat) (p : Prg) (h : RdP w a p) (hl : sizeP p ≤ 1048576) :
    Calls Try.prog 37 #[.slice a p.length cap] w fun e w' => ∃ a' cap', e = .returned (.slice a' (locsP p).length cap') ∧ OwI w' w.heap.size a' cap' (locsP p) ∧ Below w.heap.size w w' := by
  have HPV := hid (fun w' (hb : Below w.heap.size w w') => pvS_c w' a cap p (h.below hb) hl)
  by_cases hv : progValid p = true
  · have HW := hid (fun w' (hb : Below w.heap.size w w') loc => countW_c w' a cap p loc (h.below hb) hl)
    have HR := hid (fun w' (hb : Below w.heap.size w w') loc => countR_c w' a cap p loc (h.below hb) hl)
    have HBD := hid (fun loc wr => cnt_le (valid_of hv).toShape loc wr)
    have HA := hid (locsTo_all hv)
    have HSU := hid (fun k : Nat => (show locsTo p (k + 1) = locsTo p k ++ if hasLoc p (k : Nat) then [((k : Nat) : Int)] else [] from rfl))
    have HLE := hid (fun k => locsTo_le p k)
    have HHL := hid (fun l => (show hasLoc p l = decide (0 < cnt p l true + cnt p l false) from rfl))
    rw [hv] at HPV
    obtain ⟨n, hn⟩ : ∃ n, n = p.length := ⟨_, rfl⟩
    rw [← hn] at HPV HW HR ⊢
    clear hn h hl hv
    rw [← HA.out]
    go_enter Try.func37, Try.ntmps37
    go_wp2
    have HO0 := hid (own_lit0 w w.heap.size 3 1 (Nat.le_refl _))
    have HB0 := hid ((Below.refl w.heap.size w).alloc (Nat.le_refl _) (.cells #[] 3))
    go_loopw [3, 4] (fun v i wr => ∃ k : Nat, k ≤ 3 ∧ i = .int .i64 k ∧ Hid (wr.ownsRow w.heap.size 3 1 v (locsTo p k).length (ints (locsTo p k))) ∧ Hid (Below w.heap.size w wr)) (fun _ i _ => 3 - (intOf i).toNat)
    case atStart => exact ⟨0, Nat.zero_le _, rfl, hid (by simpa [locsTo] using HO0.out), HB0⟩
    case round =>
      obtain ⟨k, hk, rfl, HO, HB⟩ := hrel
      by_cases hlt : k < 3
      · have HKS := hid (HSU.out k)
        have hkl := HLE.out k
        have hW := HBD.out (k : Nat) true
        have hR := HBD.out (k : Nat) false
        have HWK := hid (fun w' hb => HW.out w' hb (k : Nat))
        have HRK := hid (fun w' hb => HR.out w' hb (k : Nat))
        have HHK := hid (HHL.out (k : Nat))
        obtain ⟨W, eW⟩ : ∃ W, W = cnt p (k : Nat) true := ⟨_, rfl⟩
        obtain ⟨R, eR⟩ : ∃ R, R = cnt p (k : Nat) false := ⟨_, rfl⟩
        rw [← eW] at hW HWK HHK
        rw [← eR] at hR HRK HHK
        obtain ⟨L, eL⟩ : ∃ L, L = locsTo p k := ⟨_, rfl⟩
        rw [← eL] at HKS hkl HO
        clear eW eR eL
        have hk2 : (k : Int) ≤ 2 := by omega
        go_wp2_with fail
        refine (HPV.out _ HB.out).mono ?_
        rintro e w1 ⟨rfl, hb1⟩
        have HB1 := hid (HB.out.trans (hb1.mono HB.out.size))
        have HO1 := hid (own_below HO.out hb1)
        clear hb1
        go_wp2_with fail
        refine (HWK.out _ HB1.out).mono ?_
        rintro e w2 ⟨rfl, hb2⟩
        have HB2 := hid (HB1.out.trans (hb2.mono HB1.out.size))
        have HO2 := hid (own_below HO1.out hb2)
        clear hb2
        go_wp2_with fail
        refine (HRK.out _ HB2.out).mono ?_
        rintro e w3 ⟨rfl, hb3⟩
        have HB3 := hid (HB2.out.trans (hb3.mono HB2.out.size))
        have HO3 := hid (own_below HO2.out hb3)
        have hbs := HB3.out.size
        clear hb3
        by_cases hpos : 0 < W + R
        · have HP := hid (show hasLoc p (k : Nat) = true by rw [HHK.out]; simpa using hpos)
          have HE := hid (show locsTo p (k + 1) = L ++ [((k : Nat) : Int)] by rw [HKS.out, HP.out]; rfl)
          have hpos' : (0 : Int) < (W : Int) + (R : Int) := by omega
          clear hpos
          go_wp2_with (at_builtin; refine wpList_append_one rfl (.tmp 22) (.tmp 24) 42 rfl w.heap.size 3 (.int .i64 0) 8 Try.underlying42 Try.info_int rfl _ _ _ rfl (HO3.out.alloc _) _ (.int .i64 (k : Nat)) rfl (by simp) rfl (by omega) (by omega) (by simp; omega) ?_)
          intro v1 w4 hown1 hgrow1
          have HO4 := hid (show w4.ownsRow w.heap.size 3 1 v1 (locsTo p (k + 1)).length (ints (locsTo p (k + 1))) by
            rw [HE.out, List.length_append]
            simpa [ints] using hown1)
          have HB4 := hid ((HB3.out.alloc HB3.out.size _).grown hgrow1 (by simp; omega) (fun b hb => (HO3.out.lt b hb).1))
          clear hown1 hgrow1
          go_wp2_with fail
          go_roundw
          case rel => exact ⟨k + 1, by omega, by go_num, HO4, HB4⟩
          case measure => simp [intOf]; omega
        · have HP := hid (show hasLoc p (k : Nat) = false by rw [HHK.out]; simpa using hpos)
          have HE := hid (show locsTo p (k + 1) = L by rw [HKS.out, HP.out]; simp)
          have hpos' : decide ((0 : Int) < (W : Int) + (R : Int)) = false := by rw [decide_eq_false_iff_not]; omega
          clear hpos
          go_wp2_with fail
          go_roundw
          case rel => exact ⟨k + 1, by omega, by go_num, by rw [HE.out]; exact HO3, HB3⟩
          case measure => simp [intOf]; omega
      · have HK := hid (show k = 3 by omega)
        rw [HK.out] at HO
        obtain ⟨a1, cap1, rfl, _⟩ := own_shape HO.out
        have hk2 : decide ((k : Int) ≤ 2) = false := by rw [decide_eq_false_iff_not]; omega
        go_wp2
        go_ret
        exact ⟨_, _, rfl, HO.out, HB.out⟩
  · have hv : progValid p = false := by simpa using hv
    have HF := hid (show locsP p = [] by unfold locsP; rw [hv]; rfl)
    rw [hv] at HPV
    rw [HF.out]
    obtain ⟨n, hn⟩ : ∃ n, n = p.length := ⟨_, rfl⟩
    rw [← hn] at HPV ⊢
    clear hn h hl hv
    go_enter Try.func37, Try.ntmps37
    go_wp2
    have HO0 := hid (own_lit0 w w.heap.size 3 1 (Nat.le_refl _))
    have HB0 := hid ((Below.refl w.heap.size w).alloc (Nat.le_refl _) (.cells #[] 3))
    go_loopw [3, 4] (fun v i wr => v = .slice (some ⟨w.heap.size, 0, none⟩) 0 0 ∧ i = .int .i64 0 ∧ wr = w.alloc (.cells #[] 3)) (fun _ i _ => 0)
    case atStart => exact ⟨rfl, rfl, rfl⟩
    case round =>
      obtain ⟨rfl, rfl, rfl⟩ := hrel
      go_wp2_with fail
      refine (HPV.out _ HB0.out).mono ?_
      rintro e w1 ⟨rfl, hb1⟩
      have HO1 := hid (own_below HO0.out hb1)
      have HB1 := hid (HB0.out.trans (hb1.mono HB0.out.size))
      clear hb1
      go_wp2
      go_ret
      exact ⟨_, _, rfl, HO1.out, HB1.out⟩

/-- The locations of the first i threads, and of k instructions of the next. -/
theorem locL_succ {p : Prg} {i : Nat} {xs : List Ins} (h : p[i]? = some xs) : locL (p.take (i + 1)) = locL (p.take i) ++ locR xs := by
  obtain ⟨hi, rfl⟩ := List.getElem?_eq_some_iff.1 h
  unfold locL
  rw [List.take_succ_eq_append_getElem hi, List.flatMap_append]
  simp
theorem locR_succ {xs : List Ins} {k : Nat} {x : Ins} (h : xs[k]? = some x) : locR (xs.take (k + 1)) = locR (xs.take k) ++ if evB x then [x.loc] else [] := by
  obtain ⟨hi, rfl⟩ := List.getElem?_eq_some_iff.1 h
  unfold locR
  rw [List.take_succ_eq_append_getElem hi, List.filter_append, List.map_append]
  congr 1
  cases e : evB xs[k] <;> simp [e]
theorem locL_all (p : Prg) : locL (p.take p.length) = locL p := by rw [List.take_length]
theorem locR_all (xs : List Ins) : locR (xs.take xs.length) = locR xs := by rw [List.take_length]
theorem locR_len (xs : List Ins) (k : Nat) : (locR (xs.take k)).length ≤ xs.length := by
  unfold locR
  rw [List.length_map]
  exact Nat.le_trans (List.length_filter_le _ _) (by rw [List.length_take]; omega)
theorem locL_len {p : Prg} (h : Shape p) (i : Nat) : (locL (p.take i)).length ≤ 12 := by
  rw [length_locL]
  have h1 : tot evB (p.take i) ≤ tot evB p := by
    unfold tot
    have e : p.map (List.countP evB) = (p.take i).map (List.countP evB) ++ (p.drop i).map (List.countP evB) := by rw [← List.map_append, List.take_append_drop]
    rw [e, List.sum_append]
    omega
  exact Nat.le_trans h1 h.ev

set_option maxHeartbeats 1600000 in
theorem loI_c (w : World) (a : Option Addr) (cap : Nat) (p : Prg) (h : RdP w a p) (hl : sizeP p ≤ 1048576) :
    Calls Try.prog 35 #[.slice a p.length cap] w fun e w' => ∃ a' cap', e = .returned (.slice a' (locsP p).length cap') ∧ OwI w' w.heap.size a' cap' (locsP p) ∧ Below w.heap.size w w' := by
  have HPV := hid (pvI_c w a cap p h hl)
  by_cases hv : progValid p = true
  · have hs := (valid_of hv).toShape
    have HLAW := hid (locs_law hv)
    have HA := hid (locL_all p)
    have HSU := hid (fun k xs (hx : p[k]? = some xs) => locL_succ hx)
    have HLE := hid (fun k => locL_len hs k)
    have HR7 := hid hs.row
    have hpl := hs.len
    have HH := hid h
    rw [hv] at HPV
    obtain ⟨n, hn⟩ : ∃ n, n = p.length := ⟨_, rfl⟩
    have HN := hid hn
    rw [← hn] at HPV HA hpl ⊢
    clear hn h hl hv hs
    go_enter Try.func35, Try.ntmps35
    go_wp2_with fail
    refine HPV.out.mono ?_
    rintro e w1 ⟨rfl, hb1⟩
    have HB1 := hid hb1
    clear hb1
    have HO1 := hid (own_none w1 w.heap.size 3 1)
    go_wp2_with fail
    go_loopw [3, 13] (fun v i wr => ∃ j : Nat, j ≤ n ∧ i = .int .i64 j ∧ Hid (wr.ownsRow w.heap.size 3 1 v (locL (p.take j)).length (ints (locL (p.take j)))) ∧ Hid (Below w.heap.size w wr)) (fun _ i _ => n - (intOf i).toNat)
    case atStart => exact ⟨0, Nat.zero_le _, rfl, hid (by simpa [locL] using HO1.out), HB1⟩
    case round =>
      obtain ⟨j, hj, rfl, HO, HB⟩ := hrel
      obtain ⟨wo, rfl⟩ : ∃ wo : World, wo = wr := ⟨_, rfl⟩
      by_cases hlt : j < n
      · obtain ⟨b, off, r, c, xs, hab, hb, hx, hc, hr⟩ := HH.out.at j (by rw [← HN.out]; exact hlt)
        subst hab
        have HR := hid hr
        have HSJ := hid (HSU.out j xs hx)
        have hll := HLE.out j
        have hm7 := HR7.out j xs hx
        have HRS := hid (fun k x (hx : xs[k]? = some x) => locR_succ hx)
        have HRA := hid (locR_all xs)
        have HRL := hid (fun k => locR_len xs k)
        have hcx := (HB.out.cell (p := ⟨b, off + j, none⟩) hb).trans hc
        obtain ⟨m, hm⟩ : ∃ m, m = xs.length := ⟨_, rfl⟩
        have HMX := hid hm
        rw [← hm] at hcx hm7 HRA HRL
        obtain ⟨L, eL⟩ : ∃ L, L = locL (p.take j) := ⟨_, rfl⟩
        rw [← eL] at HSJ hll HO
        clear hx hc hr hb hm eL
        go_wp2_with fail
        clear hcx
        go_loopw [3, 19] (fun v i wr => ∃ t : Nat, t ≤ m ∧ i = .int .i64 t ∧ Hid (wr.ownsRow w.heap.size 3 1 v (L ++ locR (xs.take t)).length (ints (L ++ locR (xs.take t)))) ∧ Hid (Below w.heap.size w wr)) (fun _ i _ => m - (intOf i).toNat)
        case atStart => exact ⟨0, Nat.zero_le _, rfl, hid (by simpa [locR] using HO.out), HB⟩
        case round =>
          obtain ⟨t, ht, rfl, HO2, HB2⟩ := hrel
          by_cases htm : t < m
          · obtain ⟨bx, ox, x, hax, hbx, hx, hat⟩ := HR.out.ins t (by rw [← HMX.out]; exact htm)
            subst hax
            obtain ⟨c0, c1, c2, c3⟩ := hat.below HB2.out hbx
            have HRT := hid (HRS.out t x hx)
            have hrl := HRL.out t
            have HEV := hid (show evB x = !(x.op == 4) from rfl)
            obtain ⟨M, eM⟩ : ∃ M, M = L ++ locR (xs.take t) := ⟨_, rfl⟩
            have HMT := hid (show L ++ locR (xs.take (t + 1)) = M ++ (if evB x then [x.loc] else []) by rw [HRT.out, eM, List.append_assoc])
            have hML : M.length ≤ 19 := by rw [eM, List.length_append]; omega
            rw [← eM] at HO2
            have HO3 := hid (HO2.out.alloc (.cells #[.int .i64 x.op, .int .i64 x.loc, .int .i64 x.reg, .int .i64 x.val] 24))
            have HB3 := hid (HB2.out.alloc HB2.out.size (.cells #[.int .i64 x.op, .int .i64 x.loc, .int .i64 x.reg, .int .i64 x.val] 24))
            have hbs := HB2.out.size
            clear hat hx hbx eM hrl
            by_cases h4 : (x.op == 4) = true
            · have h4' : (x.op != 4) = false := by simp at h4 ⊢; exact h4
              have HE := hid (show L ++ locR (xs.take (t + 1)) = M by rw [HMT.out, HEV.out, h4]; simp)
              clear h4
              go_wp2_with fail
              go_roundw
              case rel => exact ⟨t + 1, by omega, by go_num, by rw [HE.out]; exact HO3, HB3⟩
              case measure => simp [intOf]; omega
            · have h4' : (x.op != 4) = true := by simp at h4 ⊢; exact h4
              have HE := hid (show L ++ locR (xs.take (t + 1)) = M ++ [x.loc] by
                have : (x.op == 4) = false := by simpa using h4
                rw [HMT.out, HEV.out, this]; rfl)
              clear h4
              go_wp2_with (at_builtin; refine wpList_append_one rfl (.tmp 26) (.tmp 29) 42 rfl w.heap.size 3 (.int .i64 0) 8 Try.underlying42 Try.info_int rfl _ _ _ rfl (HO3.out.alloc _) _ (.int .i64 x.loc) rfl (by simp) rfl (by omega) (by omega) (by simp; omega) ?_)
              intro v1 w4 hown1 hgrow1
              have HO4 := hid (show w4.ownsRow w.heap.size 3 1 v1 (L ++ locR (xs.take (t + 1))).length (ints (L ++ locR (xs.take (t + 1)))) by
                rw [HE.out, List.length_append]
                simpa [ints] using hown1)
              have HB4 := hid ((HB3.out.alloc HB3.out.size _).grown hgrow1 (by simp; omega) (fun b hb => (HO2.out.lt b hb).1))
              clear hown1 hgrow1
              go_wp2_with fail
              go_roundw
              case rel => exact ⟨t + 1, by omega, by go_num, HO4, HB4⟩
              case measure => simp [intOf]; omega
          · have HTM := hid (show t = m by omega)
            rw [HTM.out, HRA.out, ← HSJ.out] at HO2
            go_wp2_with fail
            go_roundw
            case rel => exact ⟨j + 1, by omega, by go_num, HO2, HB2⟩
            case measure => simp [intOf]; omega
      · have HJ := hid (show j = n by omega)
        have hll := HLE.out n
        rw [HJ.out, HA.out] at HO
        rw [HA.out] at hll
        obtain ⟨a1, cap1, rfl, _⟩ := own_shape HO.out
        have HSC := hid (sort_c wo w.heap.size cap1 a1 (locL p) HO.out (by omega))
        have hlen : ((locL p).mergeSort fun x y => decide (x ≤ y)).length = (locL p).length := List.length_mergeSort _
        have HCC := hid (fun w' h => compact_c w' w.heap.size cap1 a1 ((locL p).mergeSort fun x y => decide (x ≤ y)) h (by rw [hlen]; omega))
        rw [hlen, HLAW.out] at HCC
        obtain ⟨L, eL⟩ : ∃ L, L = (locL p).length := ⟨_, rfl⟩
        rw [← eL] at HSC HCC ⊢
        clear hlen eL
        go_wp2_with fail
        refine HSC.out.mono ?_
        rintro e w2 ⟨rfl, ho2, hk2⟩
        have HB2 := hid (Below.keeps HB.out hk2 HB.out.size (fun k hk => hk))
        have HO2 := hid ho2
        clear ho2 hk2
        go_wp2_with fail
        refine (HCC.out _ HO2.out).mono ?_
        rintro e w3 ⟨rfl, ho3, hk3⟩
        have HB3 := hid (Below.keeps HB2.out hk3 HB2.out.size (fun k hk => hk))
        have HO3 := hid ho3
        clear ho3 hk3
        go_wp2
        go_ret
        exact ⟨_, _, rfl, HO3.out, HB3.out⟩
  · have hv : progValid p = false := by simpa using hv
    have HF := hid (show locsP p = [] by unfold locsP; rw [hv]; rfl)
    rw [hv] at HPV
    rw [HF.out]
    clear h hl hv
    go_enter Try.func35, Try.ntmps35
    go_wp2_with fail
    refine HPV.out.mono ?_
    rintro e w1 ⟨rfl, hb1⟩
    go_wp2
    go_ret
    exact ⟨none, 0, rfl, own_none _ _ _ _, hb1⟩
end Go.Proofs.Ytciplfdgjbehgaa
