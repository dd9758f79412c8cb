/-
  PROVED HERE: what impl.FormatProgram does. CONDITIONS: as each theorem states.
-/
import Derived.Test.YtmeoclkngjboiaaDoorTxp
import Derived.Test.YtmeoclkngjboiaaDoorShf
namespace Go.Proofs.YtmeoclkngjboiaaDoor
open Go.RowKit
set_option linter.unusedVariables false
set_option linter.unusedSimpArgs false

theorem Tryd.info_str : (Tryd.prog.info? 9).map (fun i => (i.zero, i.size, i.bytes)) = some (some (.string ⟨#[]⟩), 1, 16) := by kernel_rfl
/-- The cells of texts. -/
def sL (ls : List (List UInt8)) : List Value := ls.map fun l => .string (ba l)
theorem length_sL (ls : List (List UInt8)) : (sL ls).length = ls.length := by simp [sL]
theorem set_rep {α : Type} (l : List α) (z v : α) (n k : Nat) (hl : l.length = k) (hk : k < n) : (l ++ List.replicate (n - k) z).set k v = (l ++ [v]) ++ List.replicate (n - (k + 1)) z := by
  have e : List.replicate (n - k) z = z :: List.replicate (n - (k + 1)) z := by
    rw [show n - k = (n - (k + 1)) + 1 by omega]; rfl
  rw [e, List.set_append_right _ _ (by omega), hl, Nat.sub_self, List.append_assoc]
  rfl
theorem sL_step (ls : List (List UInt8)) (n k : Nat) (y : List UInt8) (hn : ls.length = n) (hk : ls[k]? = some y) :
    (sL (ls.take k) ++ List.replicate (n - k) (Value.string ⟨#[]⟩)).set k (.string (ba y)) = sL (ls.take (k + 1)) ++ List.replicate (n - (k + 1)) (.string ⟨#[]⟩) := by
  obtain ⟨hi, rfl⟩ := List.getElem?_eq_some_iff.1 hk
  rw [set_rep _ _ _ n k (by rw [length_sL, List.length_take]; omega) (by omega), List.take_succ_eq_append_getElem hi]
  have e2 : sL (ls.take k ++ [ls[k]]) = sL (ls.take k) ++ [.string (ba ls[k])] := by simp only [sL, List.map_append]; rfl
  rw [e2]
theorem join_c (w : World) (base cap : Nat) (a : Option Addr) (ls : List (List UInt8)) (c : UInt8) (h : w.ownsRow base 9 1 (.slice a ls.length cap) ls.length (sL ls)) (hlen : (Lib.join ls [c]).length ≤ 1000000) (hls : ls.length ≤ 1000000) :
    Calls Tryd.prog 36 #[.slice a ls.length cap, .string ⟨#[c]⟩] w fun e w' => e = .returned (.string (ba (Lib.join ls [c]))) ∧ Below w.heap.size w w' := by
  by_cases h0 : ls.length = 0
  · have e : ls = [] := List.eq_nil_of_length_eq_zero h0
    subst e
    refine (Tryd.strings_Join_none a cap ⟨#[c]⟩ w).mono ?_
    rintro e w' ⟨rfl, rfl⟩
    exact ⟨rfl, Below.refl _ _⟩
  · obtain ⟨g, rfl, _, hg⟩ := own_some h (by omega)
    have hcap : ls.length ≤ cap := by
      rcases h.2 with ⟨_, h1⟩ | ⟨g', cap', cur, hv, _, _, hc, _⟩
      · omega
      · simp only [Value.slice.injEq, true_and] at hv
        obtain ⟨_, rfl⟩ := hv
        exact hc
    have hm : (ls.map ba).map (·.data.toList) = ls := by
      rw [List.map_map]
      have : ((fun x : ByteArray => x.data.toList) ∘ ba) = id := by funext l; rfl
      rw [this, List.map_id]
    have := Tryd.strings_Join g 0 cap (ls.map ba) ⟨#[c]⟩ w (fun j x hx => by
      have hj := (List.getElem?_eq_some_iff.1 hx).1
      rw [List.length_map] at hj
      rw [Nat.zero_add, h.cellAt j (by omega)]
      simp [sL, hj] at hx ⊢
      exact hx) hg (by rw [List.length_map]; omega) (by rw [List.length_map]; exact hcap) (by rw [hm]; exact Nat.le_trans hlen (by decide))
    rw [hm, List.length_map] at this
    exact this

set_option maxHeartbeats 3200000 in
theorem fpI_c (w : World) (a : Option Addr) (cap : Nat) (p : Prg) (h : RdP w a p) (hl : sizeP p ≤ 1048576) :
    Calls Tryd.prog 13 #[.slice a p.length cap] w fun e w' => e = .returned (.string (fmtPrg p)) ∧ Below w.heap.size w w' := by
  have HV := hid (pvI_c w a cap p h hl)
  by_cases hv : progValid p = true
  · have HF := hid (show fmtPrg p = ba (prgL p) by unfold fmtPrg; rw [if_pos hv])
    have hs := (valid_of hv).toShape
    have hpl := hs.len
    have HR7 := hid hs.row
    have HIV := hid hs.ins
    have HPL := hid (show (Lib.join (p.map rowL) [124]).length ≤ 1000000 by have := prgTo_le hs p.length; rw [prgTo_all] at this; exact Nat.le_trans this (by omega))
    have HLP := hid (show (p.map rowL).length = p.length from List.length_map _)
    have HTP := hid (show (p.map rowL).take p.length = p.map rowL by rw [List.take_of_length_le]; rw [List.length_map]; exact Nat.le_refl _)
    have HPA := hid (fun k xs (hx : p[k]? = some xs) => (show (p.map rowL)[k]? = some (rowL xs) by rw [List.getElem?_map, hx]; rfl))
    have HPE := hid (show Lib.join (p.map rowL) [124] = prgL p from rfl)
    have HH := hid h
    rw [hv] at HV
    obtain ⟨n, hn⟩ : ∃ n, n = p.length := ⟨_, rfl⟩
    have HN := hid hn
    rw [← hn] at hpl HLP HTP HV ⊢
    obtain ⟨PL, hPL⟩ : ∃ PL, PL = p.map rowL := ⟨_, rfl⟩
    rw [← hPL] at HPL HLP HTP HPA HPE
    obtain ⟨i0, hi, hz0, hz1, hz2⟩ := info_parts Tryd.info_str
    have HI := hid (And.intro hi (And.intro hz0 (And.intro hz1 hz2)))
    clear hn h hl hv hs hPL hi hz0 hz1 hz2
    go_enter Tryd.func13, Tryd.ntmps13
    go_wp2_with fail
    refine HV.out.mono ?_
    rintro e w1 ⟨rfl, hb1⟩
    have HB1 := hid hb1
    clear hb1
    go_wp2_with (at_make; refine wpList_make_full _ rfl _ _ 42 rfl w.heap.size 9 i0 _ 1 Tryd.underlying42 HI.out.1 HI.out.2.1 HI.out.2.2.1 .i64 .i64 _ _ n rfl rfl rfl rfl (by rw [HI.out.2.2.2]; omega) (by unfold maxLen; omega) HB1.out.size ?_; intro w2 hown hgrow)
    have HO := hid (show w2.ownsRow w.heap.size 9 1 (.slice (some ⟨w1.heap.size, 0, none⟩) n n) n (sL (PL.take 0) ++ List.replicate (n - 0) (.string ⟨#[]⟩)) by simpa [toList_madeCells_one, Value.cells, sL] using hown)
    have HB2 := hid (HB1.out.grown hgrow HB1.out.size (by simp))
    have HS2 := hid (show w1.heap.size < w2.heap.size by
      rcases hown.2 with ⟨h', _⟩ | ⟨g, c, cur, h', _, hg, _⟩
      · simp at h'
      · simp only [Value.slice.injEq, Option.some.injEq, Addr.mk.injEq, and_true, true_and] at h'
        obtain ⟨rfl, rfl⟩ := h'
        exact (Array.getElem?_eq_some_iff.1 hg).1)
    clear hown hgrow
    go_loopw [17] (fun i wr => ∃ j : Nat, j ≤ n ∧ i = .int .i64 j ∧ Hid (wr.ownsRow w.heap.size 9 1 (.slice (some ⟨w1.heap.size, 0, none⟩) n n) n (sL (PL.take j) ++ List.replicate (n - j) (.string ⟨#[]⟩))) ∧ Hid (w1.heap.size < wr.heap.size) ∧ Hid (Below w.heap.size w wr)) (fun i _ => n - (intOf i).toNat)
    case atStart => exact ⟨0, Nat.zero_le _, rfl, HO, HS2, HB2⟩
    case round =>
      obtain ⟨j, hj, rfl, HO, HS, HBel⟩ := hrel
      obtain ⟨wo, rfl⟩ : ∃ wo : World, wo = wr := ⟨_, rfl⟩
      by_cases hlt : j < n
      · obtain ⟨b, off, r, c, xs, hab, hb, hx, hc, hr⟩ := HH.out.at j (by rw [← HN.out]; exact hlt)
        subst hab
        have HR := hid hr
        have HPJ := hid (HPA.out j xs hx)
        have hm7 := HR7.out j xs hx
        have HIX := hid (HIV.out j xs hx)
        have HLX := hid (show (xs.map insL).length = xs.length from List.length_map _)
        have HTX := hid (show (xs.map insL).take xs.length = xs.map insL by rw [List.take_of_length_le]; rw [List.length_map]; exact Nat.le_refl _)
        have HXA := hid (fun k x (hx : xs[k]? = some x) => (show (xs.map insL)[k]? = some (insL x) by rw [List.getElem?_map, hx]; rfl))
        have HRL := hid (show (Lib.join (xs.map insL) [59]).length ≤ 1000000 by have := rowTo_le xs xs.length; rw [rowTo_all] at this; exact Nat.le_trans this (by omega))
        have HRE := hid (show Lib.join (xs.map insL) [59] = rowL xs from rfl)
        have hcx := (HBel.out.cell (p := ⟨b, off + j, none⟩) hb).trans hc
        obtain ⟨m, hm⟩ : ∃ m, m = xs.length := ⟨_, rfl⟩
        have HMX := hid hm
        rw [← hm] at hcx hm7 HLX HTX
        obtain ⟨XL, hXL⟩ : ∃ XL, XL = xs.map insL := ⟨_, rfl⟩
        rw [← hXL] at HLX HTX HXA HRL HRE
        clear hx hc hr hb hm hXL
        go_wp2_with (at_make; refine wpList_make_full _ rfl _ _ 42 rfl w.heap.size 9 i0 _ 1 Tryd.underlying42 HI.out.1 HI.out.2.1 HI.out.2.2.1 .i64 .i64 _ _ m rfl rfl rfl rfl (by rw [HI.out.2.2.2]; omega) (by unfold maxLen; omega) HBel.out.size ?_; intro w3 hown3 hgrow3)
        have HX3 := hid (show w3.ownsRow w.heap.size 9 1 (.slice (some ⟨wo.heap.size, 0, none⟩) m m) m (sL (XL.take 0) ++ List.replicate (m - 0) (.string ⟨#[]⟩)) by simpa [toList_madeCells_one, Value.cells, sL] using hown3)
        have HO3 := hid (own_kept HO.out hgrow3 (by simp))
        have HB3 := hid (HBel.out.grown hgrow3 HBel.out.size (by simp))
        have HS3 := hid (show wo.heap.size < w3.heap.size by
          rcases hown3.2 with ⟨h', _⟩ | ⟨g, c, cur, h', _, hg, _⟩
          · simp at h'
          · simp only [Value.slice.injEq, Option.some.injEq, Addr.mk.injEq, and_true, true_and] at h'
            obtain ⟨rfl, rfl⟩ := h'
            exact (Array.getElem?_eq_some_iff.1 hg).1)
        clear hown3 hgrow3 hcx
        go_loopw [27] (fun i wr => ∃ t : Nat, t ≤ m ∧ i = .int .i64 t ∧ Hid (wr.ownsRow w.heap.size 9 1 (.slice (some ⟨wo.heap.size, 0, none⟩) m m) m (sL (XL.take t) ++ List.replicate (m - t) (.string ⟨#[]⟩))) ∧ Hid (wr.ownsRow w.heap.size 9 1 (.slice (some ⟨w1.heap.size, 0, none⟩) n n) n (sL (PL.take j) ++ List.replicate (n - j) (.string ⟨#[]⟩))) ∧ Hid (wo.heap.size < wr.heap.size) ∧ Hid (Below w.heap.size w wr)) (fun i _ => m - (intOf i).toNat)
        case atStart => exact ⟨0, Nat.zero_le _, rfl, HX3, HO3, HS3, HB3⟩
        case round =>
          obtain ⟨t, ht, rfl, HX, HOt, HSt, HBt⟩ := hrel
          obtain ⟨w4, rfl⟩ : ∃ w4 : World, w4 = wr := ⟨_, rfl⟩
          by_cases htm : t < m
          · obtain ⟨bx, ox, x, hax, hbx, hx, hat⟩ := HR.out.ins t (by rw [← HMX.out]; exact htm)
            subst hax
            obtain ⟨c0, c1, c2, c3⟩ := hat.below HBt.out hbx
            have HT := hid (fun w => instrText_c w x (HIX.out t x hx))
            have HI2 := hid (ba_ins x)
            rw [HI2.out] at HT
            have HST := hid (sL_step XL m t (insL x) HLX.out (HXA.out t x hx))
            have HLT := hid (show t < (sL (XL.take t) ++ List.replicate (m - t) (Value.string ⟨#[]⟩)).length by rw [List.length_append, length_sL, List.length_replicate, List.length_take, HLX.out]; omega)
            obtain ⟨CS, hCS⟩ : ∃ CS, CS = sL (XL.take t) ++ List.replicate (m - t) (Value.string ⟨#[]⟩) := ⟨_, rfl⟩
            rw [← hCS] at HX HST HLT
            have HB4 := hid (HBt.out.alloc HBt.out.size (.cells #[.int .i64 x.op, .int .i64 x.loc, .int .i64 x.reg, .int .i64 x.val] 46))
            have HX4 := hid (HX.out.alloc (.cells #[.int .i64 x.op, .int .i64 x.loc, .int .i64 x.reg, .int .i64 x.val] 46))
            have HO4 := hid (HOt.out.alloc (.cells #[.int .i64 x.op, .int .i64 x.loc, .int .i64 x.reg, .int .i64 x.val] 46))
            have HW4 := hid (show w4.heap.size ≤ (w4.alloc (.cells #[.int .i64 x.op, .int .i64 x.loc, .int .i64 x.reg, .int .i64 x.val] 46)).heap.size by simp)
            clear hat hx hbx hCS
            go_wp2_with fail
            refine (HT.out _).mono ?_
            rintro e w5 ⟨rfl, hb5⟩
            have HB5 := hid (HB4.out.trans (hb5.mono HB4.out.size))
            have HX5 := hid (own_below HX4.out hb5)
            have HO5 := hid (own_below HO4.out hb5)
            have HS5 := hid (show wo.heap.size < w5.heap.size from Nat.lt_of_lt_of_le HSt.out (Nat.le_trans HW4.out hb5.size))
            have hcell : ∃ z, w5.cell? ⟨wo.heap.size, t, none⟩ = some (.string z) ∨ ∃ z, w5.cell? ⟨wo.heap.size, t, none⟩ = some z := by
              exact ⟨⟨#[]⟩, .inr ⟨_, (HX5.out.cellAt t (by omega)).trans (List.getElem?_eq_getElem HLT.out)⟩⟩
            obtain ⟨z, hz⟩ : ∃ z, w5.cell? ⟨wo.heap.size, t, none⟩ = some z := ⟨_, (HX5.out.cellAt t (by omega)).trans (List.getElem?_eq_getElem HLT.out)⟩
            have hfr := HX5.out.frozenAt t
            have HX6 := hid (HX5.out.stored t (.string (ba (insL x)))).1
            rw [HST.out] at HX6
            have HO6 := hid (own_keeps HO5.out (Keeps.setCell w5 ⟨wo.heap.size, t, none⟩ (.string (ba (insL x)))) (fun b hb e => by
              simp only [blk, Option.some.injEq] at hb
              have := HS.out
              simp only at e
              omega))
            have HB6 := hid (HB5.out.setCell (p := ⟨wo.heap.size, t, none⟩) HBel.out.size (.string (ba (insL x))))
            have HS6 := hid (show wo.heap.size < (w5.setCell ⟨wo.heap.size, t, none⟩ (.string (ba (insL x)))).heap.size by simpa [World.setCell] using HS5.out)
            clear hb5 c0 c1 c2 c3 hcell
            go_wp2_with fail
            go_roundw
            case rel => exact ⟨t + 1, by omega, by go_num, HX6, HO6, HS6, HB6⟩
            case measure => simp [intOf]; omega
          · have HTM := hid (show t = m by omega)
            have HJC := hid (join_c w4 w.heap.size m (some ⟨wo.heap.size, 0, none⟩) XL 59 (by
              have h1 := HX.out
              rw [HTM.out, HTX.out, Nat.sub_self] at h1
              rw [HLX.out]
              simpa using h1) HRL.out (by rw [HLX.out]; omega))
            rw [HLX.out, HRE.out] at HJC
            have HST := hid (sL_step PL n j (rowL xs) HLP.out HPJ.out)
            have HLT := hid (show j < (sL (PL.take j) ++ List.replicate (n - j) (Value.string ⟨#[]⟩)).length by rw [List.length_append, length_sL, List.length_replicate, List.length_take, HLP.out]; omega)
            obtain ⟨CS, hCS⟩ : ∃ CS, CS = sL (PL.take j) ++ List.replicate (n - j) (Value.string ⟨#[]⟩) := ⟨_, rfl⟩
            rw [← hCS] at HOt HST HLT
            clear hCS
            go_wp2_with fail
            refine HJC.out.mono ?_
            rintro e w5 ⟨rfl, hb5⟩
            have HO5 := hid (own_below HOt.out hb5)
            obtain ⟨z, hz⟩ : ∃ z, w5.cell? ⟨w1.heap.size, j, none⟩ = some z := ⟨_, (HO5.out.cellAt j (by omega)).trans (List.getElem?_eq_getElem HLT.out)⟩
            have hfr := HO5.out.frozenAt j
            have HO6 := hid (HO5.out.stored j (.string (ba (rowL xs)))).1
            rw [HST.out] at HO6
            have HB5 := hid (HBt.out.trans (hb5.mono HBt.out.size))
            have HB6 := hid (HB5.out.setCell (p := ⟨w1.heap.size, j, none⟩) HB1.out.size (.string (ba (rowL xs))))
            have HS6 := hid (show w1.heap.size < (w5.setCell ⟨w1.heap.size, j, none⟩ (.string (ba (rowL xs)))).heap.size by
              have h1 := HS.out
              have h2 := HSt.out
              have h3 := hb5.size
              simp [World.setCell]
              omega)
            clear hb5
            go_wp2_with fail
            go_roundw
            case rel => exact ⟨j + 1, by omega, by go_num, HO6, HS6, HB6⟩
            case measure => simp [intOf]; omega
      · have HJ := hid (show j = n by omega)
        have HJC := hid (join_c wo w.heap.size n (some ⟨w1.heap.size, 0, none⟩) PL 124 (by
          have h1 := HO.out
          rw [HJ.out, HTP.out, Nat.sub_self] at h1
          rw [HLP.out]
          simpa using h1) HPL.out (by rw [HLP.out]; omega))
        rw [HLP.out, HPE.out] at HJC
        go_wp2_with fail
        refine HJC.out.mono ?_
        rintro e w5 ⟨rfl, hb5⟩
        have HB5 := hid (HBel.out.trans (hb5.mono HBel.out.size))
        clear hb5
        go_wp2
        go_ret
        exact ⟨ret_str HF.out.symm, HB5.out⟩
  · have hv : progValid p = false := by simpa using hv
    have HF := hid (show fmtPrg p = ⟨#[]⟩ by unfold fmtPrg; rw [hv]; rfl)
    rw [hv] at HV
    clear h hl hv
    go_enter Tryd.func13, Tryd.ntmps13
    go_wp2_with fail
    refine HV.out.mono ?_
    rintro e w1 ⟨rfl, hb1⟩
    have HB1 := hid hb1
    clear hb1
    go_wp2
    go_ret
    exact ⟨ret_str HF.out.symm, HB1.out⟩
end Go.Proofs.YtmeoclkngjboiaaDoor
