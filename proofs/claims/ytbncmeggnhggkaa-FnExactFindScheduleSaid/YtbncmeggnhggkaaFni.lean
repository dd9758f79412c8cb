/-
  PROVED HERE: what impl.FindSchedule does. CONDITIONS: as each theorem states.
-/
import Derived.Test.YtbncmeggnhggkaaSrt
namespace Go.Proofs.Ytbncmeggnhggkaa
open Go.RowKit
set_option linter.unusedVariables false
set_option linter.unusedSimpArgs false

theorem fsI_c (w : World) (a : Option Addr) (cap : Nat) (p : Prg) (a' : Option Addr) (cap' : Nat) (o : List Int) (h : RdP w a p) (h' : Rd w a' (ints o)) (hl : sizeP p ≤ 1048576) (hl' : o.length ≤ 1048576) :
    Calls Try.prog 29 #[.slice a p.length cap, .slice a' o.length cap'] w (RetLB w (findSch p o)) := by
  have HV := hid (ovI_c w a cap p a' cap' o h h' hl hl')
  by_cases hv : outValid p o = true
  · rw [hv] at HV
    have hpv : progValid p = true ∧ o.length = p.length * 3 + 3 := by
      unfold outValid at hv
      simp only [Bool.and_eq_true, decide_eq_true_eq] at hv
      exact ⟨hv.1.1, by have := hv.1.2; omega⟩
    have hsh := (valid_of hpv.1).toShape
    have HRES := hid (show findSch p o = findRes (bestS p o (start3 p 0)) by unfold findSch; rw [if_pos hv])
    have HNEW := hid (fun w h => newSeq_c w a cap p h hsh)
    have HFIN := hid (fun w b h hm => search_c w b p o a' cap' h hm hpv.1 hpv.2)
    have HP := hid h
    have HM := hid h'
    rw [HRES.out]
    clear hv hpv hsh hl hl' h h' HRES
    go_enter Try.func29, Try.ntmps29
    go_wp2_with fail
    refine HV.out.mono ?_
    rintro e w1 ⟨rfl, hb1⟩
    have HB1 := hid hb1
    clear hb1
    go_wp2_with fail
    refine (HNEW.out _ (HP.out.below HB1.out)).mono ?_
    rintro e w2 ⟨rfl, hat, hb2⟩
    have HAT := hid hat
    have HB2 := hid (HB1.out.trans (hb2.mono HB1.out.size))
    clear hat hb2
    go_wp2_with fail
    refine (HFIN.out _ _ HAT.out (HM.out.below HB2.out)).mono ?_
    rintro e w3 ⟨a3, c3, rfl, ho3, hb3⟩
    have HO3 := hid ho3
    have HB3 := hid hb3
    clear ho3 hb3
    go_wp2
    go_ret2
    exact ⟨a3, c3, rfl, own_base HO3.out HB2.out.size, HB2.out.trans (HB3.out.mono HB2.out.size)⟩
  · have hv : outValid p o = false := by simpa using hv
    rw [hv] at HV
    have HRES := hid (show findSch p o = ([], false) by unfold findSch; rw [hv]; rfl)
    rw [HRES.out]
    clear hv h h' hl hl' HRES
    go_enter Try.func29, Try.ntmps29
    go_wp2_with fail
    refine HV.out.mono ?_
    rintro e w1 ⟨rfl, hb1⟩
    have HB1 := hid hb1
    clear hb1
    go_wp2
    go_ret2
    exact retLB_nil HB1.out
theorem findSch_len (p : Prg) (o : List Int) : (findSch p o).1.length ≤ 1048576 := by
  unfold findSch
  split
  · rename_i hv
    have hpv : progValid p = true := by
      unfold outValid at hv
      simp only [Bool.and_eq_true, decide_eq_true_eq] at hv
      exact hv.1.1
    have hsh := (valid_of hpv).toShape
    unfold findRes
    split
    · rename_i π hb
      have h1 := best3_len hsh o _ _ _ (good_start p 0) hb
      have h2 := left4_le (G3.start p) hsh
      dsimp only
      omega
    · exact Nat.zero_le _
  · exact Nat.zero_le _
end Go.Proofs.Ytbncmeggnhggkaa
