/-
  PROVED HERE: what impl.RunChoices and impl.ChoicesAfter do. CONDITIONS: as each theorem states.
-/
import Derived.Test.YthlmfjoiicnomaaWu
import Derived.Test.YthlmfjoiicnomaaWv
import Derived.Test.YthlmfjoiicnomaaWs
import Derived.Test.YthlmfjoiicnomaaVav
namespace Go.Proofs.Ythlmfjoiicnomaa
open Go.RowKit
set_option linter.unusedVariables false
set_option linter.unusedSimpArgs false

set_option maxRecDepth 100000 in
def viewM (p : Prg) (hv : Shape p) : Mach Vs where
  T := 102
  lies w b s := VwAt w b p s
  later h hb := h.below hb
  mv s := moves5 p s
  st s m := doC p s m
  dn := done5 p
  out := out5
  fm := 133
  fa := 129
  fd := 131
  fo := 134
  mvlen {_ _ s} h := by have := moves5_len h.good hv; omega
  moves_c w b s h := vMoves_c w b p s h hv
  after_c w b s m h hm := by
    obtain ⟨c, rfl, hc⟩ := (mem_moves5 h.good hv m).1 hm
    unfold doC
    rw [Int.toNat_natCast]
    exact vAfter_c w b p s c (c % 3) (c / 3) h hv rfl rfl hc
  done_c w b s h := vDone_c w b p s h hv
  outcome_c w b s h := vOutcome_c w b p s h hv
  hm b w := by kernel_rfl
  ha b w := by kernel_rfl
  hd b w := by kernel_rfl
  ho b w := by kernel_rfl
  cm args w := run_callFunc Try.func133 rfl rfl args w
  ca args w := run_callFunc Try.func129 rfl rfl args w
  cd args w := run_callFunc Try.func131 rfl rfl args w
  co args w := run_callFunc Try.func134 rfl rfl args w

set_option maxRecDepth 100000 in
set_option maxHeartbeats 800000 in
theorem rcI_c (w : World) (a : Option Addr) (cap : Nat) (p : Prg) (a' : Option Addr) (cap' : Nat) (ms : List Int) (h : RdP w a p) (h' : Rd w a' (ints ms)) (hl : sizeP p ≤ 1048576) (hl' : ms.length ≤ 1048576) :
    Calls Try.prog 9 #[.slice a p.length cap, .slice a' ms.length cap'] w (RetLB w (runCho p ms)) := by
  have HV := hid (pvI_c w a cap p h hl)
  by_cases hv : progValid p = true
  · rw [hv] at HV
    have hsh := (valid_of hv).toShape
    have HRES := hid (show runCho p ms = runRes (done5 p) out5 (raRun p ms) by unfold runCho; rw [if_pos hv])
    have HNEW := hid (fun w h => newViews_c w a cap p h hsh)
    have HFIN := hid (fun w b s h hm => finished_c (viewM p hsh) w b s a' cap' ms h hm hl')
    have HP := hid h
    have HM := hid h'
    rw [HRES.out]
    clear hv hl hl' h h' HRES
    go_enter Try.func9, Try.ntmps9
    go_wp2_with fail
    refine HV.out.mono ?_
    rintro e w1 ⟨rfl, hb1⟩
    have HB1 := hid hb1
    clear hb1
    go_wp2_with fail
    refine (HNEW.out _ (HP.out.below HB1.out)).mono ?_
    rintro e w2 ⟨g2, rfl, hat, hb2⟩
    have HAT := hid hat
    have HB2 := hid (HB1.out.trans (hb2.mono HB1.out.size))
    clear hat hb2
    go_wp2_with fail
    refine (HFIN.out _ _ (start5 p) HAT.out (HM.out.below HB2.out)).mono ?_
    rintro e w3 ⟨a3, c3, rfl, ho3, hb3⟩
    have HO3 := hid ho3
    have HB3 := hid hb3
    clear ho3 hb3
    go_wp2
    go_ret2
    exact ⟨a3, c3, rfl, own_base HO3.out HB2.out.size, HB2.out.trans (HB3.out.mono HB2.out.size)⟩
  · have hv : progValid p = false := by simpa using hv
    rw [hv] at HV
    have HRES := hid (show runCho p ms = ([], false) by unfold runCho; rw [hv]; rfl)
    rw [HRES.out]
    clear hv h h' hl hl' HRES
    go_enter Try.func9, Try.ntmps9
    go_wp2_with fail
    refine HV.out.mono ?_
    rintro e w1 ⟨rfl, hb1⟩
    have HB1 := hid hb1
    clear hb1
    go_wp2
    go_ret2
    exact retLB_nil HB1.out
set_option maxRecDepth 100000 in
set_option maxHeartbeats 800000 in
theorem caI_c (w : World) (a : Option Addr) (cap : Nat) (p : Prg) (a' : Option Addr) (cap' : Nat) (ms : List Int) (h : RdP w a p) (h' : Rd w a' (ints ms)) (hl : sizeP p ≤ 1048576) (hl' : ms.length ≤ 1048576) :
    Calls Try.prog 13 #[.slice a p.length cap, .slice a' ms.length cap'] w (RetL w (choAft p ms)) := by
  have HV := hid (pvI_c w a cap p h hl)
  by_cases hv : progValid p = true
  · rw [hv] at HV
    have hsh := (valid_of hv).toShape
    have HRES := hid (show choAft p ms = (match raRun p ms with | some s => moves5 p s | none => []) by unfold choAft; rw [if_pos hv]; rfl)
    have HNEW := hid (fun w h => newViews_c w a cap p h hsh)
    obtain ⟨M, hM⟩ : ∃ M, M = viewM p hsh := ⟨_, rfl⟩
    have HFOL := hid (fun w b s h hm => follow_c M w b s a' cap' ms h hm hl')
    have HLI := hid (show ∀ w b s, VwAt w b p s → M.lies w b s from by rw [hM]; intro w b s h; exact h)
    have HTT := hid (show M.T = 102 from by rw [hM]; rfl)
    have HRU := hid (show Proofs.Ythlmfjoiicnomaa.follow M.mv M.st (start5 p) ms = raRun p ms from by rw [hM]; rfl)
    have HMM := hid (show ∀ s, M.mv s = moves5 p s from by rw [hM]; intro s; rfl)
    have HP := hid h
    have HM := hid h'
    clear hv hl hl' h h' hM
    go_enter Try.func13, Try.ntmps13
    go_wp2_with fail
    refine HV.out.mono ?_
    rintro e w1 ⟨rfl, hb1⟩
    have HB1 := hid hb1
    clear hb1
    go_wp2_with fail
    refine (HNEW.out _ (HP.out.below HB1.out)).mono ?_
    rintro e w2 ⟨g2, rfl, hat, hb2⟩
    have HAT := hid (HLI.out _ _ _ hat)
    have HB2 := hid (HB1.out.trans (hb2.mono HB1.out.size))
    clear hat hb2
    rw [← HTT.out]
    go_wp2_with fail
    refine (HFOL.out _ _ (start5 p) HAT.out (HM.out.below HB2.out)).mono ?_
    rintro e w3 ⟨hfr, hb3⟩
    rw [HRU.out] at hfr
    have HB3 := hid (HB2.out.trans (hb3.mono HB2.out.size))
    clear hb3
    cases hm : raRun p ms with
    | none =>
      rw [hm] at hfr
      have hfr : e = .returned (.tuple #[.nilIface, .bool false]) := hfr
      subst hfr
      have HF := hid (show choAft p ms = [] from by rw [HRES.out, hm])
      clear hm
      go_wp2
      go_ret
      rw [HF.out]
      exact ⟨none, 0, rfl, own_none _ _ _ 1, HB3.out⟩
    | some s =>
      rw [hm] at hfr
      obtain ⟨b, rfl, hls⟩ := hfr
      have HF := hid (show choAft p ms = M.mv s from by rw [HRES.out, hm, HMM.out])
      have HMV := hid (M.moves_c w3 b s hls)
      obtain ⟨L, hL⟩ : ∃ L, L = M.mv s := ⟨_, rfl⟩
      rw [← hL] at HMV HF
      have hm1 := M.hm b
      have hcm1 := M.cm
      clear hm hls hL
      go_wp2_with fail
      refine HMV.out.mono ?_
      rintro e w4 ⟨ma, mc, rfl, hown, hb4⟩
      have HO4 := hid hown
      have HB4 := hid hb4
      clear hown hb4
      go_wp2
      go_ret
      rw [HF.out]
      exact ⟨ma, mc, rfl, own_base HO4.out HB3.out.size, HB3.out.trans (HB4.out.mono HB3.out.size)⟩
  · have hv : progValid p = false := by simpa using hv
    rw [hv] at HV
    have HRES := hid (show choAft p ms = [] by unfold choAft; rw [hv]; rfl)
    rw [HRES.out]
    clear hv h h' hl hl' HRES
    go_enter Try.func13, Try.ntmps13
    go_wp2_with fail
    refine HV.out.mono ?_
    rintro e w1 ⟨rfl, hb1⟩
    have HB1 := hid hb1
    clear hb1
    go_wp2
    go_ret
    exact ⟨none, 0, rfl, own_none _ _ _ 1, HB1.out⟩
end Go.Proofs.Ythlmfjoiicnomaa
