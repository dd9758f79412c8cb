/-
  PROVED HERE: what impl.RunSchedule does. CONDITIONS: as each theorem states.
-/
import Derived.Test.YtbncmeggnhggkaaIme
import Derived.Test.YtbncmeggnhggkaaImg
namespace Go.Proofs.Ytbncmeggnhggkaa
open Go.RowKit
set_option linter.unusedVariables false
set_option linter.unusedSimpArgs false

theorem moves3_len {p : Prg} (s : St) (hv : Shape p) : (moves3 p s).length ≤ 1000 := by
  have := movesTo_len p s p.length
  have := hv.len
  show (movesTo p s p.length).length ≤ 1000
  omega
/-- The machine with one memory. -/
def seqM (p : Prg) (hv : Shape p) : Mach St where
  T := 88
  lies w b s := MAt 94 [] w b p s
  later h hb := h.below hb
  mv := moves3 p
  st s m := do3 p s m.toNat
  dn := done3 p
  out := out3
  fm := 122
  fa := 118
  fd := 120
  fo := 123
  mvlen {_ _ s} _ := moves3_len s hv
  moves_c w b s h := seqMoves_c w b p s h.v hv
  after_c w b s m h hm := by
    obtain ⟨t, rfl, _, hgo⟩ := (mem_moves3 m).1 hm
    exact seqAfter_c w b p s t h hv hgo
  done_c w b s h := seqDone_c w b p s h.v hv
  outcome_c w b s h := outcome_c w b p s h.v hv
  hm b w := by kernel_rfl
  ha b w := by kernel_rfl
  hd b w := by kernel_rfl
  ho b w := by kernel_rfl
  cm args w := run_callFunc Try.func122 rfl rfl args w
  ca args w := run_callFunc Try.func118 rfl rfl args w
  cd args w := run_callFunc Try.func120 rfl rfl args w
  co args w := run_callFunc Try.func123 rfl rfl args w

set_option maxHeartbeats 800000 in
theorem rsI_c (w : World) (a : Option Addr) (cap : Nat) (p : Prg) (a' : Option Addr) (cap' : Nat) (ms : List Int) (h : RdP w a p) (h' : Rd w a' (ints ms)) (hl : sizeP p ≤ 1048576) (hl' : ms.length ≤ 1048576) :
    Calls Try.prog 14 #[.slice a p.length cap, .slice a' ms.length cap'] w (RetLB w (runSch p ms)) := by
  have HV := hid (pvI_c w a cap p h hl)
  by_cases hv : progValid p = true
  · rw [hv] at HV
    have hsh := (valid_of hv).toShape
    have HRES := hid (show runSch p ms = runRes (done3 p) out3 (seqRun p ms) by unfold runSch; rw [if_pos hv])
    have HNEW := hid (fun w h => newSeq_c w a cap p h hsh)
    have HFIN := hid (fun w b s h hm => finished_c (seqM p hsh) w b s a' cap' ms h hm hl')
    have HP := hid h
    have HM := hid h'
    rw [HRES.out]
    clear hv hl hl' h h' HRES
    go_enter Try.func14, Try.ntmps14
    go_wp2_with fail
    refine HV.out.mono ?_
    rintro e w1 ⟨rfl, hb1⟩
    have HB1 := hid hb1
    clear hb1
    go_wp2_with fail
    refine (HNEW.out _ (HP.out.below HB1.out)).mono ?_
    rintro e w2 ⟨rfl, hat, hb2⟩
    have HAT := hid hat
    have HB2 := hid (HB1.out.trans (hb2.mono HB1.out.size))
    clear hat hb2
    go_wp2_with fail
    refine (HFIN.out _ _ (start3 p 0) HAT.out (HM.out.below HB2.out)).mono ?_
    rintro e w3 ⟨a3, c3, rfl, ho3, hb3⟩
    have HO3 := hid ho3
    have HB3 := hid hb3
    clear ho3 hb3
    go_wp2
    go_ret2
    exact ⟨a3, c3, rfl, own_base HO3.out HB2.out.size, HB2.out.trans (HB3.out.mono HB2.out.size)⟩
  · have hv : progValid p = false := by simpa using hv
    rw [hv] at HV
    have HRES := hid (show runSch p ms = ([], false) by unfold runSch; rw [hv]; rfl)
    rw [HRES.out]
    clear hv h h' hl hl' HRES
    go_enter Try.func14, Try.ntmps14
    go_wp2_with fail
    refine HV.out.mono ?_
    rintro e w1 ⟨rfl, hb1⟩
    have HB1 := hid hb1
    clear hb1
    go_wp2
    go_ret2
    exact retLB_nil HB1.out
end Go.Proofs.Ytbncmeggnhggkaa
