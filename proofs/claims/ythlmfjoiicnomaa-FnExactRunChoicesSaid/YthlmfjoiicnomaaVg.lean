/-
  PROVED HERE: what spec.RunChoices and ChoicesAfter do. CONDITIONS: as each theorem states.
-/
import Derived.Test.YthlmfjoiicnomaaVf
import Derived.Test.YthlmfjoiicnomaaVav
namespace Go.Proofs.Ythlmfjoiicnomaa
open Go.RowKit
set_option linter.unusedVariables false
set_option linter.unusedSimpArgs false

theorem wf_i64 {xs : List Int} (h : ∀ n ∈ xs, (Lit.int .i64 n).wf = true) : ∀ m ∈ xs, m ≤ 9223372036854775807 := fun m hm => by
  have := h m hm
  simp only [Lit.wf, Bool.and_eq_true, decide_eq_true_eq] at this
  exact this.2
/-- The choices after a run of choices. -/
def afC (p : Prg) (r : Option Vs) : List Int := match r with | some s => moves5 p s | none => []
theorem retL_lit5 {w w1 : World} (hb : Below w.heap.size w w1) : RetL w [] (.returned (.slice (some ⟨w1.heap.size, 0, none⟩) 0 0)) (w1.alloc (.cells #[] 3)) :=
  ⟨_, 0, rfl, own_lit0 w1 _ _ 1 hb.size, hb.alloc hb.size _⟩

set_option maxRecDepth 100000 in
set_option maxHeartbeats 3200000 in
theorem rcS_c (w : World) (a : Option Addr) (cap : Nat) (p : Prg) (a' : Option Addr) (cap' : Nat) (ms : List Int) (h : RdP w a p) (h' : Rd w a' (ints ms)) (hl : sizeP p ≤ 1048576) (hl' : ms.length ≤ 1048576) (hin : ∀ m ∈ ms, m ≤ 9223372036854775807) :
    Calls Try.prog 10 #[.slice a p.length cap, .slice a' ms.length cap'] w (RetLB w (runCho p ms)) := by
  have HV := hid (pvS_c w a cap p h hl)
  by_cases hv : progValid p = true
  · rw [hv] at HV
    have hsh := (valid_of hv).toShape
    have HRES := hid (show runCho p ms = runRes (done5 p) out5 (raRun p ms) by unfold runCho; rw [if_pos hv]; try rfl)
    have HAFT := hid (fun w (hp : RdP w a p) h' => l5After_c w a cap p a' cap' ms hp h' hsh hl' hin)
    have HDN := hid (fun w q s (hp : RdP w a p) (h : RdV w q s) (hg : Good5 p s) => l5Done_c w a cap p q s hp h hsh hg)
    have HOUT := hid (fun w q s (h : RdV w q s) (hg : Good5 p s) => l5Outcome_c w q s p h hsh hg)
    have HRP := hid h
    have HRM := hid h'
    obtain ⟨n, hn⟩ : ∃ n, n = p.length := ⟨_, rfl⟩
    obtain ⟨l, hll⟩ : ∃ l, l = ms.length := ⟨_, rfl⟩
    rw [HRES.out]
    rw [← hn] at HV HAFT HDN ⊢
    rw [← hll] at HAFT ⊢
    clear hv hsh h h' hl hl' hin hn hll HRES
    unfold Sp.v5 Sp.hd5 at HDN HOUT
    go_enter Try.func10, Try.ntmps10
    go_wp2_with fail
    refine HV.out.mono ?_
    rintro e w1 ⟨rfl, hb1⟩
    have HB1 := hid hb1
    clear hb1
    go_wp2_with fail
    refine (HAFT.out _ (HRP.out.below HB1.out) (HRM.out.below HB1.out)).mono ?_
    rintro e w2 ⟨⟨e0, f0, e1, f1, e2, f2, e3, f3⟩, s, rfl, hfr, hgd, hb2, hsome⟩
    have hrd := hfr.rd
    clear hfr
    have HRD := hid hrd
    have HGD := hid hgd
    have HB2 := hid (HB1.out.trans (hb2.mono HB1.out.size))
    unfold Sp.v5 Sp.hd5
    dsimp only
    have hst : (w2.alloc (.cells #[.slice e0 s.st.pc.length f0, .slice e1 s.st.regs.length f1, .slice e2 s.view.length f2, .slice e3 s.list.length f3] 59)).heap[w2.heap.size]? = some (.cells #[.slice e0 s.st.pc.length f0, .slice e1 s.st.regs.length f1, .slice e2 s.view.length f2, .slice e3 s.list.length f3] 59 (0, 0)) := heap_alloc_new w2 _
    have hba := (Below.refl w2.heap.size w2).alloc (Nat.le_refl _) (.cells #[.slice e0 s.st.pc.length f0, .slice e1 s.st.regs.length f1, .slice e2 s.view.length f2, .slice e3 s.list.length f3] 59)
    obtain ⟨w3, hw3⟩ : ∃ w3, w3 = w2.alloc (.cells #[.slice e0 s.st.pc.length f0, .slice e1 s.st.regs.length f1, .slice e2 s.view.length f2, .slice e3 s.list.length f3] 59) := ⟨_, rfl⟩
    rw [← hw3] at hst hba
    have x3 : (w3.cell? ⟨w2.heap.size, 0, none⟩ = some (.slice e0 s.st.pc.length f0) ∧ w3.cell? ⟨w2.heap.size, 1, none⟩ = some (.slice e1 s.st.regs.length f1) ∧ w3.cell? ⟨w2.heap.size, 2, none⟩ = some (.slice e2 s.view.length f2) ∧ w3.cell? ⟨w2.heap.size, 3, none⟩ = some (.slice e3 s.list.length f3)) := by
      have e := fun (i : Nat) => cell_of_row w3 w2.heap.size i _ _ _ hst
      exact ⟨e 0, e 1, e 2, e 3⟩
    have HST := hid hst
    have HB3 := hid (HB2.out.trans (hba.mono HB2.out.size))
    have hs3 : w3.heap.size = w2.heap.size + 1 := by rw [hw3]; simp
    have HD3 := hid (HDN.out w3 ⟨e0, f0, e1, f1, e2, f2, e3, f3⟩ s (HRP.out.below HB3.out) (hrd.below hba) hgd)
    have HR3 := hid (hrd.below hba)
    clear hrd hgd hb2 hba hst
    rw [hw3] at x3
    have HRU := hid (show (raRun p ms = none ∧ (raRun p ms).isSome = false) ∨ (raRun p ms = some s ∧ (raRun p ms).isSome = true) from by
      cases hm : raRun p ms with
      | none => exact .inl ⟨rfl, rfl⟩
      | some s' => obtain rfl := hsome s' hm; exact .inr ⟨rfl, rfl⟩)
    obtain ⟨B, hB⟩ : ∃ B, B = (raRun p ms).isSome := ⟨_, rfl⟩
    rw [← hB] at HRU ⊢
    clear hsome hB
    cases B
    · have HFIN := hid (show runRes (done5 p) out5 (raRun p ms) = ([], false) from by
        rcases HRU.out with h | h
        · rw [h.1]; try rfl
        · exact absurd h.2 (by decide))
      go_wp2
      go_ret2
      rw [HFIN.out]
      rw [← hw3, ← hs3]
      exact retLB_lit HB3.out
    · have HFIN := hid (show runRes (done5 p) out5 (raRun p ms) = if done5 p s then (out5 s, true) else ([], false) from by
        rcases HRU.out with h | h
        · exact absurd h.2 (by decide)
        · rw [h.1]; rfl)
      go_wp2_with fail
      rw [← hw3]
      obtain ⟨D, hD⟩ : ∃ D, D = done5 p s := ⟨_, rfl⟩
      rw [← hD] at HD3 HFIN
      clear hD
      refine HD3.out.mono ?_
      rintro e w4 ⟨rfl, hb4⟩
      have hg4 := (hb4.block w2.heap.size (by omega)).trans HST.out
      have c4 : (w4.cell? ⟨w2.heap.size, 0, none⟩ = some (.slice e0 s.st.pc.length f0) ∧ w4.cell? ⟨w2.heap.size, 1, none⟩ = some (.slice e1 s.st.regs.length f1) ∧ w4.cell? ⟨w2.heap.size, 2, none⟩ = some (.slice e2 s.view.length f2) ∧ w4.cell? ⟨w2.heap.size, 3, none⟩ = some (.slice e3 s.list.length f3)) := by
        have e := fun (i : Nat) => cell_of_row w4 w2.heap.size i _ _ _ hg4
        exact ⟨e 0, e 1, e 2, e 3⟩
      have HRD4 := hid (HR3.out.below hb4)
      have HB4 := hid (HB3.out.trans (hb4.mono HB3.out.size))
      clear hb4 hg4 x3
      cases D
      · go_wp2
        go_ret2
        rw [HFIN.out]
        exact retLB_lit HB4.out
      · go_wp2_with fail
        refine (HOUT.out _ ⟨e0, f0, e1, f1, e2, f2, e3, f3⟩ s HRD4.out HGD.out).mono ?_
        rintro e w5 ⟨a5, c5, rfl, hown5, hb5⟩
        have HO5 := hid hown5
        have HB5 := hid hb5
        clear hown5 hb5 c4
        go_wp2
        go_ret2
        rw [HFIN.out]
        exact ⟨a5, c5, rfl, own_base HO5.out HB4.out.size, HB4.out.trans (HB5.out.mono HB4.out.size)⟩
  · have hv : progValid p = false := by simpa using hv
    rw [hv] at HV
    have HRES := hid (show runCho p ms = ([], false) by unfold runCho; rw [hv]; rfl)
    rw [HRES.out]
    clear hv h h' hl hl' HRES
    go_enter Try.func10, Try.ntmps10
    go_wp2_with fail
    refine HV.out.mono ?_
    rintro e w1 ⟨rfl, hb1⟩
    have HB1 := hid hb1
    clear hb1
    go_wp2
    go_ret2
    exact retLB_lit HB1.out

set_option maxRecDepth 100000 in
set_option maxHeartbeats 3200000 in
theorem caS_c (w : World) (a : Option Addr) (cap : Nat) (p : Prg) (a' : Option Addr) (cap' : Nat) (ms : List Int) (h : RdP w a p) (h' : Rd w a' (ints ms)) (hl : sizeP p ≤ 1048576) (hl' : ms.length ≤ 1048576) (hin : ∀ m ∈ ms, m ≤ 9223372036854775807) :
    Calls Try.prog 14 #[.slice a p.length cap, .slice a' ms.length cap'] w (RetL w (choAft p ms)) := by
  have HV := hid (pvS_c w a cap p h hl)
  by_cases hv : progValid p = true
  · rw [hv] at HV
    have hsh := (valid_of hv).toShape
    have HRES := hid (show choAft p ms = afC p (raRun p ms) by unfold choAft; rw [if_pos hv]; try rfl)
    have HAFT := hid (fun w (hp : RdP w a p) h' => l5After_c w a cap p a' cap' ms hp h' hsh hl' hin)
    have HCH := hid (fun w q s (hp : RdP w a p) (h : RdV w q s) (hg : Good5 p s) => l5Choices_c w a cap p q s hp h hsh hg)
    have HRP := hid h
    have HRM := hid h'
    obtain ⟨n, hn⟩ : ∃ n, n = p.length := ⟨_, rfl⟩
    obtain ⟨l, hll⟩ : ∃ l, l = ms.length := ⟨_, rfl⟩
    rw [HRES.out]
    rw [← hn] at HV HAFT HCH ⊢
    rw [← hll] at HAFT ⊢
    clear hv hsh h h' hl hl' hin hn hll HRES
    unfold Sp.v5 Sp.hd5 at HCH
    go_enter Try.func14, Try.ntmps14
    go_wp2_with fail
    refine HV.out.mono ?_
    rintro e w1 ⟨rfl, hb1⟩
    have HB1 := hid hb1
    clear hb1
    go_wp2_with fail
    refine (HAFT.out _ (HRP.out.below HB1.out) (HRM.out.below HB1.out)).mono ?_
    rintro e w2 ⟨⟨e0, f0, e1, f1, e2, f2, e3, f3⟩, s, rfl, hfr, hgd, hb2, hsome⟩
    have hrd := hfr.rd
    clear hfr
    have HRD := hid hrd
    have HGD := hid hgd
    have HB2 := hid (HB1.out.trans (hb2.mono HB1.out.size))
    unfold Sp.v5 Sp.hd5
    dsimp only
    have hst : (w2.alloc (.cells #[.slice e0 s.st.pc.length f0, .slice e1 s.st.regs.length f1, .slice e2 s.view.length f2, .slice e3 s.list.length f3] 59)).heap[w2.heap.size]? = some (.cells #[.slice e0 s.st.pc.length f0, .slice e1 s.st.regs.length f1, .slice e2 s.view.length f2, .slice e3 s.list.length f3] 59 (0, 0)) := heap_alloc_new w2 _
    have hba := (Below.refl w2.heap.size w2).alloc (Nat.le_refl _) (.cells #[.slice e0 s.st.pc.length f0, .slice e1 s.st.regs.length f1, .slice e2 s.view.length f2, .slice e3 s.list.length f3] 59)
    obtain ⟨w3, hw3⟩ : ∃ w3, w3 = w2.alloc (.cells #[.slice e0 s.st.pc.length f0, .slice e1 s.st.regs.length f1, .slice e2 s.view.length f2, .slice e3 s.list.length f3] 59) := ⟨_, rfl⟩
    rw [← hw3] at hst hba
    have x3 : (w3.cell? ⟨w2.heap.size, 0, none⟩ = some (.slice e0 s.st.pc.length f0) ∧ w3.cell? ⟨w2.heap.size, 1, none⟩ = some (.slice e1 s.st.regs.length f1) ∧ w3.cell? ⟨w2.heap.size, 2, none⟩ = some (.slice e2 s.view.length f2) ∧ w3.cell? ⟨w2.heap.size, 3, none⟩ = some (.slice e3 s.list.length f3)) := by
      have e := fun (i : Nat) => cell_of_row w3 w2.heap.size i _ _ _ hst
      exact ⟨e 0, e 1, e 2, e 3⟩
    have HST := hid hst
    have HB3 := hid (HB2.out.trans (hba.mono HB2.out.size))
    have hs3 : w3.heap.size = w2.heap.size + 1 := by rw [hw3]; simp
    have HD3 := hid (HCH.out w3 ⟨e0, f0, e1, f1, e2, f2, e3, f3⟩ s (HRP.out.below HB3.out) (hrd.below hba) hgd)
    have HR3 := hid (hrd.below hba)
    clear hrd hgd hb2 hba hst
    rw [hw3] at x3
    have HRU := hid (show (raRun p ms = none ∧ (raRun p ms).isSome = false) ∨ (raRun p ms = some s ∧ (raRun p ms).isSome = true) from by
      cases hm : raRun p ms with
      | none => exact .inl ⟨rfl, rfl⟩
      | some s' => obtain rfl := hsome s' hm; exact .inr ⟨rfl, rfl⟩)
    obtain ⟨B, hB⟩ : ∃ B, B = (raRun p ms).isSome := ⟨_, rfl⟩
    rw [← hB] at HRU ⊢
    clear hsome hB
    cases B
    · have HFIN := hid (show afC p (raRun p ms) = ([] : List Int) from by
        rcases HRU.out with h | h
        · rw [h.1]; try rfl
        · exact absurd h.2 (by decide))
      go_wp2
      go_ret
      rw [HFIN.out]
      rw [← hw3, ← hs3]
      exact retL_lit5 HB3.out
    · have HFIN := hid (show afC p (raRun p ms) = moves5 p s from by
        rcases HRU.out with h | h
        · exact absurd h.2 (by decide)
        · rw [h.1]; rfl)
      go_wp2_with fail
      rw [← hw3]
      refine HD3.out.mono ?_
      rintro e w5 ⟨a5, c5, rfl, hown5, hb5⟩
      have HO5 := hid hown5
      have HB5 := hid hb5
      clear hown5 hb5
      go_wp2
      go_ret
      rw [HFIN.out]
      exact ⟨a5, c5, rfl, own_base HO5.out HB3.out.size, HB3.out.trans (HB5.out.mono HB3.out.size)⟩
  · have hv : progValid p = false := by simpa using hv
    rw [hv] at HV
    have HRES := hid (show choAft p ms = ([] : List Int) by unfold choAft; rw [hv]; rfl)
    rw [HRES.out]
    clear hv h h' hl hl' HRES
    go_enter Try.func14, Try.ntmps14
    go_wp2_with fail
    refine HV.out.mono ?_
    rintro e w1 ⟨rfl, hb1⟩
    have HB1 := hid hb1
    clear hb1
    go_wp2
    go_ret
    exact retL_lit5 HB1.out
end Go.Proofs.Ythlmfjoiicnomaa
