/-
  PROVED HERE: what spec.l5After does. what spec.RunChoices and ChoicesAfter do. CONDITIONS: as each theorem states.
-/
import Derived.Test.YthlmfjoiicnomaaVs
import Derived.Test.YthlmfjoiicnomaaVq
import Derived.Test.YthlmfjoiicnomaaVd
import Derived.Test.YthlmfjoiicnomaaVav
namespace Go.Proofs.Ythlmfjoiicnomaa
open Go.RowKit
set_option linter.unusedVariables false
set_option linter.unusedSimpArgs false

theorem results_cell_tmp5 {P : Program} {fn : Func} {p : Tmp} {ty : TypeId} {u : Tmp} (h : fn.results = #[.cell p ty, .tmp u]) (tmps : Array Value) (w : World) (g : Nat) (t : TypeId) (cs : Array Value) (fr : Nat × Nat) (d : TypeDesc)
    (hp : tmps.getD p undef = .pointer (some ⟨g, 0, none⟩)) (hg : w.heap[g]? = some (.cells cs t fr))
    (hu : P.underlying ty = some d) (hd : (match d with | .struct _ | .array _ _ => true | _ => false) = true) (hi : (P.info? ty).map (·.size) = some cs.size) :
    (results fn tmps).run P w = .ok (.tuple #[.agg cs, tmps.getD u undef]) w := by
  have hp' : tmps[p]?.getD undef = .pointer (some ⟨g, 0, none⟩) := by simpa using hp
  simp [results, h, hp', asAddr, run_loadVar_row w g t ty cs fr d hg hu hd hi]
theorem one5 (q : Sp) (s : Vs) : (q.hd5 s).all (·.oneCell') = true := by simp [Value.oneCell']
/-- What l5After gives: the state in which the choices end, or some state and false. -/
def AftV (w : World) (p : Prg) (ms : List Int) (e : Ending) (w' : World) : Prop :=
  ∃ (q : Sp) (s : Vs), e = .returned (.tuple #[q.v5 s, .bool (raRun p ms).isSome]) ∧ FrC w' w.heap.size q (ct s) ∧ Good5 p s ∧ Below w.heap.size w w' ∧ ∀ s', raRun p ms = some s' → s' = s

set_option maxRecDepth 100000 in
set_option maxHeartbeats 3200000 in
theorem l5After_c (w : World) (a : Option Addr) (cap : Nat) (p : Prg) (a' : Option Addr) (cap' : Nat) (ms : List Int) (h : RdP w a p) (h' : Rd w a' (ints ms)) (hv : Shape p) (hl' : ms.length ≤ 1048576) (hin : ∀ m ∈ ms, m ≤ 9223372036854775807) :
    Calls Try.prog 37 #[.slice a p.length cap, .slice a' ms.length cap'] w (AftV w p ms) := by
  have HSTART := hid (fun w => l5Start_c w a cap p (by have := hv.len; omega))
  have HCAN := hid (fun w q s t k (hp : RdP w a p) (h : RdV w q s) (hg : Good5 p s) (hk : k ≤ 9223372036854775807) => l5Can_c w a cap p q s t k hp h hv hg hk)
  have HDO := hid (fun w q s t k (hp : RdP w a p) (h : RdV w q s) (hg : Good5 p s) hc => l5Do_c w a cap p q s t k hp h hv hg hc)
  have HRP := hid h
  have HRM := hid h'
  have HSH := hid hv
  have HIN := hid hin
  obtain ⟨n, hn⟩ : ∃ n, n = p.length := ⟨_, rfl⟩
  obtain ⟨l, hll⟩ : ∃ l, l = ms.length := ⟨_, rfl⟩
  have HN := hid (And.intro hn hll)
  rw [← hn] at HSTART HCAN HDO ⊢
  rw [← hll] at hl' ⊢
  clear hv h h' hin hn hll
  unfold Sp.v5 Sp.hd5 at HDO HCAN HSTART
  go_enter Try.func37, Try.ntmps37
  go_wp2_with fail
  refine (HSTART.out _).mono ?_
  rintro e w2 ⟨q, rfl, hrd, hb2⟩
  go_wp2_with fail
  obtain ⟨w1, hw1⟩ : ∃ w1, w1 = w.alloc (.cells zSt 59) := ⟨_, rfl⟩
  have hres0 : w1.heap[w.heap.size]? = some (.cells zSt 59 (0, 0)) := by rw [hw1]; exact heap_alloc_new w _
  have hs1 : w1.heap.size = w.heap.size + 1 := by rw [hw1]; simp
  have hb1 : Below w.heap.size w w1 := by rw [hw1]; exact (Below.refl _ _).alloc (Nat.le_refl _) _
  have hb2 : Below w1.heap.size w1 w2 := by rw [hw1]; exact hb2
  have hrd : FrC w2 w1.heap.size q (ct (start5 p)) := by rw [hw1]; exact hrd
  have hs2 := hb2.size
  obtain ⟨w3, hw3⟩ : ∃ w3, w3 = w2.alloc (.cells (q.hd5 (start5 p)) 59) := ⟨_, rfl⟩
  have hst : w3.heap[w2.heap.size]? = some (.cells (q.hd5 (start5 p)) 59 (0, 0)) := by rw [hw3]; exact heap_alloc_new w2 _
  have hba : Below w2.heap.size w2 w3 := by rw [hw3]; exact (Below.refl _ _).alloc (Nat.le_refl _) _
  have hb3 : Below w.heap.size w w3 := (hb1.trans (hb2.mono (by omega))).trans (hba.mono (by omega))
  have hr3 : FrC w3 (w.heap.size + 1) q (ct (start5 p)) := ((hrd.below hba).down (by omega))
  have hres3 : w3.heap[w.heap.size]? = some (.cells zSt 59 (0, 0)) := (hba.block _ (by omega)).trans ((hb2.block _ (by omega)).trans hres0)
  have hs3 : w3.heap.size = w2.heap.size + 1 := by rw [hw3]; simp
  have HREL0 := hid (show ∃ (q0 : Sp) (s0 : Vs), follow (moves5 p) (doC p) (start5 p) (ms.take 0) = some s0 ∧ w3.heap[w2.heap.size]? = some (.cells (q0.hd5 s0) 59 (0, 0)) ∧ FrC w3 (w.heap.size + 1) q0 (ct s0) ∧ Good5 p s0 from ⟨q, start5 p, by simp [Proofs.Ythlmfjoiicnomaa.follow], hst, hr3, good_start5 p⟩)
  have HB3 := hid hb3
  have HRE3 := hid hres3
  unfold Sp.hd5 at hw3
  rw [← hw3]
  clear hst hrd hb2 hb3 hr3 hw3 hba hres3 hres0 hb1 hw1
  go_loopw [7] (fun i wr => ∃ k : Nat, k ≤ l ∧ i = .int .i64 k ∧ Hid (∃ (q0 : Sp) (s0 : Vs), follow (moves5 p) (doC p) (start5 p) (ms.take k) = some s0 ∧ wr.heap[w2.heap.size]? = some (.cells (q0.hd5 s0) 59 (0, 0)) ∧ FrC wr (w.heap.size + 1) q0 (ct s0) ∧ Good5 p s0) ∧ Hid (Below w.heap.size w wr) ∧ Hid (wr.heap[w.heap.size]? = some (.cells zSt 59 (0, 0)))) (fun i _ => l - (intOf i).toNat)
  case atStart => exact ⟨0, Nat.zero_le _, rfl, HREL0, HB3, HRE3⟩
  case round =>
    obtain ⟨k, hk, rfl, HR, HB, HRE⟩ := hrel
    obtain ⟨⟨e0, f0, e1, f1, e2, f2, e3, f3⟩, s, hfo, hgr, hrd, hgood⟩ := HR.out
    dsimp only [Sp.hd5] at hgr
    have hg6 : w2.heap.size < wr.heap.size := (Array.getElem?_eq_some_iff.1 hgr).1
    have HFO := hid hfo
    have HGR := hid hgr
    have HFR := hid hrd
    have HRD := hid hrd.rd
    have HGD := hid hgood
    clear HR hfo hgr hrd hgood
    have cs : (wr.cell? ⟨w2.heap.size, 0, none⟩ = some (.slice e0 s.st.pc.length f0) ∧ wr.cell? ⟨w2.heap.size, 1, none⟩ = some (.slice e1 s.st.regs.length f1) ∧ wr.cell? ⟨w2.heap.size, 2, none⟩ = some (.slice e2 s.view.length f2) ∧ wr.cell? ⟨w2.heap.size, 3, none⟩ = some (.slice e3 s.list.length f3)) := by
      have e := fun (i : Nat) => cell_of_row wr w2.heap.size i _ _ _ HGR.out
      exact ⟨e 0, e 1, e 2, e 3⟩
    by_cases hlt : k < l
    · have hkm : k < ms.length := by rw [← HN.out.2]; exact hlt
      obtain ⟨b, off, hab, hbl, hc⟩ := HRM.out.int k hkm
      subst hab
      obtain ⟨m, hm⟩ : ∃ m, m = ms[k] := ⟨_, rfl⟩
      rw [← hm] at hc
      have HX := hid (show ms[k]? = some m by rw [hm]; exact List.getElem?_eq_getElem hkm)
      have hmx : m ≤ 9223372036854775807 := HIN.out m (by rw [hm]; exact List.getElem_mem _)
      have hcm := (HB.out.cell (p := ⟨b, off + k, none⟩) hbl).trans hc
      have hbs := HB.out.size
      clear hc hm hkm
      by_cases hneg : m < 0
      · have HSTOP := hid (show raRun p ms = none from follow_stop HFO.out HX.out (fun h => by obtain ⟨c, e, _⟩ := (mem_moves5 HGD.out HSH.out _).1 h; omega))
        have d0 : decide (m < 0) = true := decide_eq_true hneg
        go_wp2_with (first | (refine wpList_load_row rfl 59 (.tmp 6) rfl w2.heap.size rfl 59 _ (0, 0) _ HGR.out Try.underlying59 rfl (by kernel_rfl) ?_) | (refine wpList_store_row rfl 59 (.tmp 4) (.tmp 33) rfl w.heap.size _ rfl rfl 59 zSt HRE.out (by kernel_rfl) rfl (one5 ⟨e0, f0, e1, f1, e2, f2, e3, f3⟩ s) ?_))
        refine bodyPost_ret (results_cell_tmp5 rfl _ _ w.heap.size 59 _ (0, 0) _ rfl (setRow_heap _ _ _ _ _ _ HRE.out) Try.underlying59 rfl (by kernel_rfl)) rfl ⟨⟨e0, f0, e1, f1, e2, f2, e3, f3⟩, s, by rw [HSTOP.out]; rfl, ?_, HGD.out, ?_, fun s' e => by rw [HSTOP.out] at e; cases e⟩
        · exact (HFR.out.keeps (keeps_setRow wr w.heap.size _) (fun x hx e => by omega)).down (Nat.le_succ _)
        · exact Proofs.Ythlmfjoiicnomaa.Below.keeps HB.out (keeps_setRow wr w.heap.size _) HB.out.size (fun x e => by omega)
      · obtain ⟨t, rfl⟩ : ∃ t : Nat, m = t := ⟨m.toNat, by omega⟩
        have d0 : decide ((t : Int) < 0) = false := decide_eq_false (by omega)
        have ex : ((t % 3 : Nat) : Int) = (t : Int) % 3 := by omega
        have ey : ((t / 3 : Nat) : Int) = (t : Int) / 3 := by omega
        have HC3 := hid (HCAN.out wr ⟨e0, f0, e1, f1, e2, f2, e3, f3⟩ s (t % 3) (t / 3) (HRP.out.below HB.out) HRD.out HGD.out (by omega))
        rw [ex, ey] at HC3
        by_cases hcan : can5 p s (t % 3) (t / 3) = true
        · have HMV := hid (show ((t : Nat) : Int) ∈ moves5 p s from (mem_moves5 HGD.out HSH.out _).2 ⟨t, rfl, hcan⟩)
          have HCT := hid hcan
          rw [hcan] at HC3
          clear hcan ex ey
          go_wp2_with fail
          refine HC3.out.mono ?_
          rintro e w4 ⟨rfl, hb4⟩
          have HB4 := hid (HB.out.trans (hb4.mono hbs))
          have HG4 := hid ((hb4.block _ hg6).trans HGR.out)
          have HR4 := hid (HRD.out.below hb4)
          have HRE4 := hid ((hb4.block _ (by omega)).trans HRE.out)
          have hcm4 := (hb4.cell (p := ⟨b, off + k, none⟩) (by show b < _; omega)).trans hcm
          have hs4 := hb4.size
          clear cs hcm hb4 HC3
          have cs : (w4.cell? ⟨w2.heap.size, 0, none⟩ = some (.slice e0 s.st.pc.length f0) ∧ w4.cell? ⟨w2.heap.size, 1, none⟩ = some (.slice e1 s.st.regs.length f1) ∧ w4.cell? ⟨w2.heap.size, 2, none⟩ = some (.slice e2 s.view.length f2) ∧ w4.cell? ⟨w2.heap.size, 3, none⟩ = some (.slice e3 s.list.length f3)) := by
            have e := fun (i : Nat) => cell_of_row w4 w2.heap.size i _ _ _ HG4.out
            exact ⟨e 0, e 1, e 2, e 3⟩
          have ex : ((t % 3 : Nat) : Int) = (t : Int) % 3 := by omega
          have ey : ((t / 3 : Nat) : Int) = (t : Int) / 3 := by omega
          have HD := hid (HDO.out w4 ⟨e0, f0, e1, f1, e2, f2, e3, f3⟩ s (t % 3) (t / 3) (HRP.out.below HB4.out) HR4.out HGD.out HCT.out)
          rw [ex, ey] at HD
          clear ex ey
          go_wp2_with fail
          refine HD.out.mono ?_
          rintro e w5 ⟨q', rfl, hfr, hb5⟩
          have HG5 := hid ((hb5.block _ (by omega)).trans HG4.out)
          have HB5 := hid (HB4.out.trans (hb5.mono (by omega)))
          have HRE5 := hid ((hb5.block _ (by omega)).trans HRE4.out)
          have HF5 := hid hfr
          have hs5 := hb5.size
          clear hb5 hfr cs hcm4
          have HR6 := hid (show ∃ (q0 : Sp) (s0 : Vs), follow (moves5 p) (doC p) (start5 p) (ms.take (k + 1)) = some s0 ∧ (w5.setRow w2.heap.size (q'.hd5 (do5 p s (t % 3) (t / 3)))).heap[w2.heap.size]? = some (.cells (q0.hd5 s0) 59 (0, 0)) ∧ FrC (w5.setRow w2.heap.size (q'.hd5 (do5 p s (t % 3) (t / 3)))) (w.heap.size + 1) q0 (ct s0) ∧ Good5 p s0 from by
            refine ⟨q', do5 p s (t % 3) (t / 3), by have := follow_step (st := doC p) HFO.out HX.out HMV.out; simpa [doC] using this, setRow_heap _ _ _ _ _ _ HG5.out, (HF5.out.keeps (keeps_setRow w5 w2.heap.size _) (fun x hx e => ?_)).down (by show _ ≤ w4.heap.size; omega), by have := stepC HSH.out HGD.out HMV.out; simpa [doC] using this⟩
            have hx : w4.heap.size ≤ x := hx
            omega)
          have HB6 := hid (show Below w.heap.size w (w5.setRow w2.heap.size (q'.hd5 (do5 p s (t % 3) (t / 3)))) from Proofs.Ythlmfjoiicnomaa.Below.keeps HB5.out (keeps_setRow w5 w2.heap.size _) HB5.out.size (fun x e => by omega))
          have HRE6 := hid (show (w5.setRow w2.heap.size (q'.hd5 (do5 p s (t % 3) (t / 3)))).heap[w.heap.size]? = some (.cells zSt 59 (0, 0)) from ((keeps_setRow w5 w2.heap.size _).block _ (by omega) (by omega)).trans HRE5.out)
          go_wp2_with (refine wpList_store_row rfl 59 (.tmp 6) (.tmp 40) rfl w2.heap.size (q'.hd5 (do5 p s (t % 3) (t / 3))) rfl rfl 59 _ HG5.out (by kernel_rfl) rfl (one5 _ _) ?_)
          obtain ⟨w6, hw6⟩ : ∃ w6, w6 = w5.setRow w2.heap.size (q'.hd5 (do5 p s (t % 3) (t / 3))) := ⟨_, rfl⟩
          rw [← hw6] at HR6 HB6 HRE6 ⊢
          clear hw6 HG5 HB5 HRE5 HF5
          go_wp2_with fail
          go_roundw
          case rel => exact ⟨k + 1, by omega, by go_num, HR6, HB6, HRE6⟩
          case measure => simp [intOf]; omega
        · have HSTOP := hid (show raRun p ms = none from follow_stop HFO.out HX.out (fun h => by obtain ⟨c, e, h2⟩ := (mem_moves5 HGD.out HSH.out _).1 h; obtain rfl : t = c := by omega
                                                                                                 exact hcan h2))
          have hcan : can5 p s (t % 3) (t / 3) = false := by simpa using hcan
          rw [hcan] at HC3
          clear hcan ex ey
          go_wp2_with fail
          refine HC3.out.mono ?_
          rintro e w4 ⟨rfl, hb4⟩
          have HB4 := hid (HB.out.trans (hb4.mono hbs))
          have HG4 := hid ((hb4.block _ hg6).trans HGR.out)
          have HF4 := hid (HFR.out.below hb4)
          have HRE4 := hid ((hb4.block _ (by omega)).trans HRE.out)
          have hs4 := hb4.size
          clear cs hcm hb4 HC3
          go_wp2_with (first | (refine wpList_load_row rfl 59 (.tmp 6) rfl w2.heap.size rfl 59 _ (0, 0) _ HG4.out Try.underlying59 rfl (by kernel_rfl) ?_) | (refine wpList_store_row rfl 59 (.tmp 4) (.tmp 33) rfl w.heap.size _ rfl rfl 59 zSt HRE4.out (by kernel_rfl) rfl (one5 ⟨e0, f0, e1, f1, e2, f2, e3, f3⟩ s) ?_))
          refine bodyPost_ret (results_cell_tmp5 rfl _ _ w.heap.size 59 _ (0, 0) _ rfl (setRow_heap _ _ _ _ _ _ HRE4.out) Try.underlying59 rfl (by kernel_rfl)) rfl ⟨⟨e0, f0, e1, f1, e2, f2, e3, f3⟩, s, by rw [HSTOP.out]; rfl, ?_, HGD.out, ?_, fun s' e => by rw [HSTOP.out] at e; cases e⟩
          · exact (HF4.out.keeps (keeps_setRow w4 w.heap.size _) (fun x hx e => by omega)).down (Nat.le_succ _)
          · exact Proofs.Ythlmfjoiicnomaa.Below.keeps HB4.out (keeps_setRow w4 w.heap.size _) HB4.out.size (fun x e => by omega)
    · have HALL := hid (show raRun p ms = some s from follow_all HFO.out (show ms.length ≤ k by have := HN.out.2; omega))
      go_wp2_with (first | (refine wpList_load_row rfl 59 (.tmp 6) rfl w2.heap.size rfl 59 _ (0, 0) _ HGR.out Try.underlying59 rfl (by kernel_rfl) ?_) | (refine wpList_store_row rfl 59 (.tmp 4) (.tmp 41) rfl w.heap.size _ rfl rfl 59 zSt HRE.out (by kernel_rfl) rfl (one5 ⟨e0, f0, e1, f1, e2, f2, e3, f3⟩ s) ?_))
      refine bodyPost_ret (results_cell_tmp5 rfl _ _ w.heap.size 59 _ (0, 0) _ rfl (setRow_heap _ _ _ _ _ _ HRE.out) Try.underlying59 rfl (by kernel_rfl)) rfl ⟨⟨e0, f0, e1, f1, e2, f2, e3, f3⟩, s, by rw [HALL.out]; rfl, ?_, HGD.out, ?_, fun s' e => by rw [HALL.out] at e; cases e; rfl⟩
      · exact (HFR.out.keeps (keeps_setRow wr w.heap.size _) (fun x hx e => by omega)).down (Nat.le_succ _)
      · exact Proofs.Ythlmfjoiicnomaa.Below.keeps HB.out (keeps_setRow wr w.heap.size _) HB.out.size (fun x e => by omega)

end Go.Proofs.Ythlmfjoiicnomaa
namespace Go.Proofs.Ythlmfjoiicnomaa
open Go.RowKit
set_option linter.unusedVariables false
set_option linter.unusedSimpArgs false

theorem wf_i64 {xs : List Int} (h : ∀ n ∈ xs, (Lit.int .i64 n).wf = true) : ∀ m ∈ xs, m ≤ 9223372036854775807 := fun m hm => by
  have := h m hm
  simp only [Lit.wf, Bool.and_eq_true, decide_eq_true_eq] at this
  exact this.2
/-- The choices after a run of choices. -/
def afC (p : Prg) (r : Option Vs) : List Int := match r with | some s => moves5 p s | none => []
theorem retL_lit5 {w w1 : World} (hb : Below w.heap.size w w1) : RetL w [] (.returned (.slice (some ⟨w1.heap.size, 0, none⟩) 0 0)) (w1.alloc (.cells #[] 3)) :=
  ⟨_, 0, rfl, own_lit0 w1 _ _ 1 hb.size, hb.alloc hb.size _⟩

set_option maxRecDepth 100000 in
set_option maxHeartbeats 3200000 in
theorem rcS_c (w : World) (a : Option Addr) (cap : Nat) (p : Prg) (a' : Option Addr) (cap' : Nat) (ms : List Int) (h : RdP w a p) (h' : Rd w a' (ints ms)) (hl : sizeP p ≤ 1048576) (hl' : ms.length ≤ 1048576) (hin : ∀ m ∈ ms, m ≤ 9223372036854775807) :
    Calls Try.prog 10 #[.slice a p.length cap, .slice a' ms.length cap'] w (RetLB w (runCho p ms)) := by
  have HV := hid (pvS_c w a cap p h hl)
  by_cases hv : progValid p = true
  · rw [hv] at HV
    have hsh := (valid_of hv).toShape
    have HRES := hid (show runCho p ms = runRes (done5 p) out5 (raRun p ms) by unfold runCho; rw [if_pos hv]; try rfl)
    have HAFT := hid (fun w (hp : RdP w a p) h' => l5After_c w a cap p a' cap' ms hp h' hsh hl' hin)
    have HDN := hid (fun w q s (hp : RdP w a p) (h : RdV w q s) (hg : Good5 p s) => l5Done_c w a cap p q s hp h hsh hg)
    have HOUT := hid (fun w q s (h : RdV w q s) (hg : Good5 p s) => l5Outcome_c w q s p h hsh hg)
    have HRP := hid h
    have HRM := hid h'
    obtain ⟨n, hn⟩ : ∃ n, n = p.length := ⟨_, rfl⟩
    obtain ⟨l, hll⟩ : ∃ l, l = ms.length := ⟨_, rfl⟩
    rw [HRES.out]
    rw [← hn] at HV HAFT HDN ⊢
    rw [← hll] at HAFT ⊢
    clear hv hsh h h' hl hl' hin hn hll HRES
    unfold Sp.v5 Sp.hd5 at HDN HOUT
    go_enter Try.func10, Try.ntmps10
    go_wp2_with fail
    refine HV.out.mono ?_
    rintro e w1 ⟨rfl, hb1⟩
    have HB1 := hid hb1
    clear hb1
    go_wp2_with fail
    refine (HAFT.out _ (HRP.out.below HB1.out) (HRM.out.below HB1.out)).mono ?_
    rintro e w2 ⟨⟨e0, f0, e1, f1, e2, f2, e3, f3⟩, s, rfl, hfr, hgd, hb2, hsome⟩
    have hrd := hfr.rd
    clear hfr
    have HRD := hid hrd
    have HGD := hid hgd
    have HB2 := hid (HB1.out.trans (hb2.mono HB1.out.size))
    unfold Sp.v5 Sp.hd5
    dsimp only
    have hst : (w2.alloc (.cells #[.slice e0 s.st.pc.length f0, .slice e1 s.st.regs.length f1, .slice e2 s.view.length f2, .slice e3 s.list.length f3] 59)).heap[w2.heap.size]? = some (.cells #[.slice e0 s.st.pc.length f0, .slice e1 s.st.regs.length f1, .slice e2 s.view.length f2, .slice e3 s.list.length f3] 59 (0, 0)) := heap_alloc_new w2 _
    have hba := (Below.refl w2.heap.size w2).alloc (Nat.le_refl _) (.cells #[.slice e0 s.st.pc.length f0, .slice e1 s.st.regs.length f1, .slice e2 s.view.length f2, .slice e3 s.list.length f3] 59)
    obtain ⟨w3, hw3⟩ : ∃ w3, w3 = w2.alloc (.cells #[.slice e0 s.st.pc.length f0, .slice e1 s.st.regs.length f1, .slice e2 s.view.length f2, .slice e3 s.list.length f3] 59) := ⟨_, rfl⟩
    rw [← hw3] at hst hba
    have x3 : (w3.cell? ⟨w2.heap.size, 0, none⟩ = some (.slice e0 s.st.pc.length f0) ∧ w3.cell? ⟨w2.heap.size, 1, none⟩ = some (.slice e1 s.st.regs.length f1) ∧ w3.cell? ⟨w2.heap.size, 2, none⟩ = some (.slice e2 s.view.length f2) ∧ w3.cell? ⟨w2.heap.size, 3, none⟩ = some (.slice e3 s.list.length f3)) := by
      have e := fun (i : Nat) => cell_of_row w3 w2.heap.size i _ _ _ hst
      exact ⟨e 0, e 1, e 2, e 3⟩
    have HST := hid hst
    have HB3 := hid (HB2.out.trans (hba.mono HB2.out.size))
    have hs3 : w3.heap.size = w2.heap.size + 1 := by rw [hw3]; simp
    have HD3 := hid (HDN.out w3 ⟨e0, f0, e1, f1, e2, f2, e3, f3⟩ s (HRP.out.below HB3.out) (hrd.below hba) hgd)
    have HR3 := hid (hrd.below hba)
    clear hrd hgd hb2 hba hst
    rw [hw3] at x3
    have HRU := hid (show (raRun p ms = none ∧ (raRun p ms).isSome = false) ∨ (raRun p ms = some s ∧ (raRun p ms).isSome = true) from by
      cases hm : raRun p ms with
      | none => exact .inl ⟨rfl, rfl⟩
      | some s' => obtain rfl := hsome s' hm; exact .inr ⟨rfl, rfl⟩)
    obtain ⟨B, hB⟩ : ∃ B, B = (raRun p ms).isSome := ⟨_, rfl⟩
    rw [← hB] at HRU ⊢
    clear hsome hB
    cases B
    · have HFIN := hid (show runRes (done5 p) out5 (raRun p ms) = ([], false) from by
        rcases HRU.out with h | h
        · rw [h.1]; try rfl
        · exact absurd h.2 (by decide))
      go_wp2
      go_ret2
      rw [HFIN.out]
      rw [← hw3, ← hs3]
      exact retLB_lit HB3.out
    · have HFIN := hid (show runRes (done5 p) out5 (raRun p ms) = if done5 p s then (out5 s, true) else ([], false) from by
        rcases HRU.out with h | h
        · exact absurd h.2 (by decide)
        · rw [h.1]; rfl)
      go_wp2_with fail
      rw [← hw3]
      obtain ⟨D, hD⟩ : ∃ D, D = done5 p s := ⟨_, rfl⟩
      rw [← hD] at HD3 HFIN
      clear hD
      refine HD3.out.mono ?_
      rintro e w4 ⟨rfl, hb4⟩
      have hg4 := (hb4.block w2.heap.size (by omega)).trans HST.out
      have c4 : (w4.cell? ⟨w2.heap.size, 0, none⟩ = some (.slice e0 s.st.pc.length f0) ∧ w4.cell? ⟨w2.heap.size, 1, none⟩ = some (.slice e1 s.st.regs.length f1) ∧ w4.cell? ⟨w2.heap.size, 2, none⟩ = some (.slice e2 s.view.length f2) ∧ w4.cell? ⟨w2.heap.size, 3, none⟩ = some (.slice e3 s.list.length f3)) := by
        have e := fun (i : Nat) => cell_of_row w4 w2.heap.size i _ _ _ hg4
        exact ⟨e 0, e 1, e 2, e 3⟩
      have HRD4 := hid (HR3.out.below hb4)
      have HB4 := hid (HB3.out.trans (hb4.mono HB3.out.size))
      clear hb4 hg4 x3
      cases D
      · go_wp2
        go_ret2
        rw [HFIN.out]
        exact retLB_lit HB4.out
      · go_wp2_with fail
        refine (HOUT.out _ ⟨e0, f0, e1, f1, e2, f2, e3, f3⟩ s HRD4.out HGD.out).mono ?_
        rintro e w5 ⟨a5, c5, rfl, hown5, hb5⟩
        have HO5 := hid hown5
        have HB5 := hid hb5
        clear hown5 hb5 c4
        go_wp2
        go_ret2
        rw [HFIN.out]
        exact ⟨a5, c5, rfl, own_base HO5.out HB4.out.size, HB4.out.trans (HB5.out.mono HB4.out.size)⟩
  · have hv : progValid p = false := by simpa using hv
    rw [hv] at HV
    have HRES := hid (show runCho p ms = ([], false) by unfold runCho; rw [hv]; rfl)
    rw [HRES.out]
    clear hv h h' hl hl' HRES
    go_enter Try.func10, Try.ntmps10
    go_wp2_with fail
    refine HV.out.mono ?_
    rintro e w1 ⟨rfl, hb1⟩
    have HB1 := hid hb1
    clear hb1
    go_wp2
    go_ret2
    exact retLB_lit HB1.out

set_option maxRecDepth 100000 in
set_option maxHeartbeats 3200000 in
theorem caS_c (w : World) (a : Option Addr) (cap : Nat) (p : Prg) (a' : Option Addr) (cap' : Nat) (ms : List Int) (h : RdP w a p) (h' : Rd w a' (ints ms)) (hl : sizeP p ≤ 1048576) (hl' : ms.length ≤ 1048576) (hin : ∀ m ∈ ms, m ≤ 9223372036854775807) :
    Calls Try.prog 14 #[.slice a p.length cap, .slice a' ms.length cap'] w (RetL w (choAft p ms)) := by
  have HV := hid (pvS_c w a cap p h hl)
  by_cases hv : progValid p = true
  · rw [hv] at HV
    have hsh := (valid_of hv).toShape
    have HRES := hid (show choAft p ms = afC p (raRun p ms) by unfold choAft; rw [if_pos hv]; try rfl)
    have HAFT := hid (fun w (hp : RdP w a p) h' => l5After_c w a cap p a' cap' ms hp h' hsh hl' hin)
    have HCH := hid (fun w q s (hp : RdP w a p) (h : RdV w q s) (hg : Good5 p s) => l5Choices_c w a cap p q s hp h hsh hg)
    have HRP := hid h
    have HRM := hid h'
    obtain ⟨n, hn⟩ : ∃ n, n = p.length := ⟨_, rfl⟩
    obtain ⟨l, hll⟩ : ∃ l, l = ms.length := ⟨_, rfl⟩
    rw [HRES.out]
    rw [← hn] at HV HAFT HCH ⊢
    rw [← hll] at HAFT ⊢
    clear hv hsh h h' hl hl' hin hn hll HRES
    unfold Sp.v5 Sp.hd5 at HCH
    go_enter Try.func14, Try.ntmps14
    go_wp2_with fail
    refine HV.out.mono ?_
    rintro e w1 ⟨rfl, hb1⟩
    have HB1 := hid hb1
    clear hb1
    go_wp2_with fail
    refine (HAFT.out _ (HRP.out.below HB1.out) (HRM.out.below HB1.out)).mono ?_
    rintro e w2 ⟨⟨e0, f0, e1, f1, e2, f2, e3, f3⟩, s, rfl, hfr, hgd, hb2, hsome⟩
    have hrd := hfr.rd
    clear hfr
    have HRD := hid hrd
    have HGD := hid hgd
    have HB2 := hid (HB1.out.trans (hb2.mono HB1.out.size))
    unfold Sp.v5 Sp.hd5
    dsimp only
    have hst : (w2.alloc (.cells #[.slice e0 s.st.pc.length f0, .slice e1 s.st.regs.length f1, .slice e2 s.view.length f2, .slice e3 s.list.length f3] 59)).heap[w2.heap.size]? = some (.cells #[.slice e0 s.st.pc.length f0, .slice e1 s.st.regs.length f1, .slice e2 s.view.length f2, .slice e3 s.list.length f3] 59 (0, 0)) := heap_alloc_new w2 _
    have hba := (Below.refl w2.heap.size w2).alloc (Nat.le_refl _) (.cells #[.slice e0 s.st.pc.length f0, .slice e1 s.st.regs.length f1, .slice e2 s.view.length f2, .slice e3 s.list.length f3] 59)
    obtain ⟨w3, hw3⟩ : ∃ w3, w3 = w2.alloc (.cells #[.slice e0 s.st.pc.length f0, .slice e1 s.st.regs.length f1, .slice e2 s.view.length f2, .slice e3 s.list.length f3] 59) := ⟨_, rfl⟩
    rw [← hw3] at hst hba
    have x3 : (w3.cell? ⟨w2.heap.size, 0, none⟩ = some (.slice e0 s.st.pc.length f0) ∧ w3.cell? ⟨w2.heap.size, 1, none⟩ = some (.slice e1 s.st.regs.length f1) ∧ w3.cell? ⟨w2.heap.size, 2, none⟩ = some (.slice e2 s.view.length f2) ∧ w3.cell? ⟨w2.heap.size, 3, none⟩ = some (.slice e3 s.list.length f3)) := by
      have e := fun (i : Nat) => cell_of_row w3 w2.heap.size i _ _ _ hst
      exact ⟨e 0, e 1, e 2, e 3⟩
    have HST := hid hst
    have HB3 := hid (HB2.out.trans (hba.mono HB2.out.size))
    have hs3 : w3.heap.size = w2.heap.size + 1 := by rw [hw3]; simp
    have HD3 := hid (HCH.out w3 ⟨e0, f0, e1, f1, e2, f2, e3, f3⟩ s (HRP.out.below HB3.out) (hrd.below hba) hgd)
    have HR3 := hid (hrd.below hba)
    clear hrd hgd hb2 hba hst
    rw [hw3] at x3
    have HRU := hid (show (raRun p ms = none ∧ (raRun p ms).isSome = false) ∨ (raRun p ms = some s ∧ (raRun p ms).isSome = true) from by
      cases hm : raRun p ms with
      | none => exact .inl ⟨rfl, rfl⟩
      | some s' => obtain rfl := hsome s' hm; exact .inr ⟨rfl, rfl⟩)
    obtain ⟨B, hB⟩ : ∃ B, B = (raRun p ms).isSome := ⟨_, rfl⟩
    rw [← hB] at HRU ⊢
    clear hsome hB
    cases B
    · have HFIN := hid (show afC p (raRun p ms) = ([] : List Int) from by
        rcases HRU.out with h | h
        · rw [h.1]; try rfl
        · exact absurd h.2 (by decide))
      go_wp2
      go_ret
      rw [HFIN.out]
      rw [← hw3, ← hs3]
      exact retL_lit5 HB3.out
    · have HFIN := hid (show afC p (raRun p ms) = moves5 p s from by
        rcases HRU.out with h | h
        · exact absurd h.2 (by decide)
        · rw [h.1]; rfl)
      go_wp2_with fail
      rw [← hw3]
      refine HD3.out.mono ?_
      rintro e w5 ⟨a5, c5, rfl, hown5, hb5⟩
      have HO5 := hid hown5
      have HB5 := hid hb5
      clear hown5 hb5
      go_wp2
      go_ret
      rw [HFIN.out]
      exact ⟨a5, c5, rfl, own_base HO5.out HB3.out.size, HB3.out.trans (HB5.out.mono HB3.out.size)⟩
  · have hv : progValid p = false := by simpa using hv
    rw [hv] at HV
    have HRES := hid (show choAft p ms = ([] : List Int) by unfold choAft; rw [hv]; rfl)
    rw [HRES.out]
    clear hv h h' hl hl' HRES
    go_enter Try.func14, Try.ntmps14
    go_wp2_with fail
    refine HV.out.mono ?_
    rintro e w1 ⟨rfl, hb1⟩
    have HB1 := hid hb1
    clear hb1
    go_wp2
    go_ret
    exact retL_lit5 HB1.out
end Go.Proofs.Ythlmfjoiicnomaa
