/-
  PROVED HERE: laws.FnCountSchedules returns true for every input, and each argument reads behind the call as it read before. CONDITIONS: none.
-/
import Derived.Test.YtciplfdgjbehgaaRdp
import Derived.ShutString
import Derived.ChangeOld
namespace Go.Proofs.Ytciplfdgjbehgaa.fnCountSchedules
open Go.ChangeShapes Go.WideShapes Go.ChangeAt Go.RowKit
open Go.ChangeMaps (open_string shut_string)
set_option linter.unusedVariables false
open Go.Proofs.Ytciplfdgjbehgaa
theorem own : ownKnob Try.prog.godebug = none := by kernel_rfl
theorem laidOut : laidOutB Try.prog = true := by kernel_rfl

theorem walkBig (w : World) (a0 : Option Addr) (cap0 : Nat) (bs0 : List Int) (h0 : Rd w a0 (u8s bs0)) (f0 : ∀ n ∈ bs0, (Lit.int .u8 n).wf = true) (d0 : bs0.length ≤ cap0 ∧ cap0 ≤ 9223372036854775807) (hb : 1048576 < bs0.length) :
    Calls Try.prog 8 #[.slice a0 bs0.length cap0] w fun e w' => e = .returned (.bool true) ∧ Below w.heap.size w w' := by
  clear h0 f0 d0
  have g : (1048576 : Int) < bs0.length := by omega
  go_enter Try.func8, Try.ntmps8
  go_wp2
  go_ret
  exact ⟨rfl, Below.refl _ _⟩

set_option maxHeartbeats 3200000 in
theorem walkSmall (w : World) (a0 : Option Addr) (cap0 : Nat) (bs0 : List Int) (h0 : Rd w a0 (u8s bs0)) (f0 : ∀ n ∈ bs0, (Lit.int .u8 n).wf = true) (d0 : bs0.length ≤ cap0 ∧ cap0 ≤ 9223372036854775807) (s0 : bs0.length ≤ 1048576) :
    Calls Try.prog 8 #[.slice a0 bs0.length cap0] w fun e w' => e = .returned (.bool true) ∧ Below w.heap.size w w' := by
  have g0 : decide ((1048576 : Int) < bs0.length) = false := by simp; omega
  have CD0 := hid (fun (w1 : World) (hb : Below w.heap.size w w1) => drawCountSchedules_c w1 a0 cap0 bs0 (h0.below hb) (byte_wf f0) s0 d0.1 d0.2)
  clear h0 f0 d0 s0
  go_enter Try.func8, Try.ntmps8
  go_wp2_with fail
  refine (CD0.out _ (Below.refl _ _)).mono ?_
  rintro e w1 ⟨p, a1, c1, rfl, hc1, hr1, hz1, hb1⟩
  have hpl := sizeP_len p
  have HR1 := hid hr1
  have HB1 := hid hb1
  have hs1 := hb1.size
  have HCI := hid (fun w h => csI_c w a1 c1 p h (by omega))
  have HCS := hid (fun w h => csS_c w a1 c1 p h (by omega))
  have HPV := hid (fun w h => pvI_c w a1 c1 p h (by omega))
  obtain ⟨V, hV⟩ : ∃ V, V = progValid p := ⟨_, rfl⟩
  rw [← hV] at HPV
  have HV := hid hV
  clear hV
  obtain ⟨n, hn⟩ : ∃ n, n = p.length := ⟨_, rfl⟩
  have HN := hid hn
  rw [← hn] at hc1 hpl HCI HCS HPV ⊢
  clear hr1 hb1 hn
  obtain ⟨N, hN⟩ : ∃ N, N = countSch p := ⟨_, rfl⟩
  rw [← hN] at HCI HCS
  have HNN := hid hN
  clear hN
  go_wp2_with fail
  refine (HCI.out _ HR1.out).mono ?_
  rintro e w2 ⟨rfl, hb2⟩
  have HR2 := hid (HR1.out.below hb2)
  have HB2 := hid (HB1.out.trans (hb2.mono HB1.out.size))
  have hs2 := hb2.size
  clear hb2
  go_wp2_with fail
  refine (HCS.out _ HR2.out).mono ?_
  rintro e w3 ⟨rfl, hb3⟩
  have HR3 := hid (HR2.out.below hb3)
  have HB3 := hid (HB2.out.trans (hb3.mono HB2.out.size))
  have hs3 := hb3.size
  clear hb3
  go_wp2_with fail
  refine (HPV.out _ HR3.out).mono ?_
  rintro e w4 ⟨rfl, hb4⟩
  have HR4 := hid (HR3.out.below hb4)
  have HB4 := hid (HB3.out.trans (hb4.mono HB3.out.size))
  have hs4 := hb4.size
  clear hb4
  cases V
  · skip
    go_wp2_with fail
    refine (HCS.out _ HR4.out).mono ?_
    rintro e w5 ⟨rfl, hb5⟩
    have HR5 := hid (HR4.out.below hb5)
    have HB5 := hid (HB4.out.trans (hb5.mono HB4.out.size))
    have hs5 := hb5.size
    clear hb5
    go_wp2_with fail
    go_ret
    exact ⟨rfl, HB5.out⟩
  · have hn0 : 0 < n := by rw [HN.out]; exact (valid_of HV.out.symm).pos
    obtain ⟨xs, hxs⟩ : ∃ xs, p[0]? = some xs := ⟨_, List.getElem?_eq_getElem (by rw [← HN.out]; exact hn0)⟩
    obtain ⟨b, off, r, rc, xs', hab, hb, hx', hcell, hrd, hrc⟩ := HR4.out.at' 0 (by rw [← HN.out]; exact hn0)
    obtain rfl : xs = xs' := by rw [hxs] at hx'; exact Option.some.inj hx'
    subst hab
    have HX := hid hxs
    have hml : xs.length ≤ 100 := by have := sizeP_row hxs; omega
    obtain ⟨m, hm⟩ : ∃ m, m = xs.length := ⟨_, rfl⟩
    have HM := hid hm
    rw [← hm] at hcell hml hrc
    rw [Nat.add_zero] at hcell
    have HRD := hid hrd
    clear hxs hx' hm hrd
    by_cases hm0 : m = 0
    · have hm0' : ((m : Int) == 0) = true := by rw [hm0]; rfl
      clear hm0
      go_wp2_with fail
      refine (HCS.out _ HR4.out).mono ?_
      rintro e w5 ⟨rfl, hb5⟩
      have HR5 := hid (HR4.out.below hb5)
      have HB5 := hid (HB4.out.trans (hb5.mono HB4.out.size))
      have hs5 := hb5.size
      clear hb5
      go_wp2_with fail
      go_ret
      exact ⟨rfl, HB5.out⟩
    · have hm0' : ((m : Int) == 0) = false := by simp; omega
      have hm1 : 1 ≤ m := by omega
      clear hm0
      obtain ⟨rs, hl, ho, hi⟩ := HR4.out
      have HI := hid hi
      have HRL := hid (show rs.length = p.length from hl)
      have HCR := hid (show (rowsV rs p).length = n * 1 by rw [length_rowsV hl, ← HN.out, Nat.mul_one])
      have HOA := hid (ho.alloc (.cells #[] 29))
      have hsk := HB4.out.size
      clear hi ho hl
      go_wp2_with (at_builtin; refine wpList_append_rd rfl (.tmp 34) (.tmp 35) 30 rfl w.heap.size 29 (.slice none 0 0) 1 24 Try.underlying30 Try.info_row rfl (by decide) _ 0 [] rfl (own_lit0 w4 w.heap.size 29 1 hsk) (some ⟨b, off, none⟩) n c1 (rowsV rs p) rfl HOA.out HCR.out (rowsV_one rs p) (by omega) (by decide) (by simp; omega) ?_)
      intro v5 w5 hown5 hgrow5 hat5
      obtain ⟨a5, c5, rfl, _⟩ := own_shape hown5
      have hown5' : w5.ownsRow w.heap.size 29 1 (.slice a5 n c5) n (rowsV rs p) := by simpa using hown5
      obtain ⟨G, rfl, hGb, hGs⟩ := own_some hown5' hn0
      have HO5 := hid hown5'
      rw [ownBlock_slice] at hat5
      have hG : w4.heap.size ≤ G := by
        rcases hat5 with h | h
        · simp [Value.ownBlock, blk] at h; omega
        · simp [blk] at h; omega
      have HBk := hid (((Below.refl w4.heap.size w4).alloc (Nat.le_refl _) (.cells #[] 29)).grown hgrow5 (by simp) (fun q hq => by simp [Value.ownBlock] at hq; omega))
      have HB5 := hid (HB4.out.trans (HBk.out.mono hsk))
      have hs5 := HBk.out.size
      clear hown5 hown5' hgrow5 hat5
      have hc5 := (HBk.out.cell (p := ⟨b, off, none⟩) hb).trans hcell
      have hb5 : b < w5.heap.size := by omega
      have hsp : xs = xs.take (m - 1) ++ [xs[m - 1]'(by rw [← HM.out]; omega)] := by
        rw [← List.take_succ_eq_append_getElem (by rw [← HM.out]; omega), show m - 1 + 1 = m by omega, HM.out, List.take_length]
      obtain ⟨x, hx⟩ : ∃ x, x = xs[m - 1]'(by rw [← HM.out]; omega) := ⟨_, rfl⟩
      rw [← hx] at hsp
      obtain ⟨ys, hys⟩ : ∃ ys, ys = xs.take (m - 1) := ⟨_, rfl⟩
      rw [← hys] at hsp
      have hyl : ys.length = m - 1 := by rw [hys, List.length_take, ← HM.out]; omega
      have HSP := hid hsp
      have HRY := hid (show Rd w5 r (insV ys) by
        have := (HRD.out.below HBk.out).part ((m - 1) * 4)
        have e : (insV xs).take ((m - 1) * 4) = insV ys := by
          rw [HSP.out, insV_append, List.take_append_of_le_length (by rw [length_insV, hyl]; omega), List.take_of_length_le (by rw [length_insV, hyl]; omega)]
        rw [e] at this
        exact this)
      have HYL := hid hyl
      clear hx hys hsp hyl hcell
      have hr1 : (0 : Int) ≤ (m : Int) - 1 := by omega
      have hmI : (1 : Int) ≤ (m : Int) := by omega
      have hr2 : (m : Int) - 1 ≤ (rc : Int) := by omega
      have hr3 : ((m : Int) - 1).toNat = m - 1 := by omega
      obtain ⟨z, hz⟩ : ∃ z, w5.cell? ⟨G, 0, none⟩ = some z := ⟨_, (HO5.out.cellAt 0 (by omega)).trans (List.getElem?_eq_getElem (by rw [HCR.out]; omega))⟩
      have hfr := HO5.out.frozenAt 0
      have hz' : w5.drew.cell? ⟨G, 0, none⟩ = some z := hz
      have hc5' : w5.drew.cell? ⟨b, off, none⟩ = some (.slice r m rc) := hc5
      have hapr : ∀ q, blk r = some q → q ≠ G := fun q hq e => by
        rcases HRD.out with h | ⟨b', o', hb', hlt, _⟩
        · have := congrArg List.length h
          rw [length_insV, ← HM.out] at this
          simp at this
          omega
        · rw [hb'] at hq
          simp [blk] at hq
          omega
      have HP8 := hid (show RdP ((w5.setCell ⟨G, 0, none⟩ (.slice r (m - 1) rc)).drew) (some ⟨G, 0, none⟩) (p.set 0 ys) by
        have := RdP.copySet (w0 := w4) (w := w5) (base := w.heap.size) (p := p) (xs := xs) (ys := ys) (rs := rs) (G := G) (c := c5) (r := r) (rc := rc) HRL.out HI.out HBk.out (by rw [← HN.out]; exact HO5.out) hG (by rw [← HN.out]; exact hn0)
        rw [HYL.out] at this
        exact this (HRY.out.keeps (Keeps.setCell w5 ⟨G, 0, none⟩ _) (fun q hq => hapr q hq)) (by omega))
      have HB8 := hid (show Below w.heap.size w ((w5.setCell ⟨G, 0, none⟩ (.slice r (m - 1) rc)).drew) from below_drewN 1 (HB4.out.trans ((HBk.out.setCell (p := ⟨G, 0, none⟩) hG (.slice r (m - 1) rc)).mono hsk)))
      have hLP : (p.set 0 ys).length = n := by rw [List.length_set, ← HN.out]
      have hpx : p = (ys ++ [x]) :: p.tail := by
        have := HX.out
        cases p with
        | nil => simp at this
        | cons y r => simp at this; rw [this, HSP.out]; rfl
      have hps : p.set 0 ys = ys :: p.tail := by rw [hpx]; rfl
      have hval : progValid ((ys ++ [x]) :: p.tail) = true := by rw [← hpx]; exact HV.out.symm
      obtain ⟨_, hm1', hm2'⟩ := sch_less ys x p.tail hval
      have hZP : sizeP (p.set 0 ys) ≤ 1048576 := by
        have h1 : sizeP p = sizeP (p.set 0 ys) + 1 := by
          rw [hps]
          conv => lhs; rw [hpx]
          simp [sizeP]
          omega
        omega
      have HCQ := hid (fun w h => csI_c w (some ⟨G, 0, none⟩) c5 (p.set 0 ys) h hZP)
      rw [hLP] at HCQ
      obtain ⟨M, hM⟩ : ∃ M, M = countSch (p.set 0 ys) := ⟨_, rfl⟩
      rw [← hM] at HCQ
      have hM1 : (1 : Int) ≤ (M : Int) := by rw [hM, hps]; omega
      have hM2 : (M : Int) ≤ (N : Int) := by
        rw [hM, hps, HNN.out]
        have : countSch p = countSch ((ys ++ [x]) :: p.tail) := by rw [← hpx]
        rw [this]
        omega
      clear hLP hpx hps hval hm1' hm2' hZP hM hapr
      go_wp2_with fail
      refine wp_region_mix (by kernel_rfl) (by kernel_rfl) ?_
      go_wp2_with (first | (with_reducible refine wpMix_nil ?_) | (with_reducible refine wpMix_rd rfl rfl (fun K hK => ?_); go_simp; (try go_bits); refine hK _ ?_; clear hK K) | (with_reducible refine wpMix_act (o := ⟨_, .store _ _ _, _, _, _, _⟩) rfl rfl (fun K hK => ?_)))
      refine (HCQ.out _ HP8.out).mono ?_
      rintro e w9 ⟨rfl, hb9⟩
      have HB9 := hid (HB8.out.trans (hb9.mono HB8.out.size))
      clear hb9
      go_wp2_with fail
      go_ret
      exact ⟨rfl, HB9.out⟩
theorem walk (w : World) (a0 : Option Addr) (cap0 : Nat) (bs0 : List Int) (h0 : Rd w a0 (u8s bs0)) (f0 : ∀ n ∈ bs0, (Lit.int .u8 n).wf = true) (d0 : bs0.length ≤ cap0 ∧ cap0 ≤ 9223372036854775807) :
    Calls Try.prog 8 #[.slice a0 bs0.length cap0] w fun e w' => e = .returned (.bool true) ∧ Below w.heap.size w w' := by
  by_cases hb : 1048576 < bs0.length
  · exact walkBig w a0 cap0 bs0 h0 f0 d0 hb
  · exact walkSmall w a0 cap0 bs0 h0 f0 d0 (by omega)

set_option maxRecDepth 100000 in
theorem lifted (os : Os) (started : os.Started) (H : Type) (enc : TypeId × Value → H) :
    ReturnsInHanded {} Try.checked os 8 .any (Rows.fnCountSchedulesSpec.pre6 enc Try.prog Try.f8 Rows.fnCountSchedulesRow.domain false) (Rows.fnCountSchedulesSpec.post enc Try.prog Try.f8 false true false false) := by
  refine returnsInHanded_of_change (C := Try.checked) own started (by kernel_rfl) Try.func8
    (ChangeSpec.witness6 (enc := enc) (C := Try.checked) false ⟨#[], #[.slice none 0 0], []⟩ 8 (by kernel_rfl) (by kernel_rfl) (by kernel_rfl) (by kernel_rfl)) ?_
  intro W base args ds gs before hval0 hW hcnd _
  have hval : ∀ (j : Nat) t v, Try.f8.params[j]? = some t → args[j]? = some v → Value.okWide Try.prog W .any base t v := hval0
  have hW' := hW
  obtain ⟨p, q, hA0, hV, rfl, hfz, hnd⟩ := hW
  have hA : DataW.TrodAll enc Try.prog W 0 (fun _ => true) true Try.f8.params.toList args.toList ds p := hA0
  rw [Try.params8] at hA hval
  obtain ⟨v0, vs0, d0, ds0, p0, q0, hargs, rfl, rfl, h0, r0⟩ := trodAll_cons hA
  obtain ⟨rfl, rfl, rfl⟩ := trodAll_nil r0
  obtain rfl : args = #[v0] := by cases args; simp_all
  obtain ⟨rfl, rfl⟩ := trodVars_none hV
  obtain ⟨a0, len0, cap0, rfl⟩ := okWide_slice Try.underlying22 (hval 0 22 v0 rfl rfl)
  have k0 := h0
  have lt0 : ∀ x ∈ p0, x.block < W.heap.size := by obtain ⟨m, hm⟩ := k0; exact DataW.trod_lt m _ _ _ hm
  obtain ⟨z0, w0⟩ : ∃ zs, IsRow .u8 W a0 len0 cap0 zs := by
    obtain ⟨fuel, hf⟩ := h0
    rcases open_ints Try.underlying22 Try.underlying5 (by kernel_rfl) hf with ⟨hcs, _⟩ | ⟨x, l, c, zs, hcs, _, hl, hm, hz, _, hcell, hwz⟩
    · simp [Value.cells] at hcs
      obtain ⟨rfl, rfl, rfl⟩ := hcs
      exact ⟨[], .inl ⟨rfl, rfl, rfl, rfl⟩⟩
    · simp [Value.cells] at hcs
      obtain ⟨rfl, rfl, rfl⟩ := hcs
      exact ⟨zs, .inr ⟨_, rfl, hl, hm, by simpa using hz, hcell, hwz⟩⟩
  obtain ⟨x0, hx0, rd0, wf0⟩ := w0.rd
  subst hx0
  have bd0 := w0.cap
  clear hA0 hval0
  refine (walk W a0 cap0 x0 rd0 wf0 bd0).mono fun e W' ⟨he, bel⟩ => ?_
  subst he
  exact ⟨_, rfl, _, _, _, [], _, [], hW', trodAll_mk1 (shut_bool Try.underlying4 _), (trodAll_cons_mk (Below.trod laidOut (by kernel_rfl) (of_decide_eq_true (by kernel_rfl)) k0 bel lt0) trodAll_mk0), rfl, bel.frame _, fun h => by cases h⟩

theorem over : Rows.fnCountSchedulesRow.holds Try.pinned (OpenSpec.ofChange Rows.fnCountSchedulesSpec) :=
  OpenClaim.holds_of_wide 8 Try.f8 rfl rfl rfl rfl rfl rfl rfl ⟨rfl, rfl, rfl, rfl, rfl⟩ rfl rfl rfl rfl rfl (by kernel_rfl) Try.func8 (by kernel_rfl)
    (of_decide_eq_true (by kernel_rfl)) (by unfold Func.isWrapper; first | (rw [if_pos (by decide +kernel)]; kernel_rfl) | (rw [if_neg (by decide +kernel)]; exact ⟨rfl, rfl⟩))
    (fun os started H enc _ => lifted os started H enc)

theorem proved : Rows.FnCountSchedulesSaid := over
#print axioms proved
end Go.Proofs.Ytciplfdgjbehgaa.fnCountSchedules
