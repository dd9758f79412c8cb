/-
  PROVED HERE: laws.FnProgramSame returns true for every input, and each argument reads behind the call as it read before. CONDITIONS: none.
-/
import Derived.Test.YtciplfdgjbehgaaRdp
import Derived.Test.YtciplfdgjbehgaaSame
import Derived.ShutString
import Derived.ChangeOld
namespace Go.Proofs.Ytciplfdgjbehgaa.fnProgramSame
open Go.ChangeShapes Go.WideShapes Go.ChangeAt Go.RowKit
open Go.ChangeMaps (open_string shut_string)
set_option linter.unusedVariables false
open Go.Proofs.Ytciplfdgjbehgaa
theorem own : ownKnob Try.prog.godebug = none := by kernel_rfl
theorem laidOut : laidOutB Try.prog = true := by kernel_rfl

theorem walkBig (w : World) (a0 : Option Addr) (cap0 : Nat) (bs0 : List Int) (h0 : Rd w a0 (u8s bs0)) (f0 : ∀ n ∈ bs0, (Lit.int .u8 n).wf = true) (d0 : bs0.length ≤ cap0 ∧ cap0 ≤ 9223372036854775807) (hb : 1048576 < bs0.length) :
    Calls Try.prog 10 #[.slice a0 bs0.length cap0] w fun e w' => e = .returned (.bool true) ∧ Below w.heap.size w w' := by
  clear h0 f0 d0
  have g : (1048576 : Int) < bs0.length := by omega
  go_enter Try.func10, Try.ntmps10
  go_wp2
  go_ret
  exact ⟨rfl, Below.refl _ _⟩

set_option maxHeartbeats 3200000 in
theorem walkSmall (w : World) (a0 : Option Addr) (cap0 : Nat) (bs0 : List Int) (h0 : Rd w a0 (u8s bs0)) (f0 : ∀ n ∈ bs0, (Lit.int .u8 n).wf = true) (d0 : bs0.length ≤ cap0 ∧ cap0 ≤ 9223372036854775807) (s0 : bs0.length ≤ 1048576) :
    Calls Try.prog 10 #[.slice a0 bs0.length cap0] w fun e w' => e = .returned (.bool true) ∧ Below w.heap.size w w' := by
  have g0 : decide ((1048576 : Int) < bs0.length) = false := by simp; omega
  have CD0 := hid (fun (w1 : World) (hb : Below w.heap.size w w1) => drawPS_c w1 a0 cap0 bs0 (h0.below hb) (byte_wf f0) s0 d0.1 d0.2)
  clear h0 f0 d0 s0
  go_enter Try.func10, Try.ntmps10
  go_wp2_with fail
  refine (CD0.out _ (Below.refl _ _)).mono ?_
  rintro e w1 ⟨p, q, a1, b1, c1, k1, rfl, hr1, hq1, hz1, hy1, hb1⟩
  have HR1 := hid hr1
  have HQ1 := hid hq1
  have HB1 := hid hb1
  have hs1 := hb1.size
  have HI := hid (fun w h h' => sameI_c w a1 c1 p b1 k1 q h h' (by omega) (by omega))
  have HS := hid (fun w h h' => sameS_c w a1 c1 p b1 k1 q h h' (by omega) (by omega))
  have HJ := hid (fun w h h' => sameI_c w b1 k1 q a1 c1 p h h' (by omega) (by omega))
  have HA := hid (fun w h h' => sameI_c w a1 c1 p a1 c1 p h h' (by omega) (by omega))
  have HVP := hid (fun w h => pvI_c w a1 c1 p h (by omega))
  have HVQ := hid (fun w h => pvI_c w b1 k1 q h (by omega))
  have HFP := hid (fun w h => fpI_c w a1 c1 p h (by omega))
  have HFQ := hid (fun w h => fpI_c w b1 k1 q h (by omega))
  have HIN := hid (fun h1 h2 => fmtPrg_inj (p := p) (q := q) h1 h2)
  obtain ⟨D, hD⟩ : ∃ D, D = decide (p = q) := ⟨_, rfl⟩
  have hD2 : decide (q = p) = D := by rw [hD]; exact decide_eq_decide.2 ⟨Eq.symm, Eq.symm⟩
  have hD3 : decide (p = p) = true := by simp
  rw [← hD] at HI HS
  rw [hD2] at HJ
  rw [hD3] at HA
  have HD := hid hD
  obtain ⟨V, hV⟩ : ∃ V, V = progValid p := ⟨_, rfl⟩
  obtain ⟨U, hU⟩ : ∃ U, U = progValid q := ⟨_, rfl⟩
  rw [← hV] at HVP
  rw [← hU] at HVQ
  obtain ⟨F, hF⟩ : ∃ F, F = fmtPrg p := ⟨_, rfl⟩
  obtain ⟨G, hG⟩ : ∃ G, G = fmtPrg q := ⟨_, rfl⟩
  rw [← hF] at HFP
  rw [← hG] at HFQ
  obtain ⟨n, hn⟩ : ∃ n, n = p.length := ⟨_, rfl⟩
  obtain ⟨m, hm⟩ : ∃ m, m = q.length := ⟨_, rfl⟩
  rw [← hn, ← hm] at HI HS HJ
  rw [← hn] at HA HVP HFP
  rw [← hm] at HVQ HFQ
  rw [← hn, ← hm]
  have HFG := hid (show V = true → U = true → (F.toList == G.toList) = D by
    intro h1 h2
    rw [hD, Bool.eq_iff_iff, beq_iff_eq, decide_eq_true_iff, ← HIN.out (hV.symm.trans h1) (hU.symm.trans h2), ← hF, ← hG, ByteArray.toList_eq, ByteArray.toList_eq]
    exact ⟨fun e => ByteArray.ext (Array.toList_inj.1 e), fun e => by rw [e]⟩)
  clear hr1 hq1 hb1 hD hD2 hD3 hV hU hF hG hn hm
  go_wp2_with fail
  refine (HI.out _ HR1.out HQ1.out).mono ?_
  rintro e w2 ⟨rfl, hb2⟩
  have HR2 := hid (HR1.out.below hb2)
  have HQ2 := hid (HQ1.out.below hb2)
  have HB2 := hid (HB1.out.trans (hb2.mono HB1.out.size))
  clear hb2
  go_wp2_with fail
  refine (HS.out _ HR2.out HQ2.out).mono ?_
  rintro e w3 ⟨rfl, hb3⟩
  have HR3 := hid (HR2.out.below hb3)
  have HQ3 := hid (HQ2.out.below hb3)
  have HB3 := hid (HB2.out.trans (hb3.mono HB2.out.size))
  clear hb3
  go_wp2_with fail
  refine (HJ.out _ HQ3.out HR3.out).mono ?_
  rintro e w4 ⟨rfl, hb4⟩
  have HR4 := hid (HR3.out.below hb4)
  have HQ4 := hid (HQ3.out.below hb4)
  have HB4 := hid (HB3.out.trans (hb4.mono HB3.out.size))
  clear hb4
  go_wp2_with fail
  refine (HA.out _ HR4.out HR4.out).mono ?_
  rintro e w5 ⟨rfl, hb5⟩
  have HR5 := hid (HR4.out.below hb5)
  have HQ5 := hid (HQ4.out.below hb5)
  have HB5 := hid (HB4.out.trans (hb5.mono HB4.out.size))
  clear hb5
  go_wp2_with fail
  refine (HVP.out _ HR5.out).mono ?_
  rintro e w6 ⟨rfl, hb6⟩
  have HR6 := hid (HR5.out.below hb6)
  have HQ6 := hid (HQ5.out.below hb6)
  have HB6 := hid (HB5.out.trans (hb6.mono HB5.out.size))
  clear hb6
  cases V
  · go_wp2_with fail
    go_ret
    exact ⟨rfl, HB6.out⟩
  · go_wp2_with fail
    refine (HVQ.out _ HQ6.out).mono ?_
    rintro e w7 ⟨rfl, hb7⟩
    have HR7 := hid (HR6.out.below hb7)
    have HQ7 := hid (HQ6.out.below hb7)
    have HB7 := hid (HB6.out.trans (hb7.mono HB6.out.size))
    clear hb7
    cases U
    · go_wp2_with fail
      go_ret
      exact ⟨rfl, HB7.out⟩
    · have hfg : (F.toList == G.toList) = D := by simpa using HFG.out
      go_wp2_with fail
      refine (HFP.out _ HR7.out).mono ?_
      rintro e w8 ⟨rfl, hb8⟩
      have HQ8 := hid (HQ7.out.below hb8)
      have HB8 := hid (HB7.out.trans (hb8.mono HB7.out.size))
      clear hb8
      go_wp2_with fail
      refine (HFQ.out _ HQ8.out).mono ?_
      rintro e w9 ⟨rfl, hb9⟩
      have HB9 := hid (HB8.out.trans (hb9.mono HB8.out.size))
      clear hb9
      go_wp2_with fail
      go_ret
      exact ⟨rfl, HB9.out⟩
theorem walk (w : World) (a0 : Option Addr) (cap0 : Nat) (bs0 : List Int) (h0 : Rd w a0 (u8s bs0)) (f0 : ∀ n ∈ bs0, (Lit.int .u8 n).wf = true) (d0 : bs0.length ≤ cap0 ∧ cap0 ≤ 9223372036854775807) :
    Calls Try.prog 10 #[.slice a0 bs0.length cap0] w fun e w' => e = .returned (.bool true) ∧ Below w.heap.size w w' := by
  by_cases hb : 1048576 < bs0.length
  · exact walkBig w a0 cap0 bs0 h0 f0 d0 hb
  · exact walkSmall w a0 cap0 bs0 h0 f0 d0 (by omega)

set_option maxRecDepth 100000 in
theorem lifted (os : Os) (started : os.Started) (H : Type) (enc : TypeId × Value → H) :
    ReturnsInHanded {} Try.checked os 10 .any (Rows.fnProgramSameSpec.pre6 enc Try.prog Try.f10 Rows.fnProgramSameRow.domain false) (Rows.fnProgramSameSpec.post enc Try.prog Try.f10 false true false false) := by
  refine returnsInHanded_of_change (C := Try.checked) own started (by kernel_rfl) Try.func10
    (ChangeSpec.witness6 (enc := enc) (C := Try.checked) false ⟨#[], #[.slice none 0 0], []⟩ 8 (by kernel_rfl) (by kernel_rfl) (by kernel_rfl) (by kernel_rfl)) ?_
  intro W base args ds gs before hval0 hW hcnd _
  have hval : ∀ (j : Nat) t v, Try.f10.params[j]? = some t → args[j]? = some v → Value.okWide Try.prog W .any base t v := hval0
  have hW' := hW
  obtain ⟨p, q, hA0, hV, rfl, hfz, hnd⟩ := hW
  have hA : DataW.TrodAll enc Try.prog W 0 (fun _ => true) true Try.f10.params.toList args.toList ds p := hA0
  rw [Try.params10] at hA hval
  obtain ⟨v0, vs0, d0, ds0, p0, q0, hargs, rfl, rfl, h0, r0⟩ := trodAll_cons hA
  obtain ⟨rfl, rfl, rfl⟩ := trodAll_nil r0
  obtain rfl : args = #[v0] := by cases args; simp_all
  obtain ⟨rfl, rfl⟩ := trodVars_none hV
  obtain ⟨a0, len0, cap0, rfl⟩ := okWide_slice Try.underlying22 (hval 0 22 v0 rfl rfl)
  have k0 := h0
  have lt0 : ∀ x ∈ p0, x.block < W.heap.size := by obtain ⟨m, hm⟩ := k0; exact DataW.trod_lt m _ _ _ hm
  obtain ⟨z0, w0⟩ : ∃ zs, IsRow .u8 W a0 len0 cap0 zs := by
    obtain ⟨fuel, hf⟩ := h0
    rcases open_ints Try.underlying22 Try.underlying5 (by kernel_rfl) hf with ⟨hcs, _⟩ | ⟨x, l, c, zs, hcs, _, hl, hm, hz, _, hcell, hwz⟩
    · simp [Value.cells] at hcs
      obtain ⟨rfl, rfl, rfl⟩ := hcs
      exact ⟨[], .inl ⟨rfl, rfl, rfl, rfl⟩⟩
    · simp [Value.cells] at hcs
      obtain ⟨rfl, rfl, rfl⟩ := hcs
      exact ⟨zs, .inr ⟨_, rfl, hl, hm, by simpa using hz, hcell, hwz⟩⟩
  obtain ⟨x0, hx0, rd0, wf0⟩ := w0.rd
  subst hx0
  have bd0 := w0.cap
  clear hA0 hval0
  refine (walk W a0 cap0 x0 rd0 wf0 bd0).mono fun e W' ⟨he, bel⟩ => ?_
  subst he
  exact ⟨_, rfl, _, _, _, [], _, [], hW', trodAll_mk1 (shut_bool Try.underlying4 _), (trodAll_cons_mk (Below.trod laidOut (by kernel_rfl) (of_decide_eq_true (by kernel_rfl)) k0 bel lt0) trodAll_mk0), rfl, bel.frame _, fun h => by cases h⟩

theorem over : Rows.fnProgramSameRow.holds Try.pinned (OpenSpec.ofChange Rows.fnProgramSameSpec) :=
  OpenClaim.holds_of_wide 10 Try.f10 rfl rfl rfl rfl rfl rfl rfl ⟨rfl, rfl, rfl, rfl, rfl⟩ rfl rfl rfl rfl rfl (by kernel_rfl) Try.func10 (by kernel_rfl)
    (of_decide_eq_true (by kernel_rfl)) (by unfold Func.isWrapper; first | (rw [if_pos (by decide +kernel)]; kernel_rfl) | (rw [if_neg (by decide +kernel)]; exact ⟨rfl, rfl⟩))
    (fun os started H enc _ => lifted os started H enc)

theorem proved : Rows.FnProgramSameSaid := over
#print axioms proved
end Go.Proofs.Ytciplfdgjbehgaa.fnProgramSame
