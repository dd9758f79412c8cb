/-
  PROVED HERE: laws.FnProgramThreads returns true for every input, and each argument reads behind the call as it read before. CONDITIONS: none.
-/
import Derived.Test.YtciplfdgjbehgaaRdp
import Derived.ShutString
import Derived.ChangeOld
namespace Go.Proofs.Ytciplfdgjbehgaa.fnProgramThreads
open Go.ChangeShapes Go.WideShapes Go.ChangeAt Go.RowKit
open Go.ChangeMaps (open_string shut_string)
set_option linter.unusedVariables false
open Go.Proofs.Ytciplfdgjbehgaa
theorem own : ownKnob Try.prog.godebug = none := by kernel_rfl
theorem laidOut : laidOutB Try.prog = true := by kernel_rfl

theorem walkBig (w : World) (a0 : Option Addr) (cap0 : Nat) (bs0 : List Int) (h0 : Rd w a0 (u8s bs0)) (f0 : ∀ n ∈ bs0, (Lit.int .u8 n).wf = true) (d0 : bs0.length ≤ cap0 ∧ cap0 ≤ 9223372036854775807) (hb : 1048576 < bs0.length) :
    Calls Try.prog 6 #[.slice a0 bs0.length cap0] w fun e w' => e = .returned (.bool true) ∧ Below w.heap.size w w' := by
  clear h0 f0 d0
  have g : (1048576 : Int) < bs0.length := by omega
  go_enter Try.func6, Try.ntmps6
  go_wp2
  go_ret
  exact ⟨rfl, Below.refl _ _⟩

set_option maxHeartbeats 3200000 in
theorem walkSmall (w : World) (a0 : Option Addr) (cap0 : Nat) (bs0 : List Int) (h0 : Rd w a0 (u8s bs0)) (f0 : ∀ n ∈ bs0, (Lit.int .u8 n).wf = true) (d0 : bs0.length ≤ cap0 ∧ cap0 ≤ 9223372036854775807) (s0 : bs0.length ≤ 1048576) :
    Calls Try.prog 6 #[.slice a0 bs0.length cap0] w fun e w' => e = .returned (.bool true) ∧ Below w.heap.size w w' := by
  have g0 : decide ((1048576 : Int) < bs0.length) = false := by simp; omega
  have CD0 := hid (fun (w1 : World) (hb : Below w.heap.size w w1) => drawCountExecs_c w1 a0 cap0 bs0 (h0.below hb) (byte_wf f0) s0 d0.1 d0.2)
  clear h0 f0 d0 s0
  go_enter Try.func6, Try.ntmps6
  go_wp2_with fail
  refine (CD0.out _ (Below.refl _ _)).mono ?_
  rintro e w1 ⟨p, a1, c1, rfl, hc1, hr1, hz1, hb1⟩
  have hpl := sizeP_len p
  have HR1 := hid hr1
  have HB1 := hid hb1
  have hs1 := hb1.size
  have HCI := hid (fun w h => ceI_c w a1 c1 p h (by omega))
  have HCS := hid (fun w h => ceS_c w a1 c1 p h (by omega))
  have HPV := hid (fun w h => pvI_c w a1 c1 p h (by omega))
  obtain ⟨V, hV⟩ : ∃ V, V = progValid p := ⟨_, rfl⟩
  rw [← hV] at HPV
  have HV := hid hV
  clear hV
  obtain ⟨n, hn⟩ : ∃ n, n = p.length := ⟨_, rfl⟩
  have HN := hid hn
  rw [← hn] at hc1 hpl HCI HCS HPV ⊢
  clear hr1 hb1 hn
  obtain ⟨N, hN⟩ : ∃ N, N = countExecs p := ⟨_, rfl⟩
  rw [← hN] at HCI HCS
  have HNN := hid hN
  clear hN
  go_wp2_with fail
  refine (HCI.out _ HR1.out).mono ?_
  rintro e w2 ⟨rfl, hb2⟩
  have HR2 := hid (HR1.out.below hb2)
  have HB2 := hid (HB1.out.trans (hb2.mono HB1.out.size))
  have hs2 := hb2.size
  clear hb2
  go_wp2_with fail
  refine (HCS.out _ HR2.out).mono ?_
  rintro e w3 ⟨rfl, hb3⟩
  have HR3 := hid (HR2.out.below hb3)
  have HB3 := hid (HB2.out.trans (hb3.mono HB2.out.size))
  have hs3 := hb3.size
  clear hb3
  by_cases h2 : n < 2
  · have h2' : (n : Int) < 2 := by omega
    go_wp2_with fail
    refine (HCS.out _ HR3.out).mono ?_
    rintro e w4 ⟨rfl, hb4⟩
    have HR4 := hid (HR3.out.below hb4)
    have HB4 := hid (HB3.out.trans (hb4.mono HB3.out.size))
    have hs4 := hb4.size
    clear hb4
    go_wp2_with fail
    go_ret
    exact ⟨rfl, HB4.out⟩
  · have h2' : decide ((n : Int) < 2) = false := by simp; omega
    have h2'' : decide (n < 2) = false := by simp; omega
    have h2n : 2 ≤ n := by omega
    clear h2
    go_wp2_with fail
    refine (HPV.out _ HR3.out).mono ?_
    rintro e w4 ⟨rfl, hb4⟩
    have HR4 := hid (HR3.out.below hb4)
    have HB4 := hid (HB3.out.trans (hb4.mono HB3.out.size))
    have hs4 := hb4.size
    clear hb4
    cases V
    · skip
      go_wp2_with fail
      refine (HCS.out _ HR4.out).mono ?_
      rintro e w5 ⟨rfl, hb5⟩
      have HR5 := hid (HR4.out.below hb5)
      have HB5 := hid (HB4.out.trans (hb5.mono HB4.out.size))
      have hs5 := hb5.size
      clear hb5
      go_wp2_with fail
      go_ret
      exact ⟨rfl, HB5.out⟩
    · have hl : (p.take (n - 1)).length = n - 1 := by rw [List.length_take, ← HN.out]; omega
      have hz : sizeP (p.take (n - 1)) ≤ 1048576 := by have := sizeP_take p (n - 1); omega
      have HPT := hid (fun w h => pvI_c w a1 c1 (p.take (n - 1)) h hz)
      have HCT := hid (fun w h => ceI_c w a1 c1 (p.take (n - 1)) h hz)
      rw [valid_take HV.out.symm (n - 1) (by omega)] at HPT
      have hle : countExecs (p.take (n - 1)) ≤ N := by
        rw [HNN.out]
        unfold countExecs
        rw [if_pos (valid_take HV.out.symm (n - 1) (by omega)), if_pos HV.out.symm]
        exact execs_take (n - 1)
      obtain ⟨M, hM⟩ : ∃ M, M = countExecs (p.take (n - 1)) := ⟨_, rfl⟩
      rw [hl, ← hM] at HCT
      rw [hl] at HPT
      have HM := hid hM
      have hMN : (M : Int) ≤ (N : Int) := by rw [hM]; omega
      clear hM hle hl
      have hn0 : (0 : Int) ≤ (n : Int) - 1 := by omega
      have hn1 : (n : Int) - 1 ≤ (c1 : Int) := by omega
      have hn2 : ((n : Int) - 1).toNat = n - 1 := by omega
      have HRT := hid (HR4.out.take (n - 1))
      go_wp2_with fail
      refine (HPT.out _ HRT.out).mono ?_
      rintro e w5 ⟨rfl, hb5⟩
      have HR5 := hid (HRT.out.below hb5)
      have HB5 := hid (HB4.out.trans (hb5.mono HB4.out.size))
      clear hb5
      go_wp2_with fail
      refine (HCT.out _ HR5.out).mono ?_
      rintro e w6 ⟨rfl, hb6⟩
      have HB6 := hid (HB5.out.trans (hb6.mono HB5.out.size))
      clear hb6
      go_wp2_with fail
      go_ret
      exact ⟨rfl, HB6.out⟩
theorem walk (w : World) (a0 : Option Addr) (cap0 : Nat) (bs0 : List Int) (h0 : Rd w a0 (u8s bs0)) (f0 : ∀ n ∈ bs0, (Lit.int .u8 n).wf = true) (d0 : bs0.length ≤ cap0 ∧ cap0 ≤ 9223372036854775807) :
    Calls Try.prog 6 #[.slice a0 bs0.length cap0] w fun e w' => e = .returned (.bool true) ∧ Below w.heap.size w w' := by
  by_cases hb : 1048576 < bs0.length
  · exact walkBig w a0 cap0 bs0 h0 f0 d0 hb
  · exact walkSmall w a0 cap0 bs0 h0 f0 d0 (by omega)

set_option maxRecDepth 100000 in
theorem lifted (os : Os) (started : os.Started) (H : Type) (enc : TypeId × Value → H) :
    ReturnsInHanded {} Try.checked os 6 .any (Rows.fnProgramThreadsSpec.pre6 enc Try.prog Try.f6 Rows.fnProgramThreadsRow.domain false) (Rows.fnProgramThreadsSpec.post enc Try.prog Try.f6 false true false false) := by
  refine returnsInHanded_of_change (C := Try.checked) own started (by kernel_rfl) Try.func6
    (ChangeSpec.witness6 (enc := enc) (C := Try.checked) false ⟨#[], #[.slice none 0 0], []⟩ 8 (by kernel_rfl) (by kernel_rfl) (by kernel_rfl) (by kernel_rfl)) ?_
  intro W base args ds gs before hval0 hW hcnd _
  have hval : ∀ (j : Nat) t v, Try.f6.params[j]? = some t → args[j]? = some v → Value.okWide Try.prog W .any base t v := hval0
  have hW' := hW
  obtain ⟨p, q, hA0, hV, rfl, hfz, hnd⟩ := hW
  have hA : DataW.TrodAll enc Try.prog W 0 (fun _ => true) true Try.f6.params.toList args.toList ds p := hA0
  rw [Try.params6] at hA hval
  obtain ⟨v0, vs0, d0, ds0, p0, q0, hargs, rfl, rfl, h0, r0⟩ := trodAll_cons hA
  obtain ⟨rfl, rfl, rfl⟩ := trodAll_nil r0
  obtain rfl : args = #[v0] := by cases args; simp_all
  obtain ⟨rfl, rfl⟩ := trodVars_none hV
  obtain ⟨a0, len0, cap0, rfl⟩ := okWide_slice Try.underlying22 (hval 0 22 v0 rfl rfl)
  have k0 := h0
  have lt0 : ∀ x ∈ p0, x.block < W.heap.size := by obtain ⟨m, hm⟩ := k0; exact DataW.trod_lt m _ _ _ hm
  obtain ⟨z0, w0⟩ : ∃ zs, IsRow .u8 W a0 len0 cap0 zs := by
    obtain ⟨fuel, hf⟩ := h0
    rcases open_ints Try.underlying22 Try.underlying5 (by kernel_rfl) hf with ⟨hcs, _⟩ | ⟨x, l, c, zs, hcs, _, hl, hm, hz, _, hcell, hwz⟩
    · simp [Value.cells] at hcs
      obtain ⟨rfl, rfl, rfl⟩ := hcs
      exact ⟨[], .inl ⟨rfl, rfl, rfl, rfl⟩⟩
    · simp [Value.cells] at hcs
      obtain ⟨rfl, rfl, rfl⟩ := hcs
      exact ⟨zs, .inr ⟨_, rfl, hl, hm, by simpa using hz, hcell, hwz⟩⟩
  obtain ⟨x0, hx0, rd0, wf0⟩ := w0.rd
  subst hx0
  have bd0 := w0.cap
  clear hA0 hval0
  refine (walk W a0 cap0 x0 rd0 wf0 bd0).mono fun e W' ⟨he, bel⟩ => ?_
  subst he
  exact ⟨_, rfl, _, _, _, [], _, [], hW', trodAll_mk1 (shut_bool Try.underlying4 _), (trodAll_cons_mk (Below.trod laidOut (by kernel_rfl) (of_decide_eq_true (by kernel_rfl)) k0 bel lt0) trodAll_mk0), rfl, bel.frame _, fun h => by cases h⟩

theorem over : Rows.fnProgramThreadsRow.holds Try.pinned (OpenSpec.ofChange Rows.fnProgramThreadsSpec) :=
  OpenClaim.holds_of_wide 6 Try.f6 rfl rfl rfl rfl rfl rfl rfl ⟨rfl, rfl, rfl, rfl, rfl⟩ rfl rfl rfl rfl rfl (by kernel_rfl) Try.func6 (by kernel_rfl)
    (of_decide_eq_true (by kernel_rfl)) (by unfold Func.isWrapper; first | (rw [if_pos (by decide +kernel)]; kernel_rfl) | (rw [if_neg (by decide +kernel)]; exact ⟨rfl, rfl⟩))
    (fun os started H enc _ => lifted os started H enc)

theorem proved : Rows.FnProgramThreadsSaid := over
#print axioms proved
end Go.Proofs.Ytciplfdgjbehgaa.fnProgramThreads
