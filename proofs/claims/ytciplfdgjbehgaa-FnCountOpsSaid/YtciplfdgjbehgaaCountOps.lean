/-
  PROVED HERE: laws.FnCountOps returns true for every input, and each argument reads behind the call as it read before. CONDITIONS: none.
-/
import Derived.Test.YtciplfdgjbehgaaRdp
import Derived.Test.YtciplfdgjbehgaaLawP
import Derived.ShutString
import Derived.ChangeOld
namespace Go.Proofs.Ytciplfdgjbehgaa.fnCountOps
open Go.ChangeShapes Go.WideShapes Go.ChangeAt Go.RowKit
open Go.ChangeMaps (open_string shut_string)
set_option linter.unusedVariables false
open Go.Proofs.Ytciplfdgjbehgaa
theorem own : ownKnob Try.prog.godebug = none := by kernel_rfl
theorem laidOut : laidOutB Try.prog = true := by kernel_rfl

theorem walkBig (w : World) (a0 : Option Addr) (cap0 : Nat) (bs0 : List Int) (h0 : Rd w a0 (u8s bs0)) (f0 : ∀ n ∈ bs0, (Lit.int .u8 n).wf = true) (d0 : bs0.length ≤ cap0 ∧ cap0 ≤ 9223372036854775807) (hb : 1048576 < bs0.length) :
    Calls Try.prog 7 #[.slice a0 bs0.length cap0] w fun e w' => e = .returned (.bool true) ∧ Below w.heap.size w w' := by
  clear h0 f0 d0
  have g : (1048576 : Int) < bs0.length := by omega
  go_enter Try.func7, Try.ntmps7
  go_wp2
  go_ret
  exact ⟨rfl, Below.refl _ _⟩

set_option maxHeartbeats 3200000 in
theorem walkSmall (w : World) (a0 : Option Addr) (cap0 : Nat) (bs0 : List Int) (h0 : Rd w a0 (u8s bs0)) (f0 : ∀ n ∈ bs0, (Lit.int .u8 n).wf = true) (d0 : bs0.length ≤ cap0 ∧ cap0 ≤ 9223372036854775807) (s0 : bs0.length ≤ 1048576) :
    Calls Try.prog 7 #[.slice a0 bs0.length cap0] w fun e w' => e = .returned (.bool true) ∧ Below w.heap.size w w' := by
  have g0 : decide ((1048576 : Int) < bs0.length) = false := by simp; omega
  have CD0 := hid (fun (w1 : World) (hb : Below w.heap.size w w1) => drawCO_c w1 a0 cap0 bs0 (h0.below hb) (byte_wf f0) s0 d0.1 d0.2)
  clear h0 f0 d0 s0
  go_enter Try.func7, Try.ntmps7
  go_wp2_with fail
  refine (CD0.out _ (Below.refl _ _)).mono ?_
  rintro e w1 ⟨p, a1, c1, op, rfl, hr1, hz1, hb1⟩
  have hpl := sizeP_len p
  have HR1 := hid hr1
  have HB1 := hid hb1
  have hs1 := hb1.size
  have HCI := hid (fun w h => coI_c w a1 c1 p op h (by omega))
  have HCK := hid (fun w (k : Int) h => coI_c w a1 c1 p k h (by omega))
  have HCS := hid (fun w h => coS_c w a1 c1 p op h (by omega))
  have HPV := hid (fun w h => pvI_c w a1 c1 p h (by omega))
  obtain ⟨V, hV⟩ : ∃ V, V = progValid p := ⟨_, rfl⟩
  rw [← hV] at HPV
  have HV := hid hV
  clear hV
  obtain ⟨n, hn⟩ : ∃ n, n = p.length := ⟨_, rfl⟩
  have HN := hid hn
  obtain ⟨N, hN⟩ : ∃ N, N = countOps p op := ⟨_, rfl⟩
  rw [← hN] at HCI HCS
  rw [← hn] at hpl HCI HCS HCK HPV ⊢
  clear hr1 hb1 hn hN
  go_wp2_with fail
  refine (HCI.out _ HR1.out).mono ?_
  rintro e w2 ⟨rfl, hb2⟩
  have HR2 := hid (HR1.out.below hb2)
  have HB2 := hid (HB1.out.trans (hb2.mono HB1.out.size))
  have hs2 := hb2.size
  clear hb2
  go_wp2_with fail
  refine (HCS.out _ HR2.out).mono ?_
  rintro e w3 ⟨rfl, hb3⟩
  have HR3 := hid (HR2.out.below hb3)
  have HB3 := hid (HB2.out.trans (hb3.mono HB2.out.size))
  have hs3 := hb3.size
  clear hb3
  go_wp2_with fail
  refine (HPV.out _ HR3.out).mono ?_
  rintro e w4 ⟨rfl, hb4⟩
  have HR4 := hid (HR3.out.below hb4)
  have HB4 := hid (HB3.out.trans (hb4.mono HB3.out.size))
  have hs4 := hb4.size
  clear hb4
  cases V
  · skip
    go_wp2_with fail
    refine (HCS.out _ HR4.out).mono ?_
    rintro e w5 ⟨rfl, hb5⟩
    have HR5 := hid (HR4.out.below hb5)
    have HB5 := hid (HB4.out.trans (hb5.mono HB4.out.size))
    have hs5 := hb5.size
    clear hb5
    go_wp2_with fail
    go_ret
    exact ⟨rfl, HB5.out⟩
  · have HK := hid (fun j => sumC_le p j hz1)
    have HSU := hid (fun j => sumC_succ p j)
    have HSE := hid (show (sumC p 6 : Nat) = sumTo n p by rw [sumC_six, ops_sum p HV.out.symm, HN.out, sumTo_all])
    have HTL := hid (fun k => Nat.le_trans (sumTo_le p k) (show (p.map List.length).sum ≤ 100 by unfold sizeP at hz1; omega))
    go_wp2_with fail
    go_loopw [6, 8] (fun v i wr => ∃ j : Nat, 1 ≤ j ∧ j ≤ 6 ∧ i = .int .i64 j ∧ v = .int .i64 (sumC p j : Nat) ∧ Hid (RdP wr a1 p) ∧ Hid (Below w.heap.size w wr)) (fun _ i _ => 6 - (intOf i).toNat)
    case atStart => exact ⟨1, by omega, by omega, rfl, rfl, HR4, HB4⟩
    case round =>
      obtain ⟨j, hj1, hj, rfl, rfl, HRj, HBj⟩ := hrel
      obtain ⟨wo, rfl⟩ : ∃ wo : World, wo = wr := ⟨_, rfl⟩
      have hk1 := HK.out j
      by_cases hlt : j ≤ 5
      · have hlt' : (j : Int) ≤ 5 := by omega
        have HS1 := hid (HSU.out j)
        have hk2 := HK.out (j + 1)
        obtain ⟨c, hc⟩ : ∃ c, c = countOps p j := ⟨_, rfl⟩
        have HCJ := hid (HCK.out wo j HRj.out)
        rw [← hc] at HCJ HS1
        have hc2 : c ≤ 1000 := by have h1 := HS1.out; rw [if_pos hj1] at h1; omega
        have HS2 := hid (show sumC p (j + 1) = sumC p j + c by have h1 := HS1.out; rw [if_pos hj1] at h1; exact h1)
        clear hc HS1 hk2
        obtain ⟨s, hs⟩ : ∃ s, s = sumC p j := ⟨_, rfl⟩
        rw [← hs] at hk1 HS2 ⊢
        clear hs
        go_wp2_with fail
        refine HCJ.out.mono ?_
        rintro e w5 ⟨rfl, hb5⟩
        have HR5 := hid (HRj.out.below hb5)
        have HB5 := hid (HBj.out.trans (hb5.mono HBj.out.size))
        clear hb5
        go_wp2_with fail
        go_roundw
        case rel => exact ⟨j + 1, by omega, by omega, by go_num, by rw [HS2.out]; go_num, HR5, HB5⟩
        case measure => simp [intOf]; omega
      · have hlt' : decide ((j : Int) ≤ 5) = false := by simp; omega
        have hlt'' : decide (j ≤ 5) = false := by simp; omega
        have HJ := hid (show j = 6 by omega)
        clear hlt
        have HS0 := hid (sumTo_zero p)
        go_wp2_with fail
        go_loopw [7, 9] (fun v i wr => ∃ k : Nat, k ≤ n ∧ i = .int .i64 k ∧ v = .int .i64 (sumTo k p : Nat) ∧ wr = wo) (fun _ i _ => n - (intOf i).toNat)
        case atStart => exact ⟨0, Nat.zero_le _, rfl, by rw [HS0.out]; rfl, by first | rfl | trivial⟩
        case round =>
          obtain ⟨k, hk, rfl, rfl, rfl⟩ := hrel
          have ht := HTL.out k
          by_cases hkn : k < n
          · obtain ⟨b, off, r, c, xs, hab, hb, hx, hcell, _⟩ := HRj.out.at k (by rw [← HN.out]; exact hkn)
            subst hab
            have HS := hid (sumTo_succ hx)
            have ht2 := HTL.out (k + 1)
            obtain ⟨m, hm⟩ : ∃ m, m = xs.length := ⟨_, rfl⟩
            rw [← hm] at hcell HS
            have hm2 : m ≤ 1000 := by have := HS.out; omega
            obtain ⟨s, hs⟩ : ∃ s, s = sumTo k p := ⟨_, rfl⟩
            rw [← hs] at ht HS ⊢
            clear hx hm hs ht2
            go_wp2_with fail
            go_roundw
            case rel => exact ⟨k + 1, by omega, by go_num, by rw [HS.out]; go_num, by first | rfl | trivial⟩
            case measure => simp [intOf]; omega
          · have hkn' : decide ((k : Int) < (n : Int)) = false := by simp; omega
            have hkn'' : decide (k < n) = false := by simp; omega
            have HKN := hid (show k = n by omega)
            clear hkn
            have he : ((sumC p j : Nat) : Int) = ((sumTo k p : Nat) : Int) := by rw [HJ.out, HKN.out, HSE.out]
            obtain ⟨s, hs⟩ : ∃ s, s = sumC p j := ⟨_, rfl⟩
            obtain ⟨t, htt⟩ : ∃ t, t = sumTo k p := ⟨_, rfl⟩
            rw [← hs, ← htt] at he
            rw [← hs, ← htt]
            have he2 : s = t := by omega
            clear he hs htt ht hk1
            subst he2
            go_wp2_with fail
            go_ret
            exact ⟨by simp, HBj.out⟩
theorem walk (w : World) (a0 : Option Addr) (cap0 : Nat) (bs0 : List Int) (h0 : Rd w a0 (u8s bs0)) (f0 : ∀ n ∈ bs0, (Lit.int .u8 n).wf = true) (d0 : bs0.length ≤ cap0 ∧ cap0 ≤ 9223372036854775807) :
    Calls Try.prog 7 #[.slice a0 bs0.length cap0] w fun e w' => e = .returned (.bool true) ∧ Below w.heap.size w w' := by
  by_cases hb : 1048576 < bs0.length
  · exact walkBig w a0 cap0 bs0 h0 f0 d0 hb
  · exact walkSmall w a0 cap0 bs0 h0 f0 d0 (by omega)

set_option maxRecDepth 100000 in
theorem lifted (os : Os) (started : os.Started) (H : Type) (enc : TypeId × Value → H) :
    ReturnsInHanded {} Try.checked os 7 .any (Rows.fnCountOpsSpec.pre6 enc Try.prog Try.f7 Rows.fnCountOpsRow.domain false) (Rows.fnCountOpsSpec.post enc Try.prog Try.f7 false true false false) := by
  refine returnsInHanded_of_change (C := Try.checked) own started (by kernel_rfl) Try.func7
    (ChangeSpec.witness6 (enc := enc) (C := Try.checked) false ⟨#[], #[.slice none 0 0], []⟩ 8 (by kernel_rfl) (by kernel_rfl) (by kernel_rfl) (by kernel_rfl)) ?_
  intro W base args ds gs before hval0 hW hcnd _
  have hval : ∀ (j : Nat) t v, Try.f7.params[j]? = some t → args[j]? = some v → Value.okWide Try.prog W .any base t v := hval0
  have hW' := hW
  obtain ⟨p, q, hA0, hV, rfl, hfz, hnd⟩ := hW
  have hA : DataW.TrodAll enc Try.prog W 0 (fun _ => true) true Try.f7.params.toList args.toList ds p := hA0
  rw [Try.params7] at hA hval
  obtain ⟨v0, vs0, d0, ds0, p0, q0, hargs, rfl, rfl, h0, r0⟩ := trodAll_cons hA
  obtain ⟨rfl, rfl, rfl⟩ := trodAll_nil r0
  obtain rfl : args = #[v0] := by cases args; simp_all
  obtain ⟨rfl, rfl⟩ := trodVars_none hV
  obtain ⟨a0, len0, cap0, rfl⟩ := okWide_slice Try.underlying22 (hval 0 22 v0 rfl rfl)
  have k0 := h0
  have lt0 : ∀ x ∈ p0, x.block < W.heap.size := by obtain ⟨m, hm⟩ := k0; exact DataW.trod_lt m _ _ _ hm
  obtain ⟨z0, w0⟩ : ∃ zs, IsRow .u8 W a0 len0 cap0 zs := by
    obtain ⟨fuel, hf⟩ := h0
    rcases open_ints Try.underlying22 Try.underlying5 (by kernel_rfl) hf with ⟨hcs, _⟩ | ⟨x, l, c, zs, hcs, _, hl, hm, hz, _, hcell, hwz⟩
    · simp [Value.cells] at hcs
      obtain ⟨rfl, rfl, rfl⟩ := hcs
      exact ⟨[], .inl ⟨rfl, rfl, rfl, rfl⟩⟩
    · simp [Value.cells] at hcs
      obtain ⟨rfl, rfl, rfl⟩ := hcs
      exact ⟨zs, .inr ⟨_, rfl, hl, hm, by simpa using hz, hcell, hwz⟩⟩
  obtain ⟨x0, hx0, rd0, wf0⟩ := w0.rd
  subst hx0
  have bd0 := w0.cap
  clear hA0 hval0
  refine (walk W a0 cap0 x0 rd0 wf0 bd0).mono fun e W' ⟨he, bel⟩ => ?_
  subst he
  exact ⟨_, rfl, _, _, _, [], _, [], hW', trodAll_mk1 (shut_bool Try.underlying4 _), (trodAll_cons_mk (Below.trod laidOut (by kernel_rfl) (of_decide_eq_true (by kernel_rfl)) k0 bel lt0) trodAll_mk0), rfl, bel.frame _, fun h => by cases h⟩

theorem over : Rows.fnCountOpsRow.holds Try.pinned (OpenSpec.ofChange Rows.fnCountOpsSpec) :=
  OpenClaim.holds_of_wide 7 Try.f7 rfl rfl rfl rfl rfl rfl rfl ⟨rfl, rfl, rfl, rfl, rfl⟩ rfl rfl rfl rfl rfl (by kernel_rfl) Try.func7 (by kernel_rfl)
    (of_decide_eq_true (by kernel_rfl)) (by unfold Func.isWrapper; first | (rw [if_pos (by decide +kernel)]; kernel_rfl) | (rw [if_neg (by decide +kernel)]; exact ⟨rfl, rfl⟩))
    (fun os started H enc _ => lifted os started H enc)

theorem proved : Rows.FnCountOpsSaid := over
#print axioms proved
end Go.Proofs.Ytciplfdgjbehgaa.fnCountOps
