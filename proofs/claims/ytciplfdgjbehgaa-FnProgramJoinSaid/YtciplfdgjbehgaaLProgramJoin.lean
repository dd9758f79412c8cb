/-
  PROVED HERE: laws.FnProgramJoin returns true for every input, and each argument reads behind the call as it read before. CONDITIONS: none.
-/
import Derived.Test.YtciplfdgjbehgaaRdp
import Derived.ShutString
import Derived.ChangeOld
namespace Go.Proofs.Ytciplfdgjbehgaa.fnProgramJoin
open Go.ChangeShapes Go.WideShapes Go.ChangeAt Go.RowKit
open Go.ChangeMaps (open_string shut_string)
set_option linter.unusedVariables false
open Go.Proofs.Ytciplfdgjbehgaa
theorem own : ownKnob Try.prog.godebug = none := by kernel_rfl
theorem laidOut : laidOutB Try.prog = true := by kernel_rfl

theorem walkBig (w : World) (a0 : Option Addr) (cap0 : Nat) (bs0 : List Int) (h0 : Rd w a0 (u8s bs0)) (f0 : ∀ n ∈ bs0, (Lit.int .u8 n).wf = true) (d0 : bs0.length ≤ cap0 ∧ cap0 ≤ 9223372036854775807) (hb : 1048576 < bs0.length) :
    Calls Try.prog 9 #[.slice a0 bs0.length cap0] w fun e w' => e = .returned (.bool true) ∧ Below w.heap.size w w' := by
  clear h0 f0 d0
  have g : (1048576 : Int) < bs0.length := by omega
  go_enter Try.func9, Try.ntmps9
  go_wp2
  go_ret
  exact ⟨rfl, Below.refl _ _⟩

set_option maxHeartbeats 3200000 in
theorem walkSmall (w : World) (a0 : Option Addr) (cap0 : Nat) (bs0 : List Int) (h0 : Rd w a0 (u8s bs0)) (f0 : ∀ n ∈ bs0, (Lit.int .u8 n).wf = true) (d0 : bs0.length ≤ cap0 ∧ cap0 ≤ 9223372036854775807) (s0 : bs0.length ≤ 1048576) :
    Calls Try.prog 9 #[.slice a0 bs0.length cap0] w fun e w' => e = .returned (.bool true) ∧ Below w.heap.size w w' := by
  have g0 : decide ((1048576 : Int) < bs0.length) = false := by simp; omega
  have CD0 := hid (fun (w1 : World) (hb : Below w.heap.size w w1) => drawFormatProgram_c w1 a0 cap0 bs0 (h0.below hb) (byte_wf f0) s0 d0.1 d0.2)
  clear h0 f0 d0 s0
  go_enter Try.func9, Try.ntmps9
  go_wp2_with fail
  refine (CD0.out _ (Below.refl _ _)).mono ?_
  rintro e w1 ⟨p, a1, c1, rfl, hc1, hr1, hz1, hb1⟩
  have hpl := sizeP_len p
  have HR1 := hid hr1
  have HB1 := hid hb1
  have hs1 := hb1.size
  have HFI := hid (fun w h => fpI_c w a1 c1 p h (by omega))
  have HFS := hid (fun w h => fpS_c w a1 c1 p h (by omega))
  have HPV := hid (fun w h => pvI_c w a1 c1 p h (by omega))
  obtain ⟨V, hV⟩ : ∃ V, V = progValid p := ⟨_, rfl⟩
  rw [← hV] at HPV
  have HV := hid hV
  clear hV
  obtain ⟨n, hn⟩ : ∃ n, n = p.length := ⟨_, rfl⟩
  have HN := hid hn
  rw [← hn] at hc1 hpl HFI HFS HPV ⊢
  clear hr1 hb1 hn
  obtain ⟨F, hF⟩ : ∃ F, F = fmtPrg p := ⟨_, rfl⟩
  rw [← hF] at HFI HFS
  have HFF := hid hF
  clear hF
  go_wp2_with fail
  refine (HFI.out _ HR1.out).mono ?_
  rintro e w2 ⟨rfl, hb2⟩
  have HR2 := hid (HR1.out.below hb2)
  have HB2 := hid (HB1.out.trans (hb2.mono HB1.out.size))
  have hs2 := hb2.size
  clear hb2
  go_wp2_with fail
  refine (HFS.out _ HR2.out).mono ?_
  rintro e w3 ⟨rfl, hb3⟩
  have HR3 := hid (HR2.out.below hb3)
  have HB3 := hid (HB2.out.trans (hb3.mono HB2.out.size))
  have hs3 := hb3.size
  clear hb3
  go_wp2_with fail
  refine (HPV.out _ HR3.out).mono ?_
  rintro e w4 ⟨rfl, hb4⟩
  have HR4 := hid (HR3.out.below hb4)
  have HB4 := hid (HB3.out.trans (hb4.mono HB3.out.size))
  have hs4 := hb4.size
  clear hb4
  cases V
  · skip
    go_wp2_with fail
    refine (HFS.out _ HR4.out).mono ?_
    rintro e w5 ⟨rfl, hb5⟩
    have HR5 := hid (HR4.out.below hb5)
    have HB5 := hid (HB4.out.trans (hb5.mono HB4.out.size))
    have hs5 := hb5.size
    clear hb5
    go_wp2_with fail
    go_ret
    exact ⟨rfl, HB5.out⟩
  · have hv := valid_of HV.out.symm
    have hn3 : n ≤ 3 := by rw [HN.out]; exact hv.len
    have HSH := hid hv.toShape
    have H0 := hid (show ba (prgTo p 0) = (⟨#[]⟩ : ByteArray) by rw [prgTo_zero]; rfl)
    have HSU := hid (fun k xs (hx : p[k]? = some xs) => prgTo_succ (p := p) hx)
    have HLE := hid (fun k => prgTo_le hv.toShape k)
    have HFE := hid (show F = ba (prgTo p n) by rw [HFF.out, HN.out, prgTo_all]; unfold fmtPrg; rw [if_pos HV.out.symm])
    have HRW := hid (fun xs (hx : xs ∈ p) => fmt_row HV.out.symm hx)
    have HSZ := hid (fun xs (hx : xs ∈ p) => (show sizeP [xs] ≤ 1048576 by
      have : xs.length ≤ (p.map List.length).sum := le_sum_of (List.mem_map.2 ⟨xs, hx, rfl⟩)
      simp [sizeP]
      unfold sizeP at hz1
      omega))
    clear hv
    go_wp2_with fail
    go_loopw [5, 6] (fun v i wr => ∃ k : Nat, k ≤ n ∧ i = .int .i64 k ∧ v = .string (ba (prgTo p k)) ∧ Hid (RdP wr a1 p) ∧ Hid (Below w.heap.size w wr)) (fun _ i _ => n - (intOf i).toNat)
    case atStart => exact ⟨0, Nat.zero_le _, rfl, by rw [H0.out], HR4, HB4⟩
    case round =>
      obtain ⟨k, hk, rfl, rfl, HRk, HBk⟩ := hrel
      obtain ⟨wo, rfl⟩ : ∃ wo : World, wo = wr := ⟨_, rfl⟩
      have hle := HLE.out k
      by_cases hlt : k < n
      · obtain ⟨b, off, r, c, xs, hab, hb, hx, hcell, _⟩ := HRk.out.at k (by rw [← HN.out]; exact hlt)
        subst hab
        have hR1 := HRk.out.row1 hx
        have hmem : xs ∈ p := List.mem_of_getElem? hx
        have HFR := hid (fun w h => fpI_c w (some ⟨b, off + k, none⟩) (c1 - k) [xs] h (HSZ.out xs hmem))
        rw [HRW.out xs hmem] at HFR
        have HR1' := hid hR1
        have HS := hid (HSU.out k xs hx)
        have hle2 := HLE.out (k + 1)
        have hXs : (ba (rowL xs)).size ≤ 129 := by
          have h1 := HS.out
          have h2 : (prgTo p (k + 1)).length = ((if 0 < k then prgTo p k ++ [124] else []) ++ rowL xs).length := by rw [h1]
          rw [List.length_append] at h2
          show (rowL xs).toArray.size ≤ _
          simp
          omega
        have hYs : (ba (prgTo p k)).size ≤ 129 := by show (prgTo p k).toArray.size ≤ _; simp; exact hle
        have HCAT := hid (show (if 0 < k then ba (prgTo p k) ++ ⟨#[124]⟩ else ba (prgTo p k)) ++ ba (rowL xs) = ba (prgTo p (k + 1)) by
          rw [HS.out]
          by_cases h0 : 0 < k
          · rw [if_pos h0, if_pos h0]
            have e1 : ba (prgTo p k) ++ ⟨#[124]⟩ = ba (prgTo p k ++ [124]) := ba_append _ [124]
            rw [e1, ba_append]
          · have h00 : k = 0 := by omega
            rw [if_neg h0, if_neg h0, h00, prgTo_zero, ba_append])
        obtain ⟨X, hX⟩ : ∃ X, X = ba (rowL xs) := ⟨_, rfl⟩
        rw [← hX] at HFR HCAT hXs
        obtain ⟨Y, hY⟩ : ∃ Y, Y = ba (prgTo p k) := ⟨_, rfl⟩
        rw [← hY] at HCAT hYs ⊢
        have hY1 : (Y ++ ⟨#[124]⟩).size ≤ 130 := by rw [ByteArray.size_append]; show Y.size + 1 ≤ _; omega
        have hc1' : ((k : Int) + 1) ≤ (c1 : Int) := by omega
        have hkc : (k : Int) < (c1 : Int) := by omega
        have hkc2 : k ≠ c1 := by omega
        have hkn : (k : Int) < (n : Int) := by omega
        clear hx hcell hmem hX hR1 hY hle hle2
        by_cases h0 : 0 < k
        all_goals
          have HC2 := hid HCAT.out
          first
            | (rw [if_pos h0] at HC2; have h0' : decide (0 < k) = true := by rw [decide_eq_true_eq]; exact h0)
            | (rw [if_neg h0] at HC2; have h0' : decide (0 < k) = false := by rw [decide_eq_false_iff_not]; exact h0)
          clear h0
          go_wp2_with fail
          refine (HFR.out _ HR1'.out).mono ?_
          rintro e w5 ⟨rfl, hb5⟩
          have HR5 := hid (HRk.out.below hb5)
          have HB5 := hid (HBk.out.trans (hb5.mono HBk.out.size))
          clear hb5
          go_wp2_with fail
          rw [HC2.out]
          go_roundw
          case rel => exact ⟨k + 1, by omega, by go_num, rfl, HR5, HB5⟩
          case measure => simp [intOf]; omega
      · have HKN := hid (show k = n by omega)
        have hkn' : decide ((k : Int) < (n : Int)) = false := by simp; omega
        have hkn'' : decide (k < n) = false := by simp; omega
        have hFk : F = ba (prgTo p k) := by rw [HFE.out, HKN.out]
        rw [← hFk]
        clear hlt hFk hle
        go_wp2_with fail
        go_ret
        exact ⟨by simp, HBk.out⟩
theorem walk (w : World) (a0 : Option Addr) (cap0 : Nat) (bs0 : List Int) (h0 : Rd w a0 (u8s bs0)) (f0 : ∀ n ∈ bs0, (Lit.int .u8 n).wf = true) (d0 : bs0.length ≤ cap0 ∧ cap0 ≤ 9223372036854775807) :
    Calls Try.prog 9 #[.slice a0 bs0.length cap0] w fun e w' => e = .returned (.bool true) ∧ Below w.heap.size w w' := by
  by_cases hb : 1048576 < bs0.length
  · exact walkBig w a0 cap0 bs0 h0 f0 d0 hb
  · exact walkSmall w a0 cap0 bs0 h0 f0 d0 (by omega)

set_option maxRecDepth 100000 in
theorem lifted (os : Os) (started : os.Started) (H : Type) (enc : TypeId × Value → H) :
    ReturnsInHanded {} Try.checked os 9 .any (Rows.fnProgramJoinSpec.pre6 enc Try.prog Try.f9 Rows.fnProgramJoinRow.domain false) (Rows.fnProgramJoinSpec.post enc Try.prog Try.f9 false true false false) := by
  refine returnsInHanded_of_change (C := Try.checked) own started (by kernel_rfl) Try.func9
    (ChangeSpec.witness6 (enc := enc) (C := Try.checked) false ⟨#[], #[.slice none 0 0], []⟩ 8 (by kernel_rfl) (by kernel_rfl) (by kernel_rfl) (by kernel_rfl)) ?_
  intro W base args ds gs before hval0 hW hcnd _
  have hval : ∀ (j : Nat) t v, Try.f9.params[j]? = some t → args[j]? = some v → Value.okWide Try.prog W .any base t v := hval0
  have hW' := hW
  obtain ⟨p, q, hA0, hV, rfl, hfz, hnd⟩ := hW
  have hA : DataW.TrodAll enc Try.prog W 0 (fun _ => true) true Try.f9.params.toList args.toList ds p := hA0
  rw [Try.params9] at hA hval
  obtain ⟨v0, vs0, d0, ds0, p0, q0, hargs, rfl, rfl, h0, r0⟩ := trodAll_cons hA
  obtain ⟨rfl, rfl, rfl⟩ := trodAll_nil r0
  obtain rfl : args = #[v0] := by cases args; simp_all
  obtain ⟨rfl, rfl⟩ := trodVars_none hV
  obtain ⟨a0, len0, cap0, rfl⟩ := okWide_slice Try.underlying22 (hval 0 22 v0 rfl rfl)
  have k0 := h0
  have lt0 : ∀ x ∈ p0, x.block < W.heap.size := by obtain ⟨m, hm⟩ := k0; exact DataW.trod_lt m _ _ _ hm
  obtain ⟨z0, w0⟩ : ∃ zs, IsRow .u8 W a0 len0 cap0 zs := by
    obtain ⟨fuel, hf⟩ := h0
    rcases open_ints Try.underlying22 Try.underlying5 (by kernel_rfl) hf with ⟨hcs, _⟩ | ⟨x, l, c, zs, hcs, _, hl, hm, hz, _, hcell, hwz⟩
    · simp [Value.cells] at hcs
      obtain ⟨rfl, rfl, rfl⟩ := hcs
      exact ⟨[], .inl ⟨rfl, rfl, rfl, rfl⟩⟩
    · simp [Value.cells] at hcs
      obtain ⟨rfl, rfl, rfl⟩ := hcs
      exact ⟨zs, .inr ⟨_, rfl, hl, hm, by simpa using hz, hcell, hwz⟩⟩
  obtain ⟨x0, hx0, rd0, wf0⟩ := w0.rd
  subst hx0
  have bd0 := w0.cap
  clear hA0 hval0
  refine (walk W a0 cap0 x0 rd0 wf0 bd0).mono fun e W' ⟨he, bel⟩ => ?_
  subst he
  exact ⟨_, rfl, _, _, _, [], _, [], hW', trodAll_mk1 (shut_bool Try.underlying4 _), (trodAll_cons_mk (Below.trod laidOut (by kernel_rfl) (of_decide_eq_true (by kernel_rfl)) k0 bel lt0) trodAll_mk0), rfl, bel.frame _, fun h => by cases h⟩

theorem over : Rows.fnProgramJoinRow.holds Try.pinned (OpenSpec.ofChange Rows.fnProgramJoinSpec) :=
  OpenClaim.holds_of_wide 9 Try.f9 rfl rfl rfl rfl rfl rfl rfl ⟨rfl, rfl, rfl, rfl, rfl⟩ rfl rfl rfl rfl rfl (by kernel_rfl) Try.func9 (by kernel_rfl)
    (of_decide_eq_true (by kernel_rfl)) (by unfold Func.isWrapper; first | (rw [if_pos (by decide +kernel)]; kernel_rfl) | (rw [if_neg (by decide +kernel)]; exact ⟨rfl, rfl⟩))
    (fun os started H enc _ => lifted os started H enc)

theorem proved : Rows.FnProgramJoinSaid := over
#print axioms proved
end Go.Proofs.Ytciplfdgjbehgaa.fnProgramJoin
