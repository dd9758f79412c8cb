/-
  PROVED HERE: laws.FnInstrText returns true for every input, and each argument reads behind the call as it read before. CONDITIONS: none.
-/
import Derived.Test.YtciplfdgjbehgaaInx
import Derived.Test.YtciplfdgjbehgaaSame
import Derived.ShutString
import Derived.ChangeOld
namespace Go.Proofs.Ytciplfdgjbehgaa.fnInstrText
open Go.ChangeShapes Go.WideShapes Go.ChangeAt Go.RowKit
open Go.ChangeMaps (open_string shut_string)
set_option linter.unusedVariables false
open Go.Proofs.Ytciplfdgjbehgaa
theorem own : ownKnob Try.prog.godebug = none := by kernel_rfl
theorem laidOut : laidOutB Try.prog = true := by kernel_rfl

theorem walkBig (w : World) (a0 : Option Addr) (cap0 : Nat) (bs0 : List Int) (h0 : Rd w a0 (u8s bs0)) (f0 : ∀ n ∈ bs0, (Lit.int .u8 n).wf = true) (d0 : bs0.length ≤ cap0 ∧ cap0 ≤ 9223372036854775807) (a1 : Option Addr) (cap1 : Nat) (bs1 : List Int) (h1 : Rd w a1 (u8s bs1)) (f1 : ∀ n ∈ bs1, (Lit.int .u8 n).wf = true) (d1 : bs1.length ≤ cap1 ∧ cap1 ≤ 9223372036854775807) (hb : 1048576 < bs0.length ∨ 1048576 < bs1.length) :
    Calls Try.prog 3 #[.slice a0 bs0.length cap0, .slice a1 bs1.length cap1] w fun e w' => e = .returned (.bool true) ∧ Below w.heap.size w w' := by
  clear h0 f0 d0
  clear h1 f1 d1
  by_cases hc : 1048576 < bs0.length
  · have g : (1048576 : Int) < bs0.length := by omega
    clear hb hc
    go_enter Try.func3, Try.ntmps3
    go_wp2
    go_ret
    exact ⟨rfl, Below.refl _ _⟩
  · have g : decide ((1048576 : Int) < bs0.length) = false := by simp; omega
    have g1 : (1048576 : Int) < bs1.length := by omega
    clear hb hc
    go_enter Try.func3, Try.ntmps3
    go_wp2
    go_ret
    exact ⟨rfl, Below.refl _ _⟩

set_option maxRecDepth 100000 in
set_option maxHeartbeats 3200000 in
theorem walkSmall (w : World) (a0 : Option Addr) (cap0 : Nat) (bs0 : List Int) (h0 : Rd w a0 (u8s bs0)) (f0 : ∀ n ∈ bs0, (Lit.int .u8 n).wf = true) (d0 : bs0.length ≤ cap0 ∧ cap0 ≤ 9223372036854775807) (a1 : Option Addr) (cap1 : Nat) (bs1 : List Int) (h1 : Rd w a1 (u8s bs1)) (f1 : ∀ n ∈ bs1, (Lit.int .u8 n).wf = true) (d1 : bs1.length ≤ cap1 ∧ cap1 ≤ 9223372036854775807) (s0 : bs0.length ≤ 1048576) (s1 : bs1.length ≤ 1048576) :
    Calls Try.prog 3 #[.slice a0 bs0.length cap0, .slice a1 bs1.length cap1] w fun e w' => e = .returned (.bool true) ∧ Below w.heap.size w w' := by
  have g0 : decide ((1048576 : Int) < bs0.length) = false := by simp; omega
  have g1 : decide ((1048576 : Int) < bs1.length) = false := by simp; omega
  have CD0 := hid (fun (w1 : World) (hb : Below w.heap.size w w1) => drawFI_c w1 a0 cap0 bs0 (h0.below hb) (byte_wf f0) s0 d0.1 d0.2)
  have CD1 := hid (fun (w1 : World) (hb : Below w.heap.size w w1) => drawInstr_c w1 a1 cap1 bs1 (h1.below hb) (byte_wf f1) s1 d1.1 d1.2)
  have HFI := hid (fun w x => fmtI_c w x)
  have HFS := hid (fun w x => fmtS_c w x)
  have HVI := hid (fun w x => validI_c w x)
  have HVS := hid (fun w x => validS_c w x)
  clear h0 f0 d0 s0 h1 f1 d1 s1
  go_enter Try.func3, Try.ntmps3
  go_wp2_with fail
  refine (CD0.out _ (Below.refl _ _)).mono ?_
  rintro e w1 ⟨x, rfl, hb1⟩
  have hs1 := hb1.size
  have HX1 := hid (Box.new w1 x 24)
  have HB1 := hid (hb1.alloc hb1.size (.cells #[.int .i64 x.op, .int .i64 x.loc, .int .i64 x.reg, .int .i64 x.val] 24))
  clear hb1
  go_wp2_with fail
  refine (CD1.out _ HB1.out).mono ?_
  rintro e w2 ⟨y, rfl, hb2⟩
  have hs2 := hb2.size
  simp only [World.size_alloc] at hs2 hb2
  have HX2 := hid ((HX1.out.below hb2 (by omega)).below ((Below.refl w2.heap.size w2).alloc (Nat.le_refl _) (.cells #[.int .i64 y.op, .int .i64 y.loc, .int .i64 y.reg, .int .i64 y.val] 24)) (by omega))
  have HY2 := hid (Box.new w2 y 24)
  have HB2 := hid ((HB1.out.trans (hb2.mono (by omega))).alloc (by omega) (.cells #[.int .i64 y.op, .int .i64 y.loc, .int .i64 y.reg, .int .i64 y.val] 24))
  clear hb2
  obtain ⟨VX, hVX⟩ : ∃ V, V = insValid x := ⟨_, rfl⟩
  obtain ⟨VY, hVY⟩ : ∃ V, V = insValid y := ⟨_, rfl⟩
  have HVX := hid hVX
  have HVY := hid hVY
  have HVIX := fun w => HVI.out w x
  have HVIY := fun w => HVI.out w y
  have HVSY := fun w => HVS.out w y
  have HFSX := fun w => HFS.out w x
  have HFIX := fun w => HFI.out w x
  have HFIY := fun w => HFI.out w y
  rw [← hVX] at HVIX
  rw [← hVY] at HVIY HVSY
  obtain ⟨S, hS⟩ : ∃ S, S = fmtIns x := ⟨_, rfl⟩
  obtain ⟨T, hT⟩ : ∃ T, T = fmtIns y := ⟨_, rfl⟩
  have HS := hid hS
  have HT := hid hT
  rw [← hS] at HFSX HFIX
  rw [← hT] at HFIY
  replace HVIX := hid HVIX
  replace HVIY := hid HVIY
  replace HVSY := hid HVSY
  replace HFSX := hid HFSX
  replace HFIX := hid HFIX
  replace HFIY := hid HFIY
  clear hVX hVY hS hT
  obtain ⟨c0, c1, c2, c3⟩ := HX2.out
  go_wp2_with fail
  refine (HFIX.out _).mono ?_
  rintro e w3 ⟨rfl, hb3⟩
  have hs3 := hb3.size
  simp only [World.size_alloc] at hs3 hb3
  have HX3 := hid (HX2.out.below hb3 (by omega))
  have HY3 := hid (HY2.out.below hb3 (by omega))
  have HB3 := hid (HB2.out.trans (hb3.mono (by omega)))
  clear hb3 c0 c1 c2 c3
  obtain ⟨c0, c1, c2, c3⟩ := HY3.out
  go_wp2_with fail
  refine (HFIY.out _).mono ?_
  rintro e w4 ⟨rfl, hb4⟩
  have hs4 := hb4.size
  have HX4 := hid (HX3.out.below hb4 (by omega))
  have HY4 := hid (HY3.out.below hb4 (by omega))
  have HB4 := hid (HB3.out.trans (hb4.mono (by omega)))
  clear hb4 c0 c1 c2 c3
  have HXU := hid (fun (W : World) (hW : Cl w4 W) => HX4.out.below hW.b (by omega))
  have HYU := hid (fun (W : World) (hW : Cl w4 W) => HY4.out.below hW.b (by omega))
  go_wp2_with fail
  cases VX
  · have hS0 : S = ⟨#[]⟩ := by rw [HS.out]; exact (fmt_empty x).2 HVX.out.symm
    subst hS0
    refine wp_region_fresh (by kernel_rfl) (by kernel_rfl) ?_
    (refine wpQuiet_step (fun K hK => ?_); go_simp; first | refine hK _ ?_ | refine ⟨_, fun W hW => rfl, hK _ ?_⟩ | refine ⟨_, fun W hW => ⟨rfl, rfl⟩, hK _ ?_⟩; clear hK K)
    (refine quiet_load4 5 _ x rfl rfl HXU.out ?_)
    (refine wpQuiet_step (fun K hK => ?_); go_simp; apply Exists.intro; refine ⟨fun W hW => ?_, hK _ ?_⟩; exact calls_fresh hW (HFSX.out W); clear hK K)
    (refine wpQuiet_step (fun K hK => ?_); go_simp; first | refine hK _ ?_ | refine ⟨_, fun W hW => rfl, hK _ ?_⟩ | refine ⟨_, fun W hW => ⟨rfl, rfl⟩, hK _ ?_⟩; clear hK K)
    (refine wpQuiet_step (fun K hK => ?_); go_simp; first | refine hK _ ?_ | refine ⟨_, fun W hW => rfl, hK _ ?_⟩ | refine ⟨_, fun W hW => ⟨rfl, rfl⟩, hK _ ?_⟩; clear hK K)
    (refine quiet_load4 6 _ y rfl rfl HYU.out ?_)
    (refine wpQuiet_step (fun K hK => ?_); go_simp; apply Exists.intro; refine ⟨fun W hW => ?_, hK _ ?_⟩; exact calls_fresh hW (HVIY.out W); clear hK K)
    (refine quiet_load4 6 _ y rfl rfl HYU.out ?_)
    (refine wpQuiet_step (fun K hK => ?_); go_simp; apply Exists.intro; refine ⟨fun W hW => ?_, hK _ ?_⟩; exact calls_fresh hW (HVSY.out W); clear hK K)
    (refine wpQuiet_step (fun K hK => ?_); go_simp; first | refine hK _ ?_ | refine ⟨_, fun W hW => rfl, hK _ ?_⟩ | refine ⟨_, fun W hW => ⟨rfl, rfl⟩, hK _ ?_⟩; clear hK K)
    (refine wpQuiet_step (fun K hK => ?_); go_simp; first | refine hK _ ?_ | refine ⟨_, fun W hW => rfl, hK _ ?_⟩ | refine ⟨_, fun W hW => ⟨rfl, rfl⟩, hK _ ?_⟩; clear hK K)
    (refine wpQuiet_step (fun K hK => ?_); go_simp; first | refine hK _ ?_ | refine ⟨_, fun W hW => rfl, hK _ ?_⟩ | refine ⟨_, fun W hW => ⟨rfl, rfl⟩, hK _ ?_⟩; clear hK K)
    (refine wpQuiet_step (fun K hK => ?_); go_simp; first | refine hK _ ?_ | refine ⟨_, fun W hW => rfl, hK _ ?_⟩ | refine ⟨_, fun W hW => ⟨rfl, rfl⟩, hK _ ?_⟩; clear hK K)
    (refine wpQuiet_step (fun K hK => ?_); go_simp; first | refine hK _ ?_ | refine ⟨_, fun W hW => rfl, hK _ ?_⟩ | refine ⟨_, fun W hW => ⟨rfl, rfl⟩, hK _ ?_⟩; clear hK K)
    (refine quiet_load4 5 _ x rfl rfl HXU.out ?_)
    (refine wpQuiet_step (fun K hK => ?_); go_simp; apply Exists.intro; refine ⟨fun W hW => ?_, hK _ ?_⟩; exact calls_fresh hW (HVIX.out W); clear hK K)
    (refine wpQuiet_step (fun K hK => ?_); go_simp; first | refine hK _ ?_ | refine ⟨_, fun W hW => rfl, hK _ ?_⟩ | refine ⟨_, fun W hW => ⟨rfl, rfl⟩, hK _ ?_⟩; clear hK K)
    (refine wpQuiet_step (fun K hK => ?_); go_simp; first | refine hK _ ?_ | refine ⟨_, fun W hW => rfl, hK _ ?_⟩ | refine ⟨_, fun W hW => ⟨rfl, rfl⟩, hK _ ?_⟩; clear hK K)
    (refine wpQuiet_step (fun K hK => ?_); go_simp; first | refine hK _ ?_ | refine ⟨_, fun W hW => rfl, hK _ ?_⟩ | refine ⟨_, fun W hW => ⟨rfl, rfl⟩, hK _ ?_⟩; clear hK K)
    refine wpQuiet_nil ?_
    intro W hW
    have HBW := hid (HB4.out.trans (hW.b.mono HB4.out.size))
    have HXW := hid (HXU.out W hW)
    have HYW := hid (HYU.out W hW)
    clear hW
    go_wp2_with fail
    go_ret
    exact ⟨rfl, HBW.out⟩
  · have hS1 : S.toList.isEmpty = false := by
      cases hb : S.toList.isEmpty with
      | false => rfl
      | true =>
        have h1 : S = ⟨#[]⟩ := ByteArray.ext (Array.toList_inj.1 (by rw [← ByteArray.toList_eq]; simpa using hb))
        rw [HS.out, fmt_empty, ← HVX.out] at h1
        cases h1
    refine wp_region_fresh (by kernel_rfl) (by kernel_rfl) ?_
    (refine wpQuiet_step (fun K hK => ?_); go_simp; first | refine hK _ ?_ | refine ⟨_, fun W hW => rfl, hK _ ?_⟩ | refine ⟨_, fun W hW => ⟨rfl, rfl⟩, hK _ ?_⟩; clear hK K)
    (refine quiet_load4 5 _ x rfl rfl HXU.out ?_)
    (refine wpQuiet_step (fun K hK => ?_); go_simp; apply Exists.intro; refine ⟨fun W hW => ?_, hK _ ?_⟩; exact calls_fresh hW (HFSX.out W); clear hK K)
    (refine wpQuiet_step (fun K hK => ?_); go_simp; first | refine hK _ ?_ | refine ⟨_, fun W hW => rfl, hK _ ?_⟩ | refine ⟨_, fun W hW => ⟨rfl, rfl⟩, hK _ ?_⟩; clear hK K)
    (refine wpQuiet_step (fun K hK => ?_); go_simp; first | refine hK _ ?_ | refine ⟨_, fun W hW => rfl, hK _ ?_⟩ | refine ⟨_, fun W hW => ⟨rfl, rfl⟩, hK _ ?_⟩; clear hK K)
    (refine quiet_load4 6 _ y rfl rfl HYU.out ?_)
    (refine wpQuiet_step (fun K hK => ?_); go_simp; apply Exists.intro; refine ⟨fun W hW => ?_, hK _ ?_⟩; exact calls_fresh hW (HVIY.out W); clear hK K)
    (refine quiet_load4 6 _ y rfl rfl HYU.out ?_)
    (refine wpQuiet_step (fun K hK => ?_); go_simp; apply Exists.intro; refine ⟨fun W hW => ?_, hK _ ?_⟩; exact calls_fresh hW (HVSY.out W); clear hK K)
    (refine wpQuiet_step (fun K hK => ?_); go_simp; first | refine hK _ ?_ | refine ⟨_, fun W hW => rfl, hK _ ?_⟩ | refine ⟨_, fun W hW => ⟨rfl, rfl⟩, hK _ ?_⟩; clear hK K)
    (refine wpQuiet_step (fun K hK => ?_); go_simp; first | refine hK _ ?_ | refine ⟨_, fun W hW => rfl, hK _ ?_⟩ | refine ⟨_, fun W hW => ⟨rfl, rfl⟩, hK _ ?_⟩; clear hK K)
    (refine wpQuiet_step (fun K hK => ?_); go_simp; first | refine hK _ ?_ | refine ⟨_, fun W hW => rfl, hK _ ?_⟩ | refine ⟨_, fun W hW => ⟨rfl, rfl⟩, hK _ ?_⟩; clear hK K)
    (refine wpQuiet_step (fun K hK => ?_); go_simp; first | refine hK _ ?_ | refine ⟨_, fun W hW => rfl, hK _ ?_⟩ | refine ⟨_, fun W hW => ⟨rfl, rfl⟩, hK _ ?_⟩; clear hK K)
    (refine wpQuiet_step (fun K hK => ?_); go_simp; first | refine hK _ ?_ | refine ⟨_, fun W hW => rfl, hK _ ?_⟩ | refine ⟨_, fun W hW => ⟨rfl, rfl⟩, hK _ ?_⟩; clear hK K)
    (refine quiet_load4 5 _ x rfl rfl HXU.out ?_)
    (refine wpQuiet_step (fun K hK => ?_); go_simp; apply Exists.intro; refine ⟨fun W hW => ?_, hK _ ?_⟩; exact calls_fresh hW (HVIX.out W); clear hK K)
    (refine wpQuiet_step (fun K hK => ?_); go_simp; first | refine hK _ ?_ | refine ⟨_, fun W hW => rfl, hK _ ?_⟩ | refine ⟨_, fun W hW => ⟨rfl, rfl⟩, hK _ ?_⟩; clear hK K)
    (refine wpQuiet_step (fun K hK => ?_); go_simp; first | refine hK _ ?_ | refine ⟨_, fun W hW => rfl, hK _ ?_⟩ | refine ⟨_, fun W hW => ⟨rfl, rfl⟩, hK _ ?_⟩; clear hK K)
    (refine wpQuiet_step (fun K hK => ?_); go_simp; first | refine hK _ ?_ | refine ⟨_, fun W hW => rfl, hK _ ?_⟩ | refine ⟨_, fun W hW => ⟨rfl, rfl⟩, hK _ ?_⟩; clear hK K)
    refine wpQuiet_nil ?_
    intro W hW
    have HBW := hid (HB4.out.trans (hW.b.mono HB4.out.size))
    have HXW := hid (HXU.out W hW)
    have HYW := hid (HYU.out W hW)
    clear hW
    cases VY
    · have hT0 : T = ⟨#[]⟩ := by rw [HT.out]; exact (fmt_empty y).2 HVY.out.symm
      subst hT0
      go_wp2_with fail
      go_ret
      exact ⟨rfl, HBW.out⟩
    · have hT1 : T.toList.isEmpty = false := by
        cases hb : T.toList.isEmpty with
        | false => rfl
        | true =>
          have h1 : T = ⟨#[]⟩ := ByteArray.ext (Array.toList_inj.1 (by rw [← ByteArray.toList_eq]; simpa using hb))
          rw [HT.out, fmt_empty, ← HVY.out] at h1
          cases h1
      have hST : (S.toList == T.toList) = decide (x = y) := by
        rw [Bool.eq_iff_iff, beq_iff_eq, decide_eq_true_iff, ← fmt_inj HVX.out.symm HVY.out.symm, ← HS.out, ← HT.out, ByteArray.toList_eq, ByteArray.toList_eq]
        exact ⟨fun e => ByteArray.ext (Array.toList_inj.1 e), fun e => by rw [e]⟩
      obtain ⟨D, hD⟩ : ∃ D, D = decide (x = y) := ⟨_, rfl⟩
      rw [← hD] at hST
      have HD := hid hD
      clear hD
      obtain ⟨x0, x1, x2, x3⟩ := HXW.out
      obtain ⟨y0, y1, y2, y3⟩ := HYW.out
      go_wp2_with fail
      all_goals
        go_ret
        refine ⟨ret_bool ?_, HBW.out⟩
        rw [HD.out]
        first
          | (simp only [Bool.not_eq_true', decide_eq_false_iff_not]; intro e; first | exact absurd (congrArg Ins.op e) (by assumption) | exact absurd (congrArg Ins.loc e) (by assumption) | exact absurd (congrArg Ins.reg e) (by assumption) | exact absurd (congrArg Ins.val e) (by assumption))
          | (rw [decide_eq_true_eq]
             have e0 : x.op = y.op := by assumption
             have e1 : x.loc = y.loc := by assumption
             have e2 : x.reg = y.reg := by assumption
             have e3 : x.val = y.val := by assumption
             exact ins_ext e0 e1 e2 e3)
theorem walk (w : World) (a0 : Option Addr) (cap0 : Nat) (bs0 : List Int) (h0 : Rd w a0 (u8s bs0)) (f0 : ∀ n ∈ bs0, (Lit.int .u8 n).wf = true) (d0 : bs0.length ≤ cap0 ∧ cap0 ≤ 9223372036854775807) (a1 : Option Addr) (cap1 : Nat) (bs1 : List Int) (h1 : Rd w a1 (u8s bs1)) (f1 : ∀ n ∈ bs1, (Lit.int .u8 n).wf = true) (d1 : bs1.length ≤ cap1 ∧ cap1 ≤ 9223372036854775807) :
    Calls Try.prog 3 #[.slice a0 bs0.length cap0, .slice a1 bs1.length cap1] w fun e w' => e = .returned (.bool true) ∧ Below w.heap.size w w' := by
  by_cases hb : 1048576 < bs0.length ∨ 1048576 < bs1.length
  · exact walkBig w a0 cap0 bs0 h0 f0 d0 a1 cap1 bs1 h1 f1 d1 hb
  · exact walkSmall w a0 cap0 bs0 h0 f0 d0 a1 cap1 bs1 h1 f1 d1 (by omega) (by omega)

set_option maxRecDepth 100000 in
theorem lifted (os : Os) (started : os.Started) (H : Type) (enc : TypeId × Value → H) :
    ReturnsInHanded {} Try.checked os 3 .any (Rows.fnInstrTextSpec.pre6 enc Try.prog Try.f3 Rows.fnInstrTextRow.domain false) (Rows.fnInstrTextSpec.post enc Try.prog Try.f3 false true false false) := by
  refine returnsInHanded_of_change (C := Try.checked) own started (by kernel_rfl) Try.func3
    (ChangeSpec.witness6 (enc := enc) (C := Try.checked) false ⟨#[], #[.slice none 0 0, .slice none 0 0], []⟩ 8 (by kernel_rfl) (by kernel_rfl) (by kernel_rfl) (by kernel_rfl)) ?_
  intro W base args ds gs before hval0 hW hcnd _
  have hval : ∀ (j : Nat) t v, Try.f3.params[j]? = some t → args[j]? = some v → Value.okWide Try.prog W .any base t v := hval0
  have hW' := hW
  obtain ⟨p, q, hA0, hV, rfl, hfz, hnd⟩ := hW
  have hA : DataW.TrodAll enc Try.prog W 0 (fun _ => true) true Try.f3.params.toList args.toList ds p := hA0
  rw [Try.params3] at hA hval
  obtain ⟨v0, vs0, d0, ds0, p0, q0, hargs, rfl, rfl, h0, r0⟩ := trodAll_cons hA
  obtain ⟨v1, vs1, d1, ds1, p1, q1, rfl, rfl, rfl, h1, r1⟩ := trodAll_cons r0
  obtain ⟨rfl, rfl, rfl⟩ := trodAll_nil r1
  obtain rfl : args = #[v0, v1] := by cases args; simp_all
  obtain ⟨rfl, rfl⟩ := trodVars_none hV
  obtain ⟨a0, len0, cap0, rfl⟩ := okWide_slice Try.underlying22 (hval 0 22 v0 rfl rfl)
  have k0 := h0
  have lt0 : ∀ x ∈ p0, x.block < W.heap.size := by obtain ⟨m, hm⟩ := k0; exact DataW.trod_lt m _ _ _ hm
  obtain ⟨z0, w0⟩ : ∃ zs, IsRow .u8 W a0 len0 cap0 zs := by
    obtain ⟨fuel, hf⟩ := h0
    rcases open_ints Try.underlying22 Try.underlying5 (by kernel_rfl) hf with ⟨hcs, _⟩ | ⟨x, l, c, zs, hcs, _, hl, hm, hz, _, hcell, hwz⟩
    · simp [Value.cells] at hcs
      obtain ⟨rfl, rfl, rfl⟩ := hcs
      exact ⟨[], .inl ⟨rfl, rfl, rfl, rfl⟩⟩
    · simp [Value.cells] at hcs
      obtain ⟨rfl, rfl, rfl⟩ := hcs
      exact ⟨zs, .inr ⟨_, rfl, hl, hm, by simpa using hz, hcell, hwz⟩⟩
  obtain ⟨x0, hx0, rd0, wf0⟩ := w0.rd
  subst hx0
  have bd0 := w0.cap
  obtain ⟨a1, len1, cap1, rfl⟩ := okWide_slice Try.underlying22 (hval 1 22 v1 rfl rfl)
  have k1 := h1
  have lt1 : ∀ x ∈ p1, x.block < W.heap.size := by obtain ⟨m, hm⟩ := k1; exact DataW.trod_lt m _ _ _ hm
  obtain ⟨z1, w1⟩ : ∃ zs, IsRow .u8 W a1 len1 cap1 zs := by
    obtain ⟨fuel, hf⟩ := h1
    rcases open_ints Try.underlying22 Try.underlying5 (by kernel_rfl) hf with ⟨hcs, _⟩ | ⟨x, l, c, zs, hcs, _, hl, hm, hz, _, hcell, hwz⟩
    · simp [Value.cells] at hcs
      obtain ⟨rfl, rfl, rfl⟩ := hcs
      exact ⟨[], .inl ⟨rfl, rfl, rfl, rfl⟩⟩
    · simp [Value.cells] at hcs
      obtain ⟨rfl, rfl, rfl⟩ := hcs
      exact ⟨zs, .inr ⟨_, rfl, hl, hm, by simpa using hz, hcell, hwz⟩⟩
  obtain ⟨x1, hx1, rd1, wf1⟩ := w1.rd
  subst hx1
  have bd1 := w1.cap
  clear hA0 hval0
  refine (walk W a0 cap0 x0 rd0 wf0 bd0 a1 cap1 x1 rd1 wf1 bd1).mono fun e W' ⟨he, bel⟩ => ?_
  subst he
  exact ⟨_, rfl, _, _, _, [], _, [], hW', trodAll_mk1 (shut_bool Try.underlying4 _), (trodAll_cons_mk (Below.trod laidOut (by kernel_rfl) (of_decide_eq_true (by kernel_rfl)) k0 bel lt0) (trodAll_cons_mk (Below.trod laidOut (by kernel_rfl) (of_decide_eq_true (by kernel_rfl)) k1 bel lt1) trodAll_mk0)), rfl, bel.frame _, fun h => by cases h⟩

theorem over : Rows.fnInstrTextRow.holds Try.pinned (OpenSpec.ofChange Rows.fnInstrTextSpec) :=
  OpenClaim.holds_of_wide 3 Try.f3 rfl rfl rfl rfl rfl rfl rfl ⟨rfl, rfl, rfl, rfl, rfl⟩ rfl rfl rfl rfl rfl (by kernel_rfl) Try.func3 (by kernel_rfl)
    (of_decide_eq_true (by kernel_rfl)) (by unfold Func.isWrapper; first | (rw [if_pos (by decide +kernel)]; kernel_rfl) | (rw [if_neg (by decide +kernel)]; exact ⟨rfl, rfl⟩))
    (fun os started H enc _ => lifted os started H enc)

theorem proved : Rows.FnInstrTextSaid := over
#print axioms proved
end Go.Proofs.Ytciplfdgjbehgaa.fnInstrText
