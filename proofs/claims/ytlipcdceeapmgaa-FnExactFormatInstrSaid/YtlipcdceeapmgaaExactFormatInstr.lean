/-
  PROVED HERE: laws.FnExactFormatInstr returns true for every input, and each argument reads behind the call as it read before. CONDITIONS: none.
-/
import Derived.Test.YtlipcdceeapmgaaOpn
import Derived.Test.YtlipcdceeapmgaaFmt
import Derived.ShutString
import Derived.ChangeOld
namespace Go.Proofs.Ytlipcdceeapmgaa.fnExactFormatInstr
open Go.ChangeShapes Go.WideShapes Go.ChangeAt Go.RowKit
open Go.ChangeMaps (open_string shut_string)
set_option linter.unusedVariables false
open Go.Proofs.Ytlipcdceeapmgaa
theorem own : ownKnob Try.prog.godebug = none := by kernel_rfl
theorem laidOut : laidOutB Try.prog = true := by kernel_rfl

theorem walk (w : World) (X0 : Ins) :
    Calls Try.prog 4 #[X0.v] w fun e w' => e = .returned (.bool true) ∧ Below w.heap.size w w' := by
  have CS := hid (fun (w : World) => fmtS_c w X0)
  have CI := hid (fun (w : World) => fmtI_c w X0)
  obtain ⟨v0, hv0⟩ : ∃ v, v = fmtIns X0 := ⟨_, rfl⟩
  rw [← hv0] at CS CI
  clear hv0
  have BX := hid (fun t => Box.new w X0 t)
  go_enter Try.func4, Try.ntmps4
  go_wp2_with fail
  refine (toInstr_c _ X0).mono ?_
  rintro e w1 ⟨rfl, b1⟩
  have H1 := hid ((BX.out _).below b1 (by simp))
  have B1 := hid (((Below.refl w.heap.size w).alloc (Nat.le_refl _) _).trans (b1.mono (by simp)))
  clear b1
  go_wp2_with fail
  refine (CS.out _).mono ?_
  rintro e w2 ⟨rfl, b2⟩
  have H2 := H1.out.below b2 (by exact World.block_lt_of_cell? _ _ H1.out.1)
  have B2 := hid (B1.out.trans (b2.mono B1.out.size))
  obtain ⟨c0, c1, c2, c3⟩ := H2
  clear b2
  go_wp2_with fail
  refine (toInstr_c _ X0).mono ?_
  rintro e w3 ⟨rfl, b3⟩
  have B3 := hid (B2.out.trans (b3.mono B2.out.size))
  clear c0 c1 c2 c3 b3
  go_wp2_with fail
  refine (CI.out _).mono ?_
  rintro e w4 ⟨rfl, b4⟩
  have B4 := hid (B3.out.trans (b4.mono B3.out.size))
  clear b4
  go_wp2
  go_ret
  exact ⟨rfl, B4.out⟩


set_option maxRecDepth 100000 in
theorem lifted (os : Os) (started : os.Started) (H : Type) (enc : TypeId × Value → H) :
    ReturnsInHanded {} Try.checked os 4 .any (Rows.fnExactFormatInstrSpec.pre6 enc Try.prog Try.f4 Rows.fnExactFormatInstrRow.domain false) (Rows.fnExactFormatInstrSpec.post enc Try.prog Try.f4 false true false false) := by
  refine returnsInHanded_of_change (C := Try.checked) own started (by kernel_rfl) Try.func4
    (ChangeSpec.witness6 (enc := enc) (C := Try.checked) false ⟨#[], #[.agg #[.int .i64 0, .int .i64 0, .int .i64 0, .int .i64 0]], []⟩ 8 (by kernel_rfl) (by kernel_rfl) (by kernel_rfl) (by kernel_rfl)) ?_
  intro W base args ds gs before hval0 hW hcnd _
  have hval : ∀ (j : Nat) t v, Try.f4.params[j]? = some t → args[j]? = some v → Value.okWide Try.prog W .any base t v := hval0
  have hW' := hW
  obtain ⟨p, q, hA0, hV, rfl, hfz, hnd⟩ := hW
  have hA : DataW.TrodAll enc Try.prog W 0 (fun _ => true) true Try.f4.params.toList args.toList ds p := hA0
  rw [Try.params4] at hA hval
  obtain ⟨v0, vs0, d0, ds0, p0, q0, hargs, rfl, rfl, h0, r0⟩ := trodAll_cons hA
  obtain ⟨rfl, rfl, rfl⟩ := trodAll_nil r0
  obtain rfl : args = #[v0] := by cases args; simp_all
  obtain ⟨rfl, rfl⟩ := trodVars_none hV
  have k0 := h0
  have lt0 : ∀ x ∈ p0, x.block < W.heap.size := by obtain ⟨m, hm⟩ := k0; exact DataW.trod_lt m _ _ _ hm
  obtain ⟨x0, rfl⟩ := open_instr (hval 0 23 v0 rfl rfl) h0
  clear hA0 hval0
  refine (walk W x0).mono fun e W' ⟨he, bel⟩ => ?_
  subst he
  exact ⟨_, rfl, _, _, _, [], _, [], hW', trodAll_mk1 (shut_bool Try.underlying4 _), (trodAll_cons_mk (Below.trod laidOut (by kernel_rfl) (of_decide_eq_true (by kernel_rfl)) k0 bel lt0) trodAll_mk0), rfl, bel.frame _, fun h => by cases h⟩

theorem over : Rows.fnExactFormatInstrRow.holds Try.pinned (OpenSpec.ofChange Rows.fnExactFormatInstrSpec) :=
  OpenClaim.holds_of_wide 4 Try.f4 rfl rfl rfl rfl rfl rfl rfl ⟨rfl, rfl, rfl, rfl, rfl⟩ rfl rfl rfl rfl rfl (by kernel_rfl) Try.func4 (by kernel_rfl)
    (of_decide_eq_true (by kernel_rfl)) (by unfold Func.isWrapper; first | (rw [if_pos (by decide +kernel)]; kernel_rfl) | (rw [if_neg (by decide +kernel)]; exact ⟨rfl, rfl⟩))
    (fun os started H enc _ => lifted os started H enc)

theorem proved : Rows.FnExactFormatInstrSaid := over
#print axioms proved
end Go.Proofs.Ytlipcdceeapmgaa.fnExactFormatInstr
