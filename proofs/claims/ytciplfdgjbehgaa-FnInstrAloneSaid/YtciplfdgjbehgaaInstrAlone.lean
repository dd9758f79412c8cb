/-
  PROVED HERE: laws.FnInstrAlone returns true for every input, and each argument reads behind the call as it read before. CONDITIONS: none.
-/
import Derived.Test.YtciplfdgjbehgaaDrj
import Derived.Test.YtciplfdgjbehgaaFab
import Derived.Test.YtciplfdgjbehgaaTxi
import Derived.Test.YtciplfdgjbehgaaQui
import Derived.ShutString
import Derived.ChangeOld
namespace Go.Proofs.Ytciplfdgjbehgaa.fnInstrAlone
open Go.ChangeShapes Go.WideShapes Go.ChangeAt Go.RowKit
open Go.ChangeMaps (open_string shut_string)
set_option linter.unusedVariables false
open Go.Proofs.Ytciplfdgjbehgaa
theorem own : ownKnob Try.prog.godebug = none := by kernel_rfl
theorem laidOut : laidOutB Try.prog = true := by kernel_rfl

theorem walkBig (w : World) (a0 : Option Addr) (cap0 : Nat) (bs0 : List Int) (h0 : Rd w a0 (u8s bs0)) (f0 : ∀ n ∈ bs0, (Lit.int .u8 n).wf = true) (d0 : bs0.length ≤ cap0 ∧ cap0 ≤ 9223372036854775807) (hb : 1048576 < bs0.length) :
    Calls Try.prog 4 #[.slice a0 bs0.length cap0] w fun e w' => e = .returned (.bool true) ∧ Below w.heap.size w w' := by
  clear h0 f0 d0
  have g : (1048576 : Int) < bs0.length := by omega
  go_enter Try.func4, Try.ntmps4
  go_wp2
  go_ret
  exact ⟨rfl, Below.refl _ _⟩

set_option maxHeartbeats 3200000 in
theorem walkSmall (w : World) (a0 : Option Addr) (cap0 : Nat) (bs0 : List Int) (h0 : Rd w a0 (u8s bs0)) (f0 : ∀ n ∈ bs0, (Lit.int .u8 n).wf = true) (d0 : bs0.length ≤ cap0 ∧ cap0 ≤ 9223372036854775807) (s0 : bs0.length ≤ 1048576) :
    Calls Try.prog 4 #[.slice a0 bs0.length cap0] w fun e w' => e = .returned (.bool true) ∧ Below w.heap.size w w' := by
  have g0 : decide ((1048576 : Int) < bs0.length) = false := by simp; omega
  have CD0 := hid (fun (w1 : World) (hb : Below w.heap.size w w1) => drawInstr_c w1 a0 cap0 bs0 (h0.below hb) (byte_wf f0) s0 d0.1 d0.2)
  have HVI := hid (fun w x => validI_c w x)
  have HVS := hid (fun w x => validS_c w x)
  have HPV := hid (fun (w : World) (a : Option Addr) (x : Ins) (h : RdP w a [[x]]) => pvI_c w a 1 [[x]] h (by simp [sizeP]))
  have HFP := hid (fun (w : World) (a : Option Addr) (x : Ins) (h : RdP w a [[x]]) => fpI_c w a 1 [[x]] h (by simp [sizeP]))
  have HFI := hid (fun w x => fmtI_c w x)
  clear h0 f0 d0 s0
  go_enter Try.func4, Try.ntmps4
  go_wp2_with fail
  refine (CD0.out _ (Below.refl _ _)).mono ?_
  rintro e w1 ⟨x, rfl, hb1⟩
  have hs1 := hb1.size
  have HX1 := hid (Box.new w1 x 24)
  have HB1 := hid (hb1.alloc hb1.size (.cells #[.int .i64 x.op, .int .i64 x.loc, .int .i64 x.reg, .int .i64 x.val] 24))
  obtain ⟨⟨c0, c1, c2, c3⟩, hlt1⟩ : Box (w1.alloc (.cells #[.int .i64 x.op, .int .i64 x.loc, .int .i64 x.reg, .int .i64 x.val] 24)) w1.heap.size x ∧ w1.heap.size < w1.heap.size + 1 := ⟨HX1.out, by omega⟩
  obtain ⟨V, hV⟩ : ∃ V, V = insValid x := ⟨_, rfl⟩
  have HV := hid hV
  have hvi := fun w => HVI.out w x
  have hvs := fun w => HVS.out w x
  have hpv := fun w a => HPV.out w a x
  rw [← hV] at hvi hvs
  rw [valid_ins, ← hV] at hpv
  replace hvi := hid hvi
  replace hvs := hid hvs
  replace hpv := hid hpv
  clear hV hb1
  go_wp2_with fail
  refine (hvi.out _).mono ?_
  rintro e w2 ⟨rfl, hb2⟩
  have hs2 := hb2.size
  simp only [World.size_alloc] at hs2 hb2
  have HX2 := hid (HX1.out.below hb2 (by omega))
  have HB2 := hid (HB1.out.trans (hb2.mono (by omega)))
  have HR3 := hid (RdP.one w2 x)
  have HB3 := hid ((HB2.out.alloc (by omega) (.cells #[.int .i64 x.op, .int .i64 x.loc, .int .i64 x.reg, .int .i64 x.val] 24)).alloc (by simp; omega) (.cells #[.slice (some ⟨w2.heap.size, 0, none⟩) 1 1] 29))
  have HX3 := hid (HX2.out.below ((((Below.refl w2.heap.size w2).alloc (Nat.le_refl _) (.cells #[.int .i64 x.op, .int .i64 x.loc, .int .i64 x.reg, .int .i64 x.val] 24)).alloc (by simp) (.cells #[.slice (some ⟨w2.heap.size, 0, none⟩) 1 1] 29))) (by omega))
  obtain ⟨b0, b1, b2, b3⟩ := HX2.out
  obtain ⟨a0, a1, a2, a3⟩ := HX3.out
  clear c0 c1 c2 c3
  clear a0 a1 a2 a3
  have HXU := hid (fun (W : World) (hW : Cl ((w2.alloc (.cells #[.int .i64 x.op, .int .i64 x.loc, .int .i64 x.reg, .int .i64 x.val] 24)).alloc (.cells #[.slice (some ⟨w2.heap.size, 0, none⟩) 1 1] 29)) W) => HX3.out.below hW.b (by simp; omega))
  have HRU := hid (fun (W : World) (hW : Cl ((w2.alloc (.cells #[.int .i64 x.op, .int .i64 x.loc, .int .i64 x.reg, .int .i64 x.val] 24)).alloc (.cells #[.slice (some ⟨w2.heap.size, 0, none⟩) 1 1] 29)) W) => HR3.out.below hW.b)
  go_wp2_with fail
  cases V
  · refine wp_region_fresh (by kernel_rfl) (by kernel_rfl) ?_
    repeat (first
      | (refine wpQuiet_step (fun K hK => ?_); go_simp; first | refine hK _ ?_ | refine ⟨_, fun W hW => rfl, hK _ ?_⟩ | refine ⟨_, fun W hW => ⟨rfl, rfl⟩, hK _ ?_⟩; clear hK K)
      | (refine wpQuiet_step (fun K hK => ?_); go_simp; apply Exists.intro; refine ⟨fun W hW => ?_, hK _ ?_⟩; exact calls_fresh hW (hvs.out W); clear hK K)
      | (refine wpQuiet_step (fun K hK => ?_); go_simp; apply Exists.intro; refine ⟨fun W hW => ?_, hK _ ?_⟩; exact calls_fresh hW (hpv.out W _ (HRU.out W hW)); clear hK K)
      | (refine quiet_load4 3 _ x rfl rfl HXU.out ?_))
    refine wpQuiet_nil ?_
    intro W hW
    have HBW := hid (HB3.out.trans (hW.b.mono HB3.out.size))
    clear hW
    go_wp2_with fail
    go_ret
    exact ⟨rfl, HBW.out⟩
  · have HFF := hid (fun w a => HFP.out w a x)
    rw [fmt_one x HV.out.symm] at HFF
    have HFX := hid (fun w => HFI.out w x)
    obtain ⟨T, hT⟩ : ∃ T, T = fmtIns x := ⟨_, rfl⟩
    rw [← hT] at HFF HFX
    clear hT
    refine wp_region_fresh (by kernel_rfl) (by kernel_rfl) ?_
    repeat (first
      | (refine wpQuiet_step (fun K hK => ?_); go_simp; first | refine hK _ ?_ | refine ⟨_, fun W hW => rfl, hK _ ?_⟩ | refine ⟨_, fun W hW => ⟨rfl, rfl⟩, hK _ ?_⟩; clear hK K)
      | (refine wpQuiet_step (fun K hK => ?_); go_simp; apply Exists.intro; refine ⟨fun W hW => ?_, hK _ ?_⟩; exact calls_fresh hW (hvs.out W); clear hK K)
      | (refine wpQuiet_step (fun K hK => ?_); go_simp; apply Exists.intro; refine ⟨fun W hW => ?_, hK _ ?_⟩; exact calls_fresh hW (HFF.out W _ (HRU.out W hW)); clear hK K)
      | (refine wpQuiet_step (fun K hK => ?_); go_simp; apply Exists.intro; refine ⟨fun W hW => ?_, hK _ ?_⟩; exact calls_fresh hW (HFX.out W); clear hK K)
      | (refine wpQuiet_step (fun K hK => ?_); go_simp; apply Exists.intro; refine ⟨fun W hW => ?_, hK _ ?_⟩; exact calls_fresh hW (hpv.out W _ (HRU.out W hW)); clear hK K)
      | (refine quiet_load4 3 _ x rfl rfl HXU.out ?_))
    refine wpQuiet_nil ?_
    intro W hW
    have HBW := hid (HB3.out.trans (hW.b.mono HB3.out.size))
    clear hW
    go_wp2_with fail
    go_ret
    exact ⟨rfl, HBW.out⟩
theorem walk (w : World) (a0 : Option Addr) (cap0 : Nat) (bs0 : List Int) (h0 : Rd w a0 (u8s bs0)) (f0 : ∀ n ∈ bs0, (Lit.int .u8 n).wf = true) (d0 : bs0.length ≤ cap0 ∧ cap0 ≤ 9223372036854775807) :
    Calls Try.prog 4 #[.slice a0 bs0.length cap0] w fun e w' => e = .returned (.bool true) ∧ Below w.heap.size w w' := by
  by_cases hb : 1048576 < bs0.length
  · exact walkBig w a0 cap0 bs0 h0 f0 d0 hb
  · exact walkSmall w a0 cap0 bs0 h0 f0 d0 (by omega)

set_option maxRecDepth 100000 in
theorem lifted (os : Os) (started : os.Started) (H : Type) (enc : TypeId × Value → H) :
    ReturnsInHanded {} Try.checked os 4 .any (Rows.fnInstrAloneSpec.pre6 enc Try.prog Try.f4 Rows.fnInstrAloneRow.domain false) (Rows.fnInstrAloneSpec.post enc Try.prog Try.f4 false true false false) := by
  refine returnsInHanded_of_change (C := Try.checked) own started (by kernel_rfl) Try.func4
    (ChangeSpec.witness6 (enc := enc) (C := Try.checked) false ⟨#[], #[.slice none 0 0], []⟩ 8 (by kernel_rfl) (by kernel_rfl) (by kernel_rfl) (by kernel_rfl)) ?_
  intro W base args ds gs before hval0 hW hcnd _
  have hval : ∀ (j : Nat) t v, Try.f4.params[j]? = some t → args[j]? = some v → Value.okWide Try.prog W .any base t v := hval0
  have hW' := hW
  obtain ⟨p, q, hA0, hV, rfl, hfz, hnd⟩ := hW
  have hA : DataW.TrodAll enc Try.prog W 0 (fun _ => true) true Try.f4.params.toList args.toList ds p := hA0
  rw [Try.params4] at hA hval
  obtain ⟨v0, vs0, d0, ds0, p0, q0, hargs, rfl, rfl, h0, r0⟩ := trodAll_cons hA
  obtain ⟨rfl, rfl, rfl⟩ := trodAll_nil r0
  obtain rfl : args = #[v0] := by cases args; simp_all
  obtain ⟨rfl, rfl⟩ := trodVars_none hV
  obtain ⟨a0, len0, cap0, rfl⟩ := okWide_slice Try.underlying22 (hval 0 22 v0 rfl rfl)
  have k0 := h0
  have lt0 : ∀ x ∈ p0, x.block < W.heap.size := by obtain ⟨m, hm⟩ := k0; exact DataW.trod_lt m _ _ _ hm
  obtain ⟨z0, w0⟩ : ∃ zs, IsRow .u8 W a0 len0 cap0 zs := by
    obtain ⟨fuel, hf⟩ := h0
    rcases open_ints Try.underlying22 Try.underlying5 (by kernel_rfl) hf with ⟨hcs, _⟩ | ⟨x, l, c, zs, hcs, _, hl, hm, hz, _, hcell, hwz⟩
    · simp [Value.cells] at hcs
      obtain ⟨rfl, rfl, rfl⟩ := hcs
      exact ⟨[], .inl ⟨rfl, rfl, rfl, rfl⟩⟩
    · simp [Value.cells] at hcs
      obtain ⟨rfl, rfl, rfl⟩ := hcs
      exact ⟨zs, .inr ⟨_, rfl, hl, hm, by simpa using hz, hcell, hwz⟩⟩
  obtain ⟨x0, hx0, rd0, wf0⟩ := w0.rd
  subst hx0
  have bd0 := w0.cap
  clear hA0 hval0
  refine (walk W a0 cap0 x0 rd0 wf0 bd0).mono fun e W' ⟨he, bel⟩ => ?_
  subst he
  exact ⟨_, rfl, _, _, _, [], _, [], hW', trodAll_mk1 (shut_bool Try.underlying4 _), (trodAll_cons_mk (Below.trod laidOut (by kernel_rfl) (of_decide_eq_true (by kernel_rfl)) k0 bel lt0) trodAll_mk0), rfl, bel.frame _, fun h => by cases h⟩

theorem over : Rows.fnInstrAloneRow.holds Try.pinned (OpenSpec.ofChange Rows.fnInstrAloneSpec) :=
  OpenClaim.holds_of_wide 4 Try.f4 rfl rfl rfl rfl rfl rfl rfl ⟨rfl, rfl, rfl, rfl, rfl⟩ rfl rfl rfl rfl rfl (by kernel_rfl) Try.func4 (by kernel_rfl)
    (of_decide_eq_true (by kernel_rfl)) (by unfold Func.isWrapper; first | (rw [if_pos (by decide +kernel)]; kernel_rfl) | (rw [if_neg (by decide +kernel)]; exact ⟨rfl, rfl⟩))
    (fun os started H enc _ => lifted os started H enc)

theorem proved : Rows.FnInstrAloneSaid := over
#print axioms proved
end Go.Proofs.Ytciplfdgjbehgaa.fnInstrAlone
