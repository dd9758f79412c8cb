/-
  PROVED HERE: laws.FnExactFormatRel returns true for every input (relations or not), and each argument reads behind the call as it read before. CONDITIONS: none.
-/
import Derived.Test.YtmeoclkngjboiaaDoorFrel
import Derived.Test.YtmeoclkngjboiaaDoorInts
import Derived.ShutString
import Derived.ProofKit
import Derived.LaidMore
import Derived.Stop.Joined
import Derived.SevenTiedAt
import Derived.Test.YtmeoclkngjboiaaDoorTie
import Derived.Test.YtmeoclkngjboiaaDoorCards
import Derived.ChangeOld
namespace Go.Proofs.YtmeoclkngjboiaaDoor.fnExactFormatRel
open Go.ChangeShapes Go.WideShapes Go.ChangeAt Go.RowKit
open Go.ChangeMaps (open_string shut_string)
set_option linter.unusedVariables false
open Go.Proofs.YtmeoclkngjboiaaDoor
theorem own : ownKnob Tryd.prog.godebug = none := by kernel_rfl
theorem laidOut : laidOutB Tryd.prog = true := by kernel_rfl

theorem walkBig (w : World) (a0 : Option Addr) (cap0 : Nat) (xs0 : List Int) (hbig : 1048576 < xs0.length) :
    Calls Tryd.prog 5 #[.slice a0 xs0.length cap0] w fun e w' => e = .returned (.bool true) ∧ Below w.heap.size w w' := by
  have g : (1048576 : Int) < xs0.length := by omega
  go_enter Tryd.func5, Tryd.ntmps5
  go_wp2
  go_ret
  exact ⟨rfl, Below.refl _ _⟩

set_option maxHeartbeats 1600000 in
theorem walkSmall (w : World) (a0 : Option Addr) (cap0 : Nat) (xs0 : List Int) (h0 : Rd w a0 (ints xs0)) (l0 : xs0.length ≤ 1048576) :
    Calls Tryd.prog 5 #[.slice a0 xs0.length cap0] w fun e w' => e = .returned (.bool true) ∧ Below w.heap.size w w' := by
  have CS := hid (fun (w : World) (a0 : Option Addr) (cap0 : Nat) h0 => FR.frS_c w a0 cap0 xs0 h0 l0)
  have CI := hid (fun (w : World) (a0 : Option Addr) (cap0 : Nat) h0 => FR.frI_c w a0 cap0 xs0 h0 l0)
  obtain ⟨v, hv⟩ : ∃ v, v = FR.fmtR xs0 := ⟨_, rfl⟩
  rw [← hv] at CS CI
  clear hv
  have d0 : decide ((1048576 : Int) < xs0.length) = false := by simp; omega
  go_enter Tryd.func5, Tryd.ntmps5
  go_wp2_with fail
  refine (toIntS_c _ _ _ xs0 h0 l0).mono ?_
  rintro e w1 ⟨t0, ct0, rfl, ot0, b1⟩
  have B1 : Below w.heap.size w w1 := b1
  go_wp2_with fail
  refine (CS.out _ _ _ (Rd.own ot0)).mono ?_
  rintro e w2 ⟨rfl, b2⟩
  have B2 : Below w.heap.size w w2 := B1.trans (b2.mono B1.size)
  replace ot0 := own_below ot0 b2
  clear ot0
  go_wp2_with fail
  refine (toIntS_c _ _ _ xs0 (h0.below B2) l0).mono ?_
  rintro e w3 ⟨x0, cx0, rfl, ox0, b3⟩
  have B3 : Below w.heap.size w w3 := B2.trans (b3.mono B2.size)
  go_wp2_with fail
  refine (CI.out _ _ _ (Rd.own ox0)).mono ?_
  rintro e w4 ⟨rfl, b4⟩
  have B4 : Below w.heap.size w w4 := B3.trans (b4.mono B3.size)
  replace ox0 := own_below ox0 b4
  go_wp2_with fail
  refine (toIntS_c _ _ _ xs0 (h0.below B4) l0).mono ?_
  rintro e w5 ⟨y0, cy0, rfl, oy0, b5⟩
  have B5 : Below w.heap.size w w5 := B4.trans (b5.mono B4.size)
  replace ox0 := own_below ox0 b5
  go_wp2_with fail
  refine (eqSame_c _ _ _ _ _ xs0 (Rd.own ox0) (Rd.own oy0) l0).mono ?_
  rintro e w6 ⟨rfl, b6⟩
  have B6 : Below w.heap.size w w6 := B5.trans (b6.mono B5.size)
  replace ox0 := own_below ox0 b6
  replace oy0 := own_below oy0 b6
  clear oy0
  go_wp2
  go_ret
  exact ⟨rfl, B6⟩

theorem walk (w : World) (a0 : Option Addr) (cap0 : Nat) (xs0 : List Int) (h0 : Rd w a0 (ints xs0)) :
    Calls Tryd.prog 5 #[.slice a0 xs0.length cap0] w fun e w' => e = .returned (.bool true) ∧ Below w.heap.size w w' := by
  by_cases hb : 1048576 < xs0.length
  · exact walkBig w a0 cap0 xs0 hb
  · exact walkSmall w a0 cap0 xs0 h0 (by omega)

set_option maxRecDepth 100000 in
theorem door_met (os : Os) (args : Array Value) : laidMetH Tryd.prog Rows.fnExactFormatRelRow.laid ((World.doorLaid Tryd.prog 400 os).forCall (fun _ _ => 0) ⟨#[], args, []⟩).memory :=
  laidMetH_of_parts3 (fuel := 8) (laidMet_of_run' 8 (by kernel_rfl) (by kernel_rfl)) (by kernel_rfl) (by kernel_rfl)
set_option maxRecDepth 100000 in
theorem lifted (os : Os) (started : os.Started) (H : Type) (enc : TypeId × Value → H) :
    ReturnsInHanded {} Tryd.checked os 5 .any (fun w args => (Rows.fnExactFormatRelSpec.pre enc Tryd.prog Tryd.f5 [] false w args ∧ laidMetH Tryd.prog Rows.fnExactFormatRelRow.laid w) ∧ sizedMet enc Tryd.prog Tryd.f5 (OpenSpec.ofChange Rows.fnExactFormatRelSpec) false w args)
      (Rows.fnExactFormatRelSpec.post enc Tryd.prog Tryd.f5 false true false false) := by
  refine returnsInHanded_of_change_and (C := Tryd.checked) (X := fun w _ => laidMetH Tryd.prog Rows.fnExactFormatRelRow.laid w) (fun _ _ _ hh h => h.of_heap hh) own started (by kernel_rfl) Tryd.func5
    (ChangeSpec.witness_shaped (enc := enc) (C := Tryd.checked) (os := os) (X := fun w _ => laidMetH Tryd.prog Rows.fnExactFormatRelRow.laid w) false (World.doorLaid Tryd.prog 400 os) #[.slice none 0 0] 8 rfl (World.shaped_of_RefB (by kernel_rfl) (by kernel_rfl)) (by kernel_rfl) (by kernel_rfl) (by kernel_rfl) (door_met os _)) ?_
  intro W base args ds gs before hval0 hW hcnd _ hL _
  have hval : ∀ (j : Nat) t v, Tryd.f5.params[j]? = some t → args[j]? = some v → Value.okWide Tryd.prog W .any base t v := hval0
  have hW' := hW
  obtain ⟨p, q, hA0, hV, rfl, hfz, hnd⟩ := hW
  have hA : DataW.TrodAll enc Tryd.prog W 0 (fun _ => true) true Tryd.f5.params.toList args.toList ds p := hA0
  rw [Tryd.params5] at hA hval
  obtain ⟨v0, vs0, d0, ds0, p0, q0, hargs, rfl, rfl, h0, r0⟩ := trodAll_cons hA
  obtain ⟨rfl, rfl, rfl⟩ := trodAll_nil r0
  obtain rfl : args = #[v0] := by cases args; simp_all
  obtain ⟨rfl, rfl⟩ := trodVars_none hV
  obtain ⟨a0, len0, cap0, rfl⟩ := okWide_slice Tryd.underlying34 (hval 0 34 v0 rfl rfl)
  have k0 := h0
  have lt0 : ∀ x ∈ p0, x.block < W.heap.size := by obtain ⟨m, hm⟩ := k0; exact DataW.trod_lt m _ _ _ hm
  obtain ⟨z0, w0⟩ : ∃ zs, IsRow .i64 W a0 len0 cap0 zs := by
    obtain ⟨fuel, hf⟩ := h0
    rcases open_ints Tryd.underlying34 Tryd.underlying3 (by kernel_rfl) hf with ⟨hcs, _⟩ | ⟨x, l, c, zs, hcs, _, hl, hm, hz, _, hcell, hwz⟩
    · simp [Value.cells] at hcs
      obtain ⟨rfl, rfl, rfl⟩ := hcs
      exact ⟨[], .inl ⟨rfl, rfl, rfl, rfl⟩⟩
    · simp [Value.cells] at hcs
      obtain ⟨rfl, rfl, rfl⟩ := hcs
      exact ⟨zs, .inr ⟨_, rfl, hl, hm, by simpa using hz, hcell, hwz⟩⟩
  obtain ⟨x0, hx0, rd0, wf0⟩ := w0.rd
  subst hx0
  clear hA0 hval0
  refine (walk W a0 cap0 x0 rd0).mono fun e W' ⟨he, bel⟩ => ?_
  subst he
  exact ⟨_, rfl, _, _, _, [], _, [], hW', trodAll_mk1 (shut_bool Tryd.underlying4 _), (trodAll_cons_mk (Below.trod laidOut (by kernel_rfl) (of_decide_eq_true (by kernel_rfl)) k0 bel lt0) trodAll_mk0), rfl, bel.frame _, fun h => by cases h⟩

theorem over : Rows.fnExactFormatRelRow.holds Tryd.pinned (OpenSpec.ofChange Rows.fnExactFormatRelSpec) :=
  OpenClaim.holds_of_wide 5 Tryd.f5 rfl rfl rfl rfl rfl rfl rfl ⟨rfl, rfl, rfl, rfl, rfl⟩ rfl rfl rfl rfl rfl (by kernel_rfl) Tryd.func5 (by kernel_rfl)
    (of_decide_eq_true (by kernel_rfl)) (by unfold Func.isWrapper; first | (rw [if_pos (by decide +kernel)]; kernel_rfl) | (rw [if_neg (by decide +kernel)]; exact ⟨rfl, rfl⟩))
    (fun os started H enc _ => lifted os started H enc)

theorem proved : Rows.FnExactFormatRelCardSaid :=
  Claim7.holds_tied_plain_at .later [] [.data, .data, .data] true (true, "b3c79b555e40f8c38fcabaf181c69505ac1baa10c30cdb9882d47fc87dc10240") false
    over (fun _ h => by cases h) (by kernel_rfl) (fun _ h => by cases h) fnExactFormatRel_row_tie rfl ⟨rfl, rfl⟩ (by kernel_rfl) rfl
    (fun f fn hf hfn => by
      obtain rfl : f = 5 := Option.some.inj ((show Tryd.prog.funcNamed "loop.example/weakmemory/laws.FnExactFormatRel" = some 5 by kernel_rfl).symm.trans hf) |>.symm
      obtain rfl : fn = Tryd.f5 := (Option.some.inj (Tryd.func5.symm.trans hfn)).symm
      exact ⟨by kernel_rfl, fun j t ht => by
        rw [Tryd.params5] at ht
        have hm : t ∈ [34] := by simpa using Array.mem_of_getElem? ht
        have hall : ([34].all fun u => !Tryd.prog.wantsStandIn u) = true := by kernel_rfl
        exact (show Tryd.prog.wantsStandIn t = false by simpa using List.all_eq_true.1 hall t hm)⟩)
    (by kernel_rfl)
#print axioms proved
end Go.Proofs.YtmeoclkngjboiaaDoor.fnExactFormatRel
