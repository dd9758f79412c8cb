/-
  PROVED HERE: laws.FnExactParseProgram returns true for every input, and each argument reads behind the call as it read before. CONDITIONS: none.
-/
import Derived.Test.YtmeoclkngjboiaaDoorOpn
import Derived.Test.YtmeoclkngjboiaaDoorPrgH
import Derived.Test.YtmeoclkngjboiaaDoorShp
import Derived.ShutString
import Derived.ProofKit
import Derived.LaidMore
import Derived.Lay
import Derived.Stop.Joined
import Derived.SevenTiedAt
import Derived.Test.YtmeoclkngjboiaaDoorTie
import Derived.Test.YtmeoclkngjboiaaDoorCards
import Derived.ChangeOld
namespace Go.Proofs.YtmeoclkngjboiaaDoor.fnExactParseProgram
open Go.ChangeShapes Go.WideShapes Go.ChangeAt Go.RowKit
open Go.ChangeMaps (open_string shut_string)
set_option linter.unusedVariables false
open Go.Proofs.YtmeoclkngjboiaaDoor
theorem own : ownKnob Tryd.prog.godebug = none := by kernel_rfl
theorem laidOut : laidOutB Tryd.prog = true := by kernel_rfl

theorem walkBig0 (w : World) (X0 : ByteArray)    (hbig : 1048576 < X0.size) :
    Calls Tryd.prog 3 #[.string X0] w fun e w' => e = .returned (.bool true) ∧ Below w.heap.size w w' := by
  have g : (1048576 : Int) < X0.size := by omega
  go_enter Tryd.func3, Tryd.ntmps3
  go_wp2
  go_ret
  exact ⟨rfl, Below.refl _ _⟩

set_option maxHeartbeats 3200000 in
theorem walkSmall (w : World) (X0 : ByteArray) (g : Int) (hg : w.cell? ⟨0, 0, none⟩ = some (.int .i64 g))   (l0 : X0.size ≤ 1048576) :
    Calls Tryd.prog 3 #[.string X0] w fun e w' => e = .returned (.bool true) ∧ Below w.heap.size w w' := by
  have CS := hid (fun (w : World)   => ppS_c w X0  l0)
  have h00 := pos_of_cell hg
  have CI := hid (fun (w' : World) (hb : Below w.heap.size w w') => ppI_x w' X0 g l0 ((hb.cell (p := ⟨0, 0, none⟩) h00).trans hg))
  obtain ⟨v0, hv0⟩ : ∃ v, v = (parRes X0).1 := ⟨_, rfl⟩
  have lz : sizeP v0 ≤ 1048576 := by rw [hv0]; exact par_size X0
  obtain ⟨v1, hv1⟩ : ∃ v, v = (parRes X0).2 := ⟨_, rfl⟩
  unfold RetPB at CS CI
  rw [← hv0] at CS CI
  rw [← hv1] at CS CI
  clear hv0 hv1 hg h00
  have d0 : decide ((1048576 : Int) < X0.size) = false := by simp; omega
  go_enter Tryd.func3, Tryd.ntmps3
  go_wp2_with fail
  refine (CS.out _  ).mono ?_
  rintro e w1 ⟨ws, cws, rfl, ows, b1⟩
  have B1 : Below w.heap.size w w1 := b1
  have s1 := b1.size
  go_wp2_with fail
  refine (CI.out _ B1).mono ?_
  rintro e w2 ⟨g, cg, rfl, og, b2⟩
  have B2 : Below w.heap.size w w2 := B1.trans (b2.mono B1.size)
  have s2 := b2.size
  replace ows := OwP.below ows b2
  go_wp2_with fail
  refine (eqSameSS_c _ _ _ _ _ v0 (OwP.rd og) (OwP.rd ows) lz).mono ?_
  rintro e w3 ⟨rfl, b3⟩
  have B3 : Below w.heap.size w w3 := B2.trans (b3.mono B2.size)
  have s3 := b3.size
  replace ows := OwP.below ows b3
  replace og := OwP.below og b3
  have B4 : Below w.heap.size w w3 := B3
  go_wp2_with fail
  refine (markInstrSS_c _ _ _ _ _ v0 1 og lz (by omega) (by omega)).mono ?_
  rintro e w5 ⟨rfl, omg, kp5⟩
  replace ows := OwP.keeps ows kp5 (fun b h1 h2 e => by have h3 := e.1; have h4 := e.2; omega)
  have B5 : Below w.heap.size w w5 := Below.keeps B4 kp5 B4.size (fun b e => by have h3 := e.1; have := B1.size; omega)
  have s5 := kp5.size
  clear og
  go_wp2_with fail
  refine (heldInstrSS_c _ _ _ v0 1 (OwP.rd omg) lz (by omega) (by omega)).mono ?_
  rintro e w' ⟨rfl, rfl⟩
  go_wp2_with fail
  refine (CI.out _ B5).mono ?_
  rintro e w6 ⟨h, ch, rfl, oh, b6⟩
  have B6 : Below w.heap.size w w6 := B5.trans (b6.mono B5.size)
  have s6 := b6.size
  replace ows := OwP.below ows b6
  replace omg := OwP.below omg b6
  go_wp2_with fail
  refine (eqSameSS_c _ _ _ _ _ v0 (OwP.rd oh) (OwP.rd ows) lz).mono ?_
  rintro e w7 ⟨rfl, b7⟩
  have B7 : Below w.heap.size w w7 := B6.trans (b7.mono B6.size)
  have s7 := b7.size
  replace ows := OwP.below ows b7
  replace omg := OwP.below omg b7
  replace oh := OwP.below oh b7
  go_wp2_with fail
  refine (heldInstrSS_c _ _ _ v0 1 (OwP.rd omg) lz (by omega) (by omega)).mono ?_
  rintro e w' ⟨rfl, rfl⟩
  go_wp2
  go_ret
  exact ⟨rfl, B7⟩

theorem walk (w : World) (X0 : ByteArray) (wf0 : X0.size ≤ maxLen) (g : Int) (hg : w.cell? ⟨0, 0, none⟩ = some (.int .i64 g)) :
    Calls Tryd.prog 3 #[.string X0] w fun e w' => e = .returned (.bool true) ∧ Below w.heap.size w w' := by
  by_cases g0 : 1048576 < X0.size
  · exact walkBig0 w X0    g0
  exact walkSmall w X0 g hg (by omega)

set_option maxRecDepth 100000 in
theorem lifted (os : Os) (started : os.Started) (H : Type) (enc : TypeId × Value → H) :
    ReturnsInHanded {} Tryd.checked os 3 .any (fun w args => (Rows.fnExactParseProgramSpec.pre enc Tryd.prog Tryd.f3 [] false w args ∧ laidMetH Tryd.prog Rows.fnExactParseProgramRow.laid w) ∧ sizedMet enc Tryd.prog Tryd.f3 (OpenSpec.ofChange Rows.fnExactParseProgramSpec) false w args)
      (Rows.fnExactParseProgramSpec.post enc Tryd.prog Tryd.f3 false true false false) := by
  refine ret_and_shaped (C := Tryd.checked) (X := fun w _ => laidMetH Tryd.prog Rows.fnExactParseProgramRow.laid w) (fun _ _ _ hh h => h.of_heap hh) own started (by kernel_rfl) Tryd.func3
    (ChangeSpec.witness_shaped (enc := enc) (C := Tryd.checked) (os := os) (X := fun w _ => laidMetH Tryd.prog Rows.fnExactParseProgramRow.laid w) false (World.laidAll Tryd.prog os Rows.fnExactParseProgramRow.laid) #[.string ByteArray.empty] 8 (World.laidAll_os _ _ _) (World.shaped_of_ZipB (by kernel_rfl) (by kernel_rfl)) (by kernel_rfl) (by kernel_rfl) (by kernel_rfl) (by rw [MakeChecks.laidMetH_plain _ _ _ (by kernel_rfl)]; exact laidMet_laidAll _ (by kernel_rfl) (by kernel_rfl))) ?_
  intro W base args ds gs before hval0 hW hsh
  have hval : ∀ (j : Nat) t v, Tryd.f3.params[j]? = some t → args[j]? = some v → Value.okWide Tryd.prog W .any base t v := hval0
  have hW' := hW
  obtain ⟨p, q, hA0, hV, rfl, hfz, hnd⟩ := hW
  have hA : DataW.TrodAll enc Tryd.prog W 0 (fun _ => true) true Tryd.f3.params.toList args.toList ds p := hA0
  rw [Tryd.params3] at hA hval
  obtain ⟨v0, vs0, d0, ds0, p0, q0, hargs, rfl, rfl, h0, r0⟩ := trodAll_cons hA
  obtain ⟨rfl, rfl, rfl⟩ := trodAll_nil r0
  obtain rfl : args = #[v0] := by cases args; simp_all
  obtain ⟨rfl, rfl⟩ := trodVars_none hV
  obtain ⟨a0, rfl, rfl, rfl, w0⟩ := open_string Tryd.underlying9 (hval 0 9 v0 rfl rfl) h0
  clear hA0 hval0
  obtain ⟨g, hg⟩ := maxLen_cell hsh
  refine (walk W a0 w0 g hg).mono fun e W' ⟨he, bel⟩ => ?_
  subst he
  exact ⟨_, rfl, _, _, _, [], _, [], hW', trodAll_mk1 (shut_bool Tryd.underlying4 _), (trodAll_cons_mk (shut_string Tryd.underlying9 w0) trodAll_mk0), rfl, bel.frame _, fun h => by cases h⟩

theorem over : Rows.fnExactParseProgramRow.holds Tryd.pinned (OpenSpec.ofChange Rows.fnExactParseProgramSpec) :=
  OpenClaim.holds_of_wide 3 Tryd.f3 rfl rfl rfl rfl rfl rfl rfl ⟨rfl, rfl, rfl, rfl, rfl⟩ rfl rfl rfl rfl rfl (by kernel_rfl) Tryd.func3 (by kernel_rfl)
    (of_decide_eq_true (by kernel_rfl)) (by unfold Func.isWrapper; first | (rw [if_pos (by decide +kernel)]; kernel_rfl) | (rw [if_neg (by decide +kernel)]; exact ⟨rfl, rfl⟩))
    (fun os started H enc _ => lifted os started H enc)

theorem proved : Rows.FnExactParseProgramCardSaid :=
  Claim7.holds_tied_plain_at .later [] [.data, .pinned] true (true, "b3c79b555e40f8c38fcabaf181c69505ac1baa10c30cdb9882d47fc87dc10240") false
    over (fun _ h => by cases h) (by kernel_rfl) (fun _ h => by cases h) fnExactParseProgram_row_tie rfl ⟨rfl, rfl⟩ (by kernel_rfl) rfl
    (fun f fn hf hfn => by
      obtain rfl : f = 3 := Option.some.inj ((show Tryd.prog.funcNamed "loop.example/weakmemory/laws.FnExactParseProgram" = some 3 by kernel_rfl).symm.trans hf) |>.symm
      obtain rfl : fn = Tryd.f3 := (Option.some.inj (Tryd.func3.symm.trans hfn)).symm
      exact ⟨by kernel_rfl, fun j t ht => by
        rw [Tryd.params3] at ht
        have hm : t ∈ [9] := by simpa using Array.mem_of_getElem? ht
        have hall : ([9].all fun u => !Tryd.prog.wantsStandIn u) = true := by kernel_rfl
        exact (show Tryd.prog.wantsStandIn t = false by simpa using List.all_eq_true.1 hall t hm)⟩)
    (by kernel_rfl)
#print axioms proved
end Go.Proofs.YtmeoclkngjboiaaDoor.fnExactParseProgram
