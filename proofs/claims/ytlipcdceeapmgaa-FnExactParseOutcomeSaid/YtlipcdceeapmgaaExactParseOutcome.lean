/-
  PROVED HERE: laws.FnExactParseOutcome returns true for every input, and each argument reads behind the call as it read before. CONDITIONS: none.
-/
import Derived.Test.YtlipcdceeapmgaaOpn
import Derived.Test.YtlipcdceeapmgaaPrgC
import Derived.Test.YtlipcdceeapmgaaInts
import Derived.Test.YtlipcdceeapmgaaPao
import Derived.ShutString
import Derived.ChangeOld
namespace Go.Proofs.Ytlipcdceeapmgaa.fnExactParseOutcome
open Go.ChangeShapes Go.WideShapes Go.ChangeAt Go.RowKit
open Go.ChangeMaps (open_string shut_string)
set_option linter.unusedVariables false
open Go.Proofs.Ytlipcdceeapmgaa
theorem own : ownKnob Try.prog.godebug = none := by kernel_rfl
theorem laidOut : laidOutB Try.prog = true := by kernel_rfl

theorem walkBig1 (w : World) (a0 : Option Addr) (cap0 : Nat) (X0 : Prg) (X1 : ByteArray) (h0 : RdP w a0 X0) (bd0 : BdP X0)  (hbig : 1048576 < X1.size) :
    Calls Try.prog 13 #[.slice a0 X0.length cap0, .string X1] w fun e w' => e = .returned (.bool true) ∧ Below w.heap.size w w' := by
  have g : (1048576 : Int) < X1.size := by omega
  go_enter Try.func13, Try.ntmps13
  go_wp2
  go_ret
  exact ⟨rfl, Below.refl _ _⟩

theorem walkBig0 (w : World) (a0 : Option Addr) (cap0 : Nat) (X0 : Prg) (X1 : ByteArray) (h0 : RdP w a0 X0) (bd0 : BdP X0) (l1 : X1.size ≤ 1048576) (hbig : 1048576 < sizeP X0) :
    Calls Try.prog 13 #[.slice a0 X0.length cap0, .string X1] w fun e w' => e = .returned (.bool true) ∧ Below w.heap.size w w' := by
  have d1 : decide ((1048576 : Int) < X1.size) = false := by simp; omega
  have z0 := hid (show szRes ((1048576 : Int)) (sizeP X0) = -1 by simp [szRes]; omega)
  go_enter Try.func13, Try.ntmps13
  go_wp2_with fail
  refine (szSS_c _ _ _ X0 _ h0 bd0 (by omega) (by omega)).mono ?_
  rintro e w' ⟨rfl, rfl⟩
  rw [z0.out]
  go_wp2
  go_ret
  exact ⟨rfl, Below.refl _ _⟩

set_option maxHeartbeats 3200000 in
theorem walkSmall (w : World) (a0 : Option Addr) (cap0 : Nat) (X0 : Prg) (X1 : ByteArray) (h0 : RdP w a0 X0) (bd0 : BdP X0) (l1 : X1.size ≤ 1048576) (lp : sizeP X0 ≤ 1048576) :
    Calls Try.prog 13 #[.slice a0 X0.length cap0, .string X1] w fun e w' => e = .returned (.bool true) ∧ Below w.heap.size w w' := by
  have l0 : sizeP X0 ≤ 1048576 := by omega
  have CS := hid (fun (w : World) (a0 : Option Addr) (cap0 : Nat) h0 => poS_c w a0 cap0 X0 X1 h0 l0 l1)
  have CI := hid (fun (w : World) (a0 : Option Addr) (cap0 : Nat) h0 => poI_c w a0 cap0 X0 X1 h0 l0 l1)
  obtain ⟨v0, hv0⟩ : ∃ v, v = (parseOut X0 X1).1 := ⟨_, rfl⟩
  have lz : v0.length ≤ 1048576 := by rw [hv0]; exact parse_len X0 X1
  obtain ⟨v1, hv1⟩ : ∃ v, v = (parseOut X0 X1).2 := ⟨_, rfl⟩
  unfold RetLB at CS CI
  rw [← hv0] at CS CI
  rw [← hv1] at CS CI
  clear hv0 hv1
  have d1 : decide ((1048576 : Int) < X1.size) = false := by simp; omega
  have z0 := hid (show szRes ((1048576 : Int)) (sizeP X0) = (1048576 : Int) - (sizeP X0 : Nat) by simp [szRes]; omega)
  go_enter Try.func13, Try.ntmps13
  go_wp2_with fail
  refine (szSS_c _ _ _ X0 _ h0 bd0 (by omega) (by omega)).mono ?_
  rintro e w' ⟨rfl, rfl⟩
  rw [z0.out]
  go_wp2_with fail
  refine (toInstrSS_c _ _ _ X0 h0 l0).mono ?_
  rintro e w1 ⟨t0, ct0, rfl, ot0, b1⟩
  have B1 : Below w.heap.size w w1 := b1
  have s1 := b1.size
  go_wp2_with fail
  refine (CS.out _ _ _ (OwP.rd ot0)).mono ?_
  rintro e w2 ⟨ws, cws, rfl, ows, b2⟩
  have B2 : Below w.heap.size w w2 := B1.trans (b2.mono B1.size)
  have s2 := b2.size
  replace ot0 := OwP.below ot0 b2
  have Lws := own_blk ows
  clear ot0
  go_wp2_with fail
  refine (toInstrSS_c _ _ _ X0 (h0.below B2) l0).mono ?_
  rintro e w3 ⟨x0, cx0, rfl, ox0, b3⟩
  have B3 : Below w.heap.size w w3 := B2.trans (b3.mono B2.size)
  have s3 := b3.size
  replace ows := own_below ows b3
  go_wp2_with fail
  refine (CI.out _ _ _ (OwP.rd ox0)).mono ?_
  rintro e w4 ⟨g, cg, rfl, og, b4⟩
  have B4 : Below w.heap.size w w4 := B3.trans (b4.mono B3.size)
  have s4 := b4.size
  replace ows := own_below ows b4
  replace ox0 := OwP.below ox0 b4
  have Lg := own_blk og
  go_wp2_with fail
  refine (eqSame_c _ _ _ _ _ v0 (Rd.own og) (Rd.own ows) lz).mono ?_
  rintro e w5 ⟨rfl, b5⟩
  have B5 : Below w.heap.size w w5 := B4.trans (b5.mono B4.size)
  have s5 := b5.size
  replace ows := own_below ows b5
  replace ox0 := OwP.below ox0 b5
  replace og := own_below og b5
  go_wp2_with fail
  refine (toInstrSS_c _ _ _ X0 (h0.below B5) l0).mono ?_
  rintro e w6 ⟨y0, cy0, rfl, oy0, b6⟩
  have B6 : Below w.heap.size w w6 := B5.trans (b6.mono B5.size)
  have s6 := b6.size
  replace ows := own_below ows b6
  replace ox0 := OwP.below ox0 b6
  replace og := own_below og b6
  go_wp2_with fail
  refine (eqSameSS_c _ _ _ _ _ X0 (OwP.rd ox0) (OwP.rd oy0) l0).mono ?_
  rintro e w7 ⟨rfl, b7⟩
  have B7 : Below w.heap.size w w7 := B6.trans (b7.mono B6.size)
  have s7 := b7.size
  replace ows := own_below ows b7
  replace ox0 := OwP.below ox0 b7
  replace og := own_below og b7
  replace oy0 := OwP.below oy0 b7
  clear oy0
  go_wp2_with fail
  refine (markInstrSS_c _ _ _ _ _ X0 _ ox0 l0 (by omega) (by omega)).mono ?_
  rintro e w8 ⟨rfl, omx0, kp8⟩
  replace ows := own_keeps ows kp8 (fun b hb e => by have h1 := Lws b hb; have h3 := e.1; have h4 := e.2; omega)
  replace og := own_keeps og kp8 (fun b hb e => by have h1 := Lg b hb; have h3 := e.1; have h4 := e.2; omega)
  have B8 : Below w.heap.size w w8 := Below.keeps B7 kp8 B7.size (fun b e => by have h3 := e.1; have := B2.size; omega)
  have s8 := kp8.size
  clear ox0
  clear omx0
  go_wp2_with fail
  refine (eqSame_c _ _ _ _ _ v0 (Rd.own og) (Rd.own ows) lz).mono ?_
  rintro e w9 ⟨rfl, b9⟩
  have B9 : Below w.heap.size w w9 := B8.trans (b9.mono B8.size)
  have s9 := b9.size
  replace ows := own_below ows b9
  replace og := own_below og b9
  go_wp2_with fail
  refine (markIntS_c _ _ _ _ v0 1 og lz (by omega) (by omega)).mono ?_
  rintro e w10 ⟨rfl, omg, gr10⟩
  have kp10 : Keeps (fun b => blk g = some b) w9 w10 := Keeps.of_grown gr10 fun b h => h
  replace ows := own_keeps ows kp10 (fun b hb e => by have h1 := Lws b hb; have h2 := Lg b e; omega)
  have B10 : Below w.heap.size w w10 := Below.keeps B9 kp10 B9.size (fun b e => by have h3 := Lg b e; have := B3.size; omega)
  have s10 := kp10.size
  clear og
  go_wp2_with fail
  refine (heldIntS_c _ _ _ _ 1 (Rd.own omg) lz (by omega) (by omega)).mono ?_
  rintro e w' ⟨rfl, rfl⟩
  go_wp2_with fail
  refine (toInstrSS_c _ _ _ X0 (h0.below B10) l0).mono ?_
  rintro e w11 ⟨u0, cu0, rfl, ou0, b11⟩
  have B11 : Below w.heap.size w w11 := B10.trans (b11.mono B10.size)
  have s11 := b11.size
  replace ows := own_below ows b11
  replace omg := own_below omg b11
  go_wp2_with fail
  refine (CI.out _ _ _ (OwP.rd ou0)).mono ?_
  rintro e w12 ⟨h, ch, rfl, oh, b12⟩
  have B12 : Below w.heap.size w w12 := B11.trans (b12.mono B11.size)
  have s12 := b12.size
  replace ows := own_below ows b12
  replace omg := own_below omg b12
  replace ou0 := OwP.below ou0 b12
  have Lh := own_blk oh
  clear ou0
  go_wp2_with fail
  refine (eqSame_c _ _ _ _ _ v0 (Rd.own oh) (Rd.own ows) lz).mono ?_
  rintro e w13 ⟨rfl, b13⟩
  have B13 : Below w.heap.size w w13 := B12.trans (b13.mono B12.size)
  have s13 := b13.size
  replace ows := own_below ows b13
  replace omg := own_below omg b13
  replace oh := own_below oh b13
  go_wp2_with fail
  refine (heldIntS_c _ _ _ _ 1 (Rd.own omg) lz (by omega) (by omega)).mono ?_
  rintro e w' ⟨rfl, rfl⟩
  go_wp2
  go_ret
  exact ⟨rfl, B13⟩

theorem walk (w : World) (a0 : Option Addr) (cap0 : Nat) (X0 : Prg) (h0 : RdP w a0 X0) (bd0 : BdP X0) (X1 : ByteArray) (wf1 : X1.size ≤ maxLen) :
    Calls Try.prog 13 #[.slice a0 X0.length cap0, .string X1] w fun e w' => e = .returned (.bool true) ∧ Below w.heap.size w w' := by
  by_cases g1 : 1048576 < X1.size
  · exact walkBig1 w a0 cap0 X0 X1 h0 bd0  g1
  by_cases g0 : 1048576 < sizeP X0
  · exact walkBig0 w a0 cap0 X0 X1 h0 bd0 (by omega) g0
  exact walkSmall w a0 cap0 X0 X1 h0 bd0 (by omega) (by omega)

set_option maxRecDepth 100000 in
theorem lifted (os : Os) (started : os.Started) (H : Type) (enc : TypeId × Value → H) :
    ReturnsInHanded {} Try.checked os 13 .any (Rows.fnExactParseOutcomeSpec.pre6 enc Try.prog Try.f13 Rows.fnExactParseOutcomeRow.domain false) (Rows.fnExactParseOutcomeSpec.post enc Try.prog Try.f13 false true false false) := by
  refine returnsInHanded_of_change (C := Try.checked) own started (by kernel_rfl) Try.func13
    (ChangeSpec.witness6 (enc := enc) (C := Try.checked) false ⟨#[], #[.slice none 0 0, .string ByteArray.empty], []⟩ 8 (by kernel_rfl) (by kernel_rfl) (by kernel_rfl) (by kernel_rfl)) ?_
  intro W base args ds gs before hval0 hW hcnd _
  have hval : ∀ (j : Nat) t v, Try.f13.params[j]? = some t → args[j]? = some v → Value.okWide Try.prog W .any base t v := hval0
  have hW' := hW
  obtain ⟨p, q, hA0, hV, rfl, hfz, hnd⟩ := hW
  have hA : DataW.TrodAll enc Try.prog W 0 (fun _ => true) true Try.f13.params.toList args.toList ds p := hA0
  rw [Try.params13] at hA hval
  obtain ⟨v0, vs0, d0, ds0, p0, q0, hargs, rfl, rfl, h0, r0⟩ := trodAll_cons hA
  obtain ⟨v1, vs1, d1, ds1, p1, q1, rfl, rfl, rfl, h1, r1⟩ := trodAll_cons r0
  obtain ⟨rfl, rfl, rfl⟩ := trodAll_nil r1
  obtain rfl : args = #[v0, v1] := by cases args; simp_all
  obtain ⟨rfl, rfl⟩ := trodVars_none hV
  have k0 := h0
  have lt0 : ∀ x ∈ p0, x.block < W.heap.size := by obtain ⟨m, hm⟩ := k0; exact DataW.trod_lt m _ _ _ hm
  obtain ⟨a0, cap0, x0, rfl, rd0, bd0⟩ := open_prog (hval 0 29 v0 rfl rfl) h0
  obtain ⟨a1, rfl, rfl, rfl, w1⟩ := open_string Try.underlying9 (hval 1 9 v1 rfl rfl) h1
  clear hA0 hval0
  refine (walk W a0 cap0 x0 rd0 bd0 a1 w1).mono fun e W' ⟨he, bel⟩ => ?_
  subst he
  exact ⟨_, rfl, _, _, _, [], _, [], hW', trodAll_mk1 (shut_bool Try.underlying4 _), (trodAll_cons_mk (Below.trod laidOut (by kernel_rfl) (of_decide_eq_true (by kernel_rfl)) k0 bel lt0) (trodAll_cons_mk (shut_string Try.underlying9 w1) trodAll_mk0)), rfl, bel.frame _, fun h => by cases h⟩

theorem over : Rows.fnExactParseOutcomeRow.holds Try.pinned (OpenSpec.ofChange Rows.fnExactParseOutcomeSpec) :=
  OpenClaim.holds_of_wide 13 Try.f13 rfl rfl rfl rfl rfl rfl rfl ⟨rfl, rfl, rfl, rfl, rfl⟩ rfl rfl rfl rfl rfl (by kernel_rfl) Try.func13 (by kernel_rfl)
    (of_decide_eq_true (by kernel_rfl)) (by unfold Func.isWrapper; first | (rw [if_pos (by decide +kernel)]; kernel_rfl) | (rw [if_neg (by decide +kernel)]; exact ⟨rfl, rfl⟩))
    (fun os started H enc _ => lifted os started H enc)

theorem proved : Rows.FnExactParseOutcomeSaid := over
#print axioms proved
end Go.Proofs.Ytlipcdceeapmgaa.fnExactParseOutcome
