/-
  PROVED HERE: laws.FnExactFindCycle returns true for every input (relations or not), and each argument reads behind the call as it read before. CONDITIONS: none.
-/
import Derived.Test.YtomckiglgnidaaaRelN
import Derived.ShutString
import Derived.ChangeOld
namespace Go.Proofs.Ytomckiglgnidaaa.fnExactFindCycle
open Go.ChangeShapes Go.WideShapes Go.ChangeAt Go.RowKit
open Go.ChangeMaps (open_string shut_string)
set_option linter.unusedVariables false
open Go.Proofs.Ytomckiglgnidaaa
theorem own : ownKnob Try.prog.godebug = none := by kernel_rfl
theorem laidOut : laidOutB Try.prog = true := by kernel_rfl

theorem walkBig (w : World) (a0 : Option Addr) (cap0 : Nat) (xs0 : List Int) (hbig : 1048576 < xs0.length) :
    Calls Try.prog 13 #[.slice a0 xs0.length cap0] w fun e w' => e = .returned (.bool true) ∧ Below w.heap.size w w' := by
  have g : (1048576 : Int) < xs0.length := by omega
  go_enter Try.func13, Try.ntmps13
  go_wp2
  go_ret
  exact ⟨rfl, Below.refl _ _⟩

set_option maxHeartbeats 1600000 in
theorem walkSmall (w : World) (a0 : Option Addr) (cap0 : Nat) (xs0 : List Int) (h0 : Rd w a0 (ints xs0)) (l0 : xs0.length ≤ 1048576) :
    Calls Try.prog 13 #[.slice a0 xs0.length cap0] w fun e w' => e = .returned (.bool true) ∧ Below w.heap.size w w' := by
  obtain ⟨zs, hzs⟩ : ∃ zs, zs = lift1 cycleN xs0 := ⟨_, rfl⟩
  have lz : zs.length ≤ 1048576 := by rw [hzs]; exact length_cycle _
  have CS := hid (fun (w : World) (a0 : Option Addr) (cap0 : Nat) h0 => specFind_c w a0 cap0 xs0 h0 l0)
  have CI := hid (fun (w : World) (a0 : Option Addr) (cap0 : Nat) h0 => implFind_c w a0 cap0 xs0 h0 l0)
  rw [← hzs] at CS CI
  clear hzs
  have d0 : decide ((1048576 : Int) < xs0.length) = false := by simp; omega
  go_enter Try.func13, Try.ntmps13
  go_wp2_with fail
  refine (toIntS_c _ _ _ xs0 h0 l0).mono ?_
  rintro e w1 ⟨t0, ct0, rfl, ot0, b1⟩
  have B1 : Below w.heap.size w w1 := b1
  go_wp2_with fail
  refine (CS.out _ _ _ (Rd.own ot0)).mono ?_
  rintro e w2 ⟨wv, cw, rfl, ow, b2⟩
  have B2 : Below w.heap.size w w2 := B1.trans (b2.mono B1.size)
  clear ot0
  have Lw := own_blk ow
  go_wp2_with fail
  refine (toIntS_c _ _ _ xs0 (h0.below B2) l0).mono ?_
  rintro e w3 ⟨x0, cx0, rfl, ox0, b3⟩
  have B3 : Below w.heap.size w w3 := B2.trans (b3.mono B2.size)
  have s3 := b3.size
  replace ow := own_below ow b3
  have Lx0 := own_blk ox0
  go_wp2_with fail
  refine (CI.out _ _ _ (Rd.own ox0)).mono ?_
  rintro e w4 ⟨gv, cg, rfl, og, b4⟩
  have B4 : Below w.heap.size w w4 := B3.trans (b4.mono B3.size)
  have s4 := b4.size
  replace ow := own_below ow b4
  replace ox0 := own_below ox0 b4
  have Lg := own_blk og
  go_wp2_with fail
  refine (eqSame_c _ _ _ _ _ zs (Rd.own og) (Rd.own ow) lz).mono ?_
  rintro e w5 ⟨rfl, b5⟩
  have B5 : Below w.heap.size w w5 := B4.trans (b5.mono B4.size)
  have s5 := b5.size
  replace ow := own_below ow b5
  replace ox0 := own_below ox0 b5
  replace og := own_below og b5
  go_wp2_with fail
  refine (toIntS_c _ _ _ xs0 (h0.below B5) l0).mono ?_
  rintro e w6 ⟨y0, cy0, rfl, oy0, b6⟩
  have B6 : Below w.heap.size w w6 := B5.trans (b6.mono B5.size)
  have s6 := b6.size
  replace ow := own_below ow b6
  replace ox0 := own_below ox0 b6
  replace og := own_below og b6
  go_wp2_with fail
  refine (eqSame_c _ _ _ _ _ xs0 (Rd.own ox0) (Rd.own oy0) l0).mono ?_
  rintro e w7 ⟨rfl, b7⟩
  have B7 : Below w.heap.size w w7 := B6.trans (b7.mono B6.size)
  have s7 := b7.size
  replace ow := own_below ow b7
  replace ox0 := own_below ox0 b7
  replace og := own_below og b7
  replace oy0 := own_below oy0 b7
  clear oy0
  go_wp2_with fail
  refine (markIntS_c _ _ _ _ xs0 1 ox0 l0 (by omega) (by omega)).mono ?_
  rintro e w8 ⟨rfl, omx0, g8⟩
  replace ow := own_kept ow g8 (fun b hb e => by have h1 := Lw b hb; have h2 := Lx0 b e.symm; omega)
  replace og := own_kept og g8 (fun b hb e => by have h1 := Lg b hb; have h2 := Lx0 b e.symm; omega)
  have B8 : Below w.heap.size w w8 := B7.grown g8 B7.size (fun b hb => by have h2 := Lx0 b hb; have := B2.size; omega)
  have s8 := g8.size
  clear ox0
  clear omx0 Lx0
  go_wp2_with fail
  refine (eqSame_c _ _ _ _ _ zs (Rd.own og) (Rd.own ow) lz).mono ?_
  rintro e w9 ⟨rfl, b9⟩
  have B9 : Below w.heap.size w w9 := B8.trans (b9.mono B8.size)
  have s9 := b9.size
  replace ow := own_below ow b9
  replace og := own_below og b9
  go_wp2_with fail
  refine (markIntS_c _ _ _ _ zs 1 og lz (by omega) (by omega)).mono ?_
  rintro e w10 ⟨rfl, omg, g10⟩
  replace ow := own_kept ow g10 (fun b hb e => by have h1 := Lw b hb; have h2 := Lg b e.symm; omega)
  have B10 : Below w.heap.size w w10 := B9.grown g10 B9.size (fun b hb => by have h2 := Lg b hb; have := B2.size; omega)
  have s10 := g10.size
  clear og
  go_wp2_with fail
  refine (heldIntS_c _ _ _ _ 1 (Rd.own omg) lz (by omega) (by omega)).mono ?_
  rintro e w' ⟨rfl, rfl⟩
  go_wp2_with fail
  refine (toIntS_c _ _ _ xs0 (h0.below B10) l0).mono ?_
  rintro e w11 ⟨u0, cu0, rfl, ou0, b11⟩
  have B11 : Below w.heap.size w w11 := B10.trans (b11.mono B10.size)
  have s11 := b11.size
  replace ow := own_below ow b11
  replace omg := own_below omg b11
  go_wp2_with fail
  refine (CI.out _ _ _ (Rd.own ou0)).mono ?_
  rintro e w12 ⟨hv, ch, rfl, oh, b12⟩
  have B12 : Below w.heap.size w w12 := B11.trans (b12.mono B11.size)
  clear ou0
  have s12 := b12.size
  replace ow := own_below ow b12
  replace omg := own_below omg b12
  go_wp2_with fail
  refine (eqSame_c _ _ _ _ _ zs (Rd.own oh) (Rd.own ow) lz).mono ?_
  rintro e w13 ⟨rfl, b13⟩
  have B13 : Below w.heap.size w w13 := B12.trans (b13.mono B12.size)
  have s13 := b13.size
  replace ow := own_below ow b13
  replace omg := own_below omg b13
  replace oh := own_below oh b13
  go_wp2_with fail
  refine (heldIntS_c _ _ _ _ 1 (Rd.own omg) lz (by omega) (by omega)).mono ?_
  rintro e w' ⟨rfl, rfl⟩
  go_wp2
  go_ret
  exact ⟨rfl, B13⟩

theorem walk (w : World) (a0 : Option Addr) (cap0 : Nat) (xs0 : List Int) (h0 : Rd w a0 (ints xs0)) :
    Calls Try.prog 13 #[.slice a0 xs0.length cap0] w fun e w' => e = .returned (.bool true) ∧ Below w.heap.size w w' := by
  by_cases hb : 1048576 < xs0.length
  · exact walkBig w a0 cap0 xs0 hb
  · exact walkSmall w a0 cap0 xs0 h0 (by omega)

set_option maxRecDepth 100000 in
theorem lifted (os : Os) (started : os.Started) (H : Type) (enc : TypeId × Value → H) :
    ReturnsInHanded {} Try.checked os 13 .any (Rows.fnExactFindCycleSpec.pre6 enc Try.prog Try.f13 Rows.fnExactFindCycleRow.domain false) (Rows.fnExactFindCycleSpec.post enc Try.prog Try.f13 false true false false) := by
  refine returnsInHanded_of_change (C := Try.checked) own started (by kernel_rfl) Try.func13
    (ChangeSpec.witness6 (enc := enc) (C := Try.checked) false ⟨#[], #[.slice none 0 0], []⟩ 8 (by kernel_rfl) (by kernel_rfl) (by kernel_rfl) (by kernel_rfl)) ?_
  intro W base args ds gs before hval0 hW hcnd _
  have hval : ∀ (j : Nat) t v, Try.f13.params[j]? = some t → args[j]? = some v → Value.okWide Try.prog W .any base t v := hval0
  have hW' := hW
  obtain ⟨p, q, hA0, hV, rfl, hfz, hnd⟩ := hW
  have hA : DataW.TrodAll enc Try.prog W 0 (fun _ => true) true Try.f13.params.toList args.toList ds p := hA0
  rw [Try.params13] at hA hval
  obtain ⟨v0, vs0, d0, ds0, p0, q0, hargs, rfl, rfl, h0, r0⟩ := trodAll_cons hA
  obtain ⟨rfl, rfl, rfl⟩ := trodAll_nil r0
  obtain rfl : args = #[v0] := by cases args; simp_all
  obtain ⟨rfl, rfl⟩ := trodVars_none hV
  obtain ⟨a0, len0, cap0, rfl⟩ := okWide_slice Try.underlying22 (hval 0 22 v0 rfl rfl)
  have k0 := h0
  have lt0 : ∀ x ∈ p0, x.block < W.heap.size := by obtain ⟨m, hm⟩ := k0; exact DataW.trod_lt m _ _ _ hm
  obtain ⟨z0, w0⟩ : ∃ zs, IsRow .i64 W a0 len0 cap0 zs := by
    obtain ⟨fuel, hf⟩ := h0
    rcases open_ints Try.underlying22 Try.underlying3 (by kernel_rfl) hf with ⟨hcs, _⟩ | ⟨x, l, c, zs, hcs, _, hl, hm, hz, _, hcell, hwz⟩
    · simp [Value.cells] at hcs
      obtain ⟨rfl, rfl, rfl⟩ := hcs
      exact ⟨[], .inl ⟨rfl, rfl, rfl, rfl⟩⟩
    · simp [Value.cells] at hcs
      obtain ⟨rfl, rfl, rfl⟩ := hcs
      exact ⟨zs, .inr ⟨_, rfl, hl, hm, by simpa using hz, hcell, hwz⟩⟩
  obtain ⟨x0, hx0, rd0, wf0⟩ := w0.rd
  subst hx0
  clear hA0 hval0
  refine (walk W a0 cap0 x0 rd0).mono fun e W' ⟨he, bel⟩ => ?_
  subst he
  exact ⟨_, rfl, _, _, _, [], _, [], hW', trodAll_mk1 (shut_bool Try.underlying4 _), (trodAll_cons_mk (Below.trod laidOut (by kernel_rfl) (of_decide_eq_true (by kernel_rfl)) k0 bel lt0) trodAll_mk0), rfl, bel.frame _, fun h => by cases h⟩

theorem over : Rows.fnExactFindCycleRow.holds Try.pinned (OpenSpec.ofChange Rows.fnExactFindCycleSpec) :=
  OpenClaim.holds_of_wide 13 Try.f13 rfl rfl rfl rfl rfl rfl rfl ⟨rfl, rfl, rfl, rfl, rfl⟩ rfl rfl rfl rfl rfl (by kernel_rfl) Try.func13 (by kernel_rfl)
    (of_decide_eq_true (by kernel_rfl)) (by unfold Func.isWrapper; first | (rw [if_pos (by decide +kernel)]; kernel_rfl) | (rw [if_neg (by decide +kernel)]; exact ⟨rfl, rfl⟩))
    (fun os started H enc _ => lifted os started H enc)

theorem proved : Rows.FnExactFindCycleSaid := over
#print axioms proved
end Go.Proofs.Ytomckiglgnidaaa.fnExactFindCycle
