/-
  PROVED HERE: laws.FnExactComposeRel returns true for every input (relations or not), and each argument reads behind the call as it read before. CONDITIONS: none.
-/
import Derived.Test.YtomckiglgnidaaaRelH
import Derived.ShutString
import Derived.ChangeOld
namespace Go.Proofs.Ytomckiglgnidaaa.fnExactComposeRel
open Go.ChangeShapes Go.WideShapes Go.ChangeAt Go.RowKit
open Go.ChangeMaps (open_string shut_string)
set_option linter.unusedVariables false
open Go.Proofs.Ytomckiglgnidaaa
theorem own : ownKnob Try.prog.godebug = none := by kernel_rfl
theorem laidOut : laidOutB Try.prog = true := by kernel_rfl

theorem walkBig (w : World) (a0 : Option Addr) (cap0 : Nat) (xs0 : List Int) (a1 : Option Addr) (cap1 : Nat) (xs1 : List Int) (hbig : 1048576 < xs0.length ∨ 1048576 < xs1.length) :
    Calls Try.prog 9 #[.slice a0 xs0.length cap0, .slice a1 xs1.length cap1] w fun e w' => e = .returned (.bool true) ∧ Below w.heap.size w w' := by
  by_cases g0 : (1048576 : Int) < xs0.length
  · go_enter Try.func9, Try.ntmps9
    go_wp2
    go_ret
    exact ⟨rfl, Below.refl _ _⟩
  · have d0 : decide ((1048576 : Int) < xs0.length) = false := by simpa using g0
    have g1 : (1048576 : Int) < xs1.length := by omega
    go_enter Try.func9, Try.ntmps9
    go_wp2
    go_ret
    exact ⟨rfl, Below.refl _ _⟩

set_option maxHeartbeats 1600000 in
theorem walkSmall (w : World) (a0 : Option Addr) (cap0 : Nat) (xs0 : List Int) (a1 : Option Addr) (cap1 : Nat) (xs1 : List Int) (h0 : Rd w a0 (ints xs0)) (h1 : Rd w a1 (ints xs1)) (l0 : xs0.length ≤ 1048576) (l1 : xs1.length ≤ 1048576) :
    Calls Try.prog 9 #[.slice a0 xs0.length cap0, .slice a1 xs1.length cap1] w fun e w' => e = .returned (.bool true) ∧ Below w.heap.size w w' := by
  obtain ⟨zs, hzs⟩ : ∃ zs, zs = lift2 composeN xs0 xs1 := ⟨_, rfl⟩
  have lz : zs.length ≤ 1048576 := by rw [hzs]; exact length_lift2 (fun us vs h => by simp [length_composeN]) _ _
  have CS := hid (fun (w : World) (a0 : Option Addr) (cap0 : Nat) (a1 : Option Addr) (cap1 : Nat) h0 h1 => specCompose_c w a0 a1 cap0 cap1 xs0 xs1 h0 h1 l0 l1)
  have CI := hid (fun (w : World) (a0 : Option Addr) (cap0 : Nat) (a1 : Option Addr) (cap1 : Nat) h0 h1 => implCompose_c w a0 a1 cap0 cap1 xs0 xs1 h0 h1 l0 l1)
  rw [← hzs] at CS CI
  clear hzs
  have d0 : decide ((1048576 : Int) < xs0.length) = false := by simp; omega
  have d1 : decide ((1048576 : Int) < xs1.length) = false := by simp; omega
  go_enter Try.func9, Try.ntmps9
  go_wp2_with fail
  refine (toIntS_c _ _ _ xs0 h0 l0).mono ?_
  rintro e w1 ⟨t0, ct0, rfl, ot0, b1⟩
  have B1 : Below w.heap.size w w1 := b1
  go_wp2_with fail
  refine (toIntS_c _ _ _ xs1 (h1.below B1) l1).mono ?_
  rintro e w2 ⟨t1, ct1, rfl, ot1, b2⟩
  have B2 : Below w.heap.size w w2 := B1.trans (b2.mono B1.size)
  replace ot0 := own_below ot0 b2
  go_wp2_with fail
  refine (CS.out _ _ _ _ _ (Rd.own ot0) (Rd.own ot1)).mono ?_
  rintro e w3 ⟨wv, cw, rfl, ow, b3⟩
  have B3 : Below w.heap.size w w3 := B2.trans (b3.mono B2.size)
  clear ot0 ot1
  have Lw := own_blk ow
  go_wp2_with fail
  refine (toIntS_c _ _ _ xs0 (h0.below B3) l0).mono ?_
  rintro e w4 ⟨x0, cx0, rfl, ox0, b4⟩
  have B4 : Below w.heap.size w w4 := B3.trans (b4.mono B3.size)
  have s4 := b4.size
  replace ow := own_below ow b4
  have Lx0 := own_blk ox0
  go_wp2_with fail
  refine (toIntS_c _ _ _ xs1 (h1.below B4) l1).mono ?_
  rintro e w5 ⟨x1, cx1, rfl, ox1, b5⟩
  have B5 : Below w.heap.size w w5 := B4.trans (b5.mono B4.size)
  have s5 := b5.size
  replace ow := own_below ow b5
  replace ox0 := own_below ox0 b5
  have Lx1 := own_blk ox1
  go_wp2_with fail
  refine (CI.out _ _ _ _ _ (Rd.own ox0) (Rd.own ox1)).mono ?_
  rintro e w6 ⟨gv, cg, rfl, og, b6⟩
  have B6 : Below w.heap.size w w6 := B5.trans (b6.mono B5.size)
  have s6 := b6.size
  replace ow := own_below ow b6
  replace ox0 := own_below ox0 b6
  replace ox1 := own_below ox1 b6
  have Lg := own_blk og
  go_wp2_with fail
  refine (eqSame_c _ _ _ _ _ zs (Rd.own og) (Rd.own ow) lz).mono ?_
  rintro e w7 ⟨rfl, b7⟩
  have B7 : Below w.heap.size w w7 := B6.trans (b7.mono B6.size)
  have s7 := b7.size
  replace ow := own_below ow b7
  replace ox0 := own_below ox0 b7
  replace ox1 := own_below ox1 b7
  replace og := own_below og b7
  go_wp2_with fail
  refine (toIntS_c _ _ _ xs0 (h0.below B7) l0).mono ?_
  rintro e w8 ⟨y0, cy0, rfl, oy0, b8⟩
  have B8 : Below w.heap.size w w8 := B7.trans (b8.mono B7.size)
  have s8 := b8.size
  replace ow := own_below ow b8
  replace ox0 := own_below ox0 b8
  replace ox1 := own_below ox1 b8
  replace og := own_below og b8
  go_wp2_with fail
  refine (eqSame_c _ _ _ _ _ xs0 (Rd.own ox0) (Rd.own oy0) l0).mono ?_
  rintro e w9 ⟨rfl, b9⟩
  have B9 : Below w.heap.size w w9 := B8.trans (b9.mono B8.size)
  have s9 := b9.size
  replace ow := own_below ow b9
  replace ox0 := own_below ox0 b9
  replace ox1 := own_below ox1 b9
  replace og := own_below og b9
  replace oy0 := own_below oy0 b9
  clear oy0
  go_wp2_with fail
  refine (toIntS_c _ _ _ xs1 (h1.below B9) l1).mono ?_
  rintro e w10 ⟨y1, cy1, rfl, oy1, b10⟩
  have B10 : Below w.heap.size w w10 := B9.trans (b10.mono B9.size)
  have s10 := b10.size
  replace ow := own_below ow b10
  replace ox0 := own_below ox0 b10
  replace ox1 := own_below ox1 b10
  replace og := own_below og b10
  go_wp2_with fail
  refine (eqSame_c _ _ _ _ _ xs1 (Rd.own ox1) (Rd.own oy1) l1).mono ?_
  rintro e w11 ⟨rfl, b11⟩
  have B11 : Below w.heap.size w w11 := B10.trans (b11.mono B10.size)
  have s11 := b11.size
  replace ow := own_below ow b11
  replace ox0 := own_below ox0 b11
  replace ox1 := own_below ox1 b11
  replace og := own_below og b11
  replace oy1 := own_below oy1 b11
  clear oy1
  go_wp2_with fail
  refine (markIntS_c _ _ _ _ xs0 1 ox0 l0 (by omega) (by omega)).mono ?_
  rintro e w12 ⟨rfl, omx0, g12⟩
  replace ow := own_kept ow g12 (fun b hb e => by have h1 := Lw b hb; have h2 := Lx0 b e.symm; omega)
  replace og := own_kept og g12 (fun b hb e => by have h1 := Lg b hb; have h2 := Lx0 b e.symm; omega)
  replace ox1 := own_kept ox1 g12 (fun b hb e => by have h1 := Lx1 b hb; have h2 := Lx0 b e.symm; omega)
  have B12 : Below w.heap.size w w12 := B11.grown g12 B11.size (fun b hb => by have h2 := Lx0 b hb; have := B3.size; omega)
  have s12 := g12.size
  clear ox0
  go_wp2_with fail
  refine (markIntS_c _ _ _ _ xs1 (1 + xs0.length) ox1 l1 (by omega) (by omega)).mono ?_
  rintro e w13 ⟨rfl, omx1, g13⟩
  replace ow := own_kept ow g13 (fun b hb e => by have h1 := Lw b hb; have h2 := Lx1 b e.symm; omega)
  replace og := own_kept og g13 (fun b hb e => by have h1 := Lg b hb; have h2 := Lx1 b e.symm; omega)
  have B13 : Below w.heap.size w w13 := B12.grown g13 B12.size (fun b hb => by have h2 := Lx1 b hb; have := B3.size; omega)
  have s13 := g13.size
  clear ox1
  clear omx0 Lx0 omx1 Lx1
  go_wp2_with fail
  refine (eqSame_c _ _ _ _ _ zs (Rd.own og) (Rd.own ow) lz).mono ?_
  rintro e w14 ⟨rfl, b14⟩
  have B14 : Below w.heap.size w w14 := B13.trans (b14.mono B13.size)
  have s14 := b14.size
  replace ow := own_below ow b14
  replace og := own_below og b14
  go_wp2_with fail
  refine (markIntS_c _ _ _ _ zs 1 og lz (by omega) (by omega)).mono ?_
  rintro e w15 ⟨rfl, omg, g15⟩
  replace ow := own_kept ow g15 (fun b hb e => by have h1 := Lw b hb; have h2 := Lg b e.symm; omega)
  have B15 : Below w.heap.size w w15 := B14.grown g15 B14.size (fun b hb => by have h2 := Lg b hb; have := B3.size; omega)
  have s15 := g15.size
  clear og
  go_wp2_with fail
  refine (heldIntS_c _ _ _ _ 1 (Rd.own omg) lz (by omega) (by omega)).mono ?_
  rintro e w' ⟨rfl, rfl⟩
  go_wp2_with fail
  refine (toIntS_c _ _ _ xs0 (h0.below B15) l0).mono ?_
  rintro e w16 ⟨u0, cu0, rfl, ou0, b16⟩
  have B16 : Below w.heap.size w w16 := B15.trans (b16.mono B15.size)
  have s16 := b16.size
  replace ow := own_below ow b16
  replace omg := own_below omg b16
  go_wp2_with fail
  refine (toIntS_c _ _ _ xs1 (h1.below B16) l1).mono ?_
  rintro e w17 ⟨u1, cu1, rfl, ou1, b17⟩
  have B17 : Below w.heap.size w w17 := B16.trans (b17.mono B16.size)
  have s17 := b17.size
  replace ow := own_below ow b17
  replace omg := own_below omg b17
  replace ou0 := own_below ou0 b17
  go_wp2_with fail
  refine (CI.out _ _ _ _ _ (Rd.own ou0) (Rd.own ou1)).mono ?_
  rintro e w18 ⟨hv, ch, rfl, oh, b18⟩
  have B18 : Below w.heap.size w w18 := B17.trans (b18.mono B17.size)
  clear ou0 ou1
  have s18 := b18.size
  replace ow := own_below ow b18
  replace omg := own_below omg b18
  go_wp2_with fail
  refine (eqSame_c _ _ _ _ _ zs (Rd.own oh) (Rd.own ow) lz).mono ?_
  rintro e w19 ⟨rfl, b19⟩
  have B19 : Below w.heap.size w w19 := B18.trans (b19.mono B18.size)
  have s19 := b19.size
  replace ow := own_below ow b19
  replace omg := own_below omg b19
  replace oh := own_below oh b19
  go_wp2_with fail
  refine (heldIntS_c _ _ _ _ 1 (Rd.own omg) lz (by omega) (by omega)).mono ?_
  rintro e w' ⟨rfl, rfl⟩
  go_wp2
  go_ret
  exact ⟨rfl, B19⟩

theorem walk (w : World) (a0 : Option Addr) (cap0 : Nat) (xs0 : List Int) (h0 : Rd w a0 (ints xs0)) (a1 : Option Addr) (cap1 : Nat) (xs1 : List Int) (h1 : Rd w a1 (ints xs1)) :
    Calls Try.prog 9 #[.slice a0 xs0.length cap0, .slice a1 xs1.length cap1] w fun e w' => e = .returned (.bool true) ∧ Below w.heap.size w w' := by
  by_cases hb : 1048576 < xs0.length ∨ 1048576 < xs1.length
  · exact walkBig w a0 cap0 xs0 a1 cap1 xs1 hb
  · exact walkSmall w a0 cap0 xs0 a1 cap1 xs1 h0 h1 (by omega) (by omega)

set_option maxRecDepth 100000 in
theorem lifted (os : Os) (started : os.Started) (H : Type) (enc : TypeId × Value → H) :
    ReturnsInHanded {} Try.checked os 9 .any (Rows.fnExactComposeRelSpec.pre6 enc Try.prog Try.f9 Rows.fnExactComposeRelRow.domain false) (Rows.fnExactComposeRelSpec.post enc Try.prog Try.f9 false true false false) := by
  refine returnsInHanded_of_change (C := Try.checked) own started (by kernel_rfl) Try.func9
    (ChangeSpec.witness6 (enc := enc) (C := Try.checked) false ⟨#[], #[.slice none 0 0, .slice none 0 0], []⟩ 8 (by kernel_rfl) (by kernel_rfl) (by kernel_rfl) (by kernel_rfl)) ?_
  intro W base args ds gs before hval0 hW hcnd _
  have hval : ∀ (j : Nat) t v, Try.f9.params[j]? = some t → args[j]? = some v → Value.okWide Try.prog W .any base t v := hval0
  have hW' := hW
  obtain ⟨p, q, hA0, hV, rfl, hfz, hnd⟩ := hW
  have hA : DataW.TrodAll enc Try.prog W 0 (fun _ => true) true Try.f9.params.toList args.toList ds p := hA0
  rw [Try.params9] at hA hval
  obtain ⟨v0, vs0, d0, ds0, p0, q0, hargs, rfl, rfl, h0, r0⟩ := trodAll_cons hA
  obtain ⟨v1, vs1, d1, ds1, p1, q1, rfl, rfl, rfl, h1, r1⟩ := trodAll_cons r0
  obtain ⟨rfl, rfl, rfl⟩ := trodAll_nil r1
  obtain rfl : args = #[v0, v1] := by cases args; simp_all
  obtain ⟨rfl, rfl⟩ := trodVars_none hV
  obtain ⟨a0, len0, cap0, rfl⟩ := okWide_slice Try.underlying22 (hval 0 22 v0 rfl rfl)
  have k0 := h0
  have lt0 : ∀ x ∈ p0, x.block < W.heap.size := by obtain ⟨m, hm⟩ := k0; exact DataW.trod_lt m _ _ _ hm
  obtain ⟨z0, w0⟩ : ∃ zs, IsRow .i64 W a0 len0 cap0 zs := by
    obtain ⟨fuel, hf⟩ := h0
    rcases open_ints Try.underlying22 Try.underlying3 (by kernel_rfl) hf with ⟨hcs, _⟩ | ⟨x, l, c, zs, hcs, _, hl, hm, hz, _, hcell, hwz⟩
    · simp [Value.cells] at hcs
      obtain ⟨rfl, rfl, rfl⟩ := hcs
      exact ⟨[], .inl ⟨rfl, rfl, rfl, rfl⟩⟩
    · simp [Value.cells] at hcs
      obtain ⟨rfl, rfl, rfl⟩ := hcs
      exact ⟨zs, .inr ⟨_, rfl, hl, hm, by simpa using hz, hcell, hwz⟩⟩
  obtain ⟨x0, hx0, rd0, wf0⟩ := w0.rd
  subst hx0
  obtain ⟨a1, len1, cap1, rfl⟩ := okWide_slice Try.underlying22 (hval 1 22 v1 rfl rfl)
  have k1 := h1
  have lt1 : ∀ x ∈ p1, x.block < W.heap.size := by obtain ⟨m, hm⟩ := k1; exact DataW.trod_lt m _ _ _ hm
  obtain ⟨z1, w1⟩ : ∃ zs, IsRow .i64 W a1 len1 cap1 zs := by
    obtain ⟨fuel, hf⟩ := h1
    rcases open_ints Try.underlying22 Try.underlying3 (by kernel_rfl) hf with ⟨hcs, _⟩ | ⟨x, l, c, zs, hcs, _, hl, hm, hz, _, hcell, hwz⟩
    · simp [Value.cells] at hcs
      obtain ⟨rfl, rfl, rfl⟩ := hcs
      exact ⟨[], .inl ⟨rfl, rfl, rfl, rfl⟩⟩
    · simp [Value.cells] at hcs
      obtain ⟨rfl, rfl, rfl⟩ := hcs
      exact ⟨zs, .inr ⟨_, rfl, hl, hm, by simpa using hz, hcell, hwz⟩⟩
  obtain ⟨x1, hx1, rd1, wf1⟩ := w1.rd
  subst hx1
  clear hA0 hval0
  refine (walk W a0 cap0 x0 rd0 a1 cap1 x1 rd1).mono fun e W' ⟨he, bel⟩ => ?_
  subst he
  exact ⟨_, rfl, _, _, _, [], _, [], hW', trodAll_mk1 (shut_bool Try.underlying4 _), (trodAll_cons_mk (Below.trod laidOut (by kernel_rfl) (of_decide_eq_true (by kernel_rfl)) k0 bel lt0) (trodAll_cons_mk (Below.trod laidOut (by kernel_rfl) (of_decide_eq_true (by kernel_rfl)) k1 bel lt1) trodAll_mk0)), rfl, bel.frame _, fun h => by cases h⟩

theorem over : Rows.fnExactComposeRelRow.holds Try.pinned (OpenSpec.ofChange Rows.fnExactComposeRelSpec) :=
  OpenClaim.holds_of_wide 9 Try.f9 rfl rfl rfl rfl rfl rfl rfl ⟨rfl, rfl, rfl, rfl, rfl⟩ rfl rfl rfl rfl rfl (by kernel_rfl) Try.func9 (by kernel_rfl)
    (of_decide_eq_true (by kernel_rfl)) (by unfold Func.isWrapper; first | (rw [if_pos (by decide +kernel)]; kernel_rfl) | (rw [if_neg (by decide +kernel)]; exact ⟨rfl, rfl⟩))
    (fun os started H enc _ => lifted os started H enc)

theorem proved : Rows.FnExactComposeRelSaid := over
#print axioms proved
end Go.Proofs.Ytomckiglgnidaaa.fnExactComposeRel
