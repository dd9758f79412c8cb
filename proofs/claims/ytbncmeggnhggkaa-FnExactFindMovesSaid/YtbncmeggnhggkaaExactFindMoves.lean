/-
  PROVED HERE: laws.FnExactFindMoves returns true for every input, and each argument reads behind the call as it read before. CONDITIONS: none.
-/
import Derived.Test.YtbncmeggnhggkaaOpn
import Derived.Test.YtbncmeggnhggkaaPrgC
import Derived.Test.YtbncmeggnhggkaaInts
import Derived.Test.YtbncmeggnhggkaaFms
import Derived.Test.YtbncmeggnhggkaaSt4
import Derived.ShutString
import Derived.ChangeOld
namespace Go.Proofs.Ytbncmeggnhggkaa.fnExactFindMoves
open Go.ChangeShapes Go.WideShapes Go.ChangeAt Go.RowKit
open Go.ChangeMaps (open_string shut_string)
set_option linter.unusedVariables false
open Go.Proofs.Ytbncmeggnhggkaa
theorem own : ownKnob Try.prog.godebug = none := by kernel_rfl
theorem laidOut : laidOutB Try.prog = true := by kernel_rfl

theorem walkBig2 (w : World) (a0 : Option Addr) (cap0 : Nat) (X0 : Prg) (X1 : Bool) (a2 : Option Addr) (cap2 : Nat) (X2 : List Int) (h0 : RdP w a0 X0) (h2 : Rd w a2 (ints X2)) (bd0 : BdP X0)  (hbig : 1048576 < X2.length) :
    Calls Try.prog 9 #[.slice a0 X0.length cap0, .bool X1, .slice a2 X2.length cap2] w fun e w' => e = .returned (.bool true) ∧ Below w.heap.size w w' := by
  have g : (1048576 : Int) < X2.length := by omega
  go_enter Try.func9, Try.ntmps9
  go_wp2
  go_ret
  exact ⟨rfl, Below.refl _ _⟩

theorem walkBig0 (w : World) (a0 : Option Addr) (cap0 : Nat) (X0 : Prg) (X1 : Bool) (a2 : Option Addr) (cap2 : Nat) (X2 : List Int) (h0 : RdP w a0 X0) (h2 : Rd w a2 (ints X2)) (bd0 : BdP X0) (l2 : X2.length ≤ 1048576) (hbig : 1048576 < sizeP X0) :
    Calls Try.prog 9 #[.slice a0 X0.length cap0, .bool X1, .slice a2 X2.length cap2] w fun e w' => e = .returned (.bool true) ∧ Below w.heap.size w w' := by
  have d2 : decide ((1048576 : Int) < X2.length) = false := by simp; omega
  have z0 := hid (show szRes ((1048576 : Int)) (sizeP X0) = -1 by simp [szRes]; omega)
  go_enter Try.func9, Try.ntmps9
  go_wp2_with fail
  refine (szSS_c _ _ _ X0 _ h0 bd0 (by omega) (by omega)).mono ?_
  rintro e w' ⟨rfl, rfl⟩
  rw [z0.out]
  go_wp2
  go_ret
  exact ⟨rfl, Below.refl _ _⟩

set_option maxHeartbeats 3200000 in
theorem walkSmall (w : World) (a0 : Option Addr) (cap0 : Nat) (X0 : Prg) (X1 : Bool) (a2 : Option Addr) (cap2 : Nat) (X2 : List Int) (h0 : RdP w a0 X0) (h2 : Rd w a2 (ints X2)) (bd0 : BdP X0) (l2 : X2.length ≤ 1048576) (lp : sizeP X0 ≤ 1048576) :
    Calls Try.prog 9 #[.slice a0 X0.length cap0, .bool X1, .slice a2 X2.length cap2] w fun e w' => e = .returned (.bool true) ∧ Below w.heap.size w w' := by
  have l0 : sizeP X0 ≤ 1048576 := by omega
  have CS := hid (fun (w : World) (a0 : Option Addr) (cap0 : Nat) (a2 : Option Addr) (cap2 : Nat) h0 h2 => fmS_c w a0 cap0 X0 X1 a2 cap2 X2 h0 h2 l0 l2)
  have CI := hid (fun (w : World) (a0 : Option Addr) (cap0 : Nat) (a2 : Option Addr) (cap2 : Nat) h0 h2 => fmI_c w a0 cap0 X0 X1 a2 cap2 X2 h0 h2 l0 l2)
  obtain ⟨v0, hv0⟩ : ∃ v, v = (findMov X0 X1 X2).1 := ⟨_, rfl⟩
  have lz : v0.length ≤ 1048576 := by rw [hv0]; exact findMov_len X0 X1 X2
  obtain ⟨v1, hv1⟩ : ∃ v, v = (findMov X0 X1 X2).2 := ⟨_, rfl⟩
  unfold RetLB at CS CI
  rw [← hv0] at CS CI
  rw [← hv1] at CS CI
  clear hv0 hv1
  have d2 : decide ((1048576 : Int) < X2.length) = false := by simp; omega
  have z0 := hid (show szRes ((1048576 : Int)) (sizeP X0) = (1048576 : Int) - (sizeP X0 : Nat) by simp [szRes]; omega)
  go_enter Try.func9, Try.ntmps9
  go_wp2_with fail
  refine (szSS_c _ _ _ X0 _ h0 bd0 (by omega) (by omega)).mono ?_
  rintro e w' ⟨rfl, rfl⟩
  rw [z0.out]
  go_wp2_with fail
  refine (toInstrSS_c _ _ _ X0 h0 l0).mono ?_
  rintro e w1 ⟨t0, ct0, rfl, ot0, b1⟩
  have B1 : Below w.heap.size w w1 := b1
  have s1 := b1.size
  go_wp2_with fail
  refine (toIntS_c _ _ _ X2 (h2.below B1) l2).mono ?_
  rintro e w2 ⟨t2, ct2, rfl, ot2, b2⟩
  have B2 : Below w.heap.size w w2 := B1.trans (b2.mono B1.size)
  have s2 := b2.size
  replace ot0 := OwP.below ot0 b2
  have Lt2 := own_blk ot2
  go_wp2_with fail
  refine (CS.out _ _ _ _ _ (OwP.rd ot0) (Rd.own ot2)).mono ?_
  rintro e w3 ⟨ws, cws, rfl, ows, b3⟩
  have B3 : Below w.heap.size w w3 := B2.trans (b3.mono B2.size)
  have s3 := b3.size
  replace ot0 := OwP.below ot0 b3
  replace ot2 := own_below ot2 b3
  have Lws := own_blk ows
  clear ot0
  clear ot2 Lt2
  go_wp2_with fail
  refine (toInstrSS_c _ _ _ X0 (h0.below B3) l0).mono ?_
  rintro e w4 ⟨x0, cx0, rfl, ox0, b4⟩
  have B4 : Below w.heap.size w w4 := B3.trans (b4.mono B3.size)
  have s4 := b4.size
  replace ows := own_below ows b4
  go_wp2_with fail
  refine (toIntS_c _ _ _ X2 (h2.below B4) l2).mono ?_
  rintro e w5 ⟨x2, cx2, rfl, ox2, b5⟩
  have B5 : Below w.heap.size w w5 := B4.trans (b5.mono B4.size)
  have s5 := b5.size
  replace ows := own_below ows b5
  replace ox0 := OwP.below ox0 b5
  have Lx2 := own_blk ox2
  go_wp2_with fail
  refine (CI.out _ _ _ _ _ (OwP.rd ox0) (Rd.own ox2)).mono ?_
  rintro e w6 ⟨g, cg, rfl, og, b6⟩
  have B6 : Below w.heap.size w w6 := B5.trans (b6.mono B5.size)
  have s6 := b6.size
  replace ows := own_below ows b6
  replace ox0 := OwP.below ox0 b6
  replace ox2 := own_below ox2 b6
  have Lg := own_blk og
  go_wp2_with fail
  refine (eqSame_c _ _ _ _ _ v0 (Rd.own og) (Rd.own ows) lz).mono ?_
  rintro e w7 ⟨rfl, b7⟩
  have B7 : Below w.heap.size w w7 := B6.trans (b7.mono B6.size)
  have s7 := b7.size
  replace ows := own_below ows b7
  replace ox0 := OwP.below ox0 b7
  replace ox2 := own_below ox2 b7
  replace og := own_below og b7
  go_wp2_with fail
  refine (toInstrSS_c _ _ _ X0 (h0.below B7) l0).mono ?_
  rintro e w8 ⟨y0, cy0, rfl, oy0, b8⟩
  have B8 : Below w.heap.size w w8 := B7.trans (b8.mono B7.size)
  have s8 := b8.size
  replace ows := own_below ows b8
  replace ox0 := OwP.below ox0 b8
  replace ox2 := own_below ox2 b8
  replace og := own_below og b8
  go_wp2_with fail
  refine (eqSameSS_c _ _ _ _ _ X0 (OwP.rd ox0) (OwP.rd oy0) l0).mono ?_
  rintro e w9 ⟨rfl, b9⟩
  have B9 : Below w.heap.size w w9 := B8.trans (b9.mono B8.size)
  have s9 := b9.size
  replace ows := own_below ows b9
  replace ox0 := OwP.below ox0 b9
  replace ox2 := own_below ox2 b9
  replace og := own_below og b9
  replace oy0 := OwP.below oy0 b9
  clear oy0
  go_wp2_with fail
  refine (toIntS_c _ _ _ X2 (h2.below B9) l2).mono ?_
  rintro e w10 ⟨y2, cy2, rfl, oy2, b10⟩
  have B10 : Below w.heap.size w w10 := B9.trans (b10.mono B9.size)
  have s10 := b10.size
  replace ows := own_below ows b10
  replace ox0 := OwP.below ox0 b10
  replace ox2 := own_below ox2 b10
  replace og := own_below og b10
  have Ly2 := own_blk oy2
  go_wp2_with fail
  refine (eqSame_c _ _ _ _ _ X2 (Rd.own ox2) (Rd.own oy2) l2).mono ?_
  rintro e w11 ⟨rfl, b11⟩
  have B11 : Below w.heap.size w w11 := B10.trans (b11.mono B10.size)
  have s11 := b11.size
  replace ows := own_below ows b11
  replace ox0 := OwP.below ox0 b11
  replace ox2 := own_below ox2 b11
  replace og := own_below og b11
  replace oy2 := own_below oy2 b11
  clear oy2 Ly2
  go_wp2_with fail
  refine (markInstrSS_c _ _ _ _ _ X0 _ ox0 l0 (by omega) (by omega)).mono ?_
  rintro e w12 ⟨rfl, omx0, kp12⟩
  replace ows := own_keeps ows kp12 (fun b hb e => by have h1 := Lws b hb; have h3 := e.1; have h4 := e.2; omega)
  replace ox2 := own_keeps ox2 kp12 (fun b hb e => by have h1 := Lx2 b hb; have h3 := e.1; have h4 := e.2; omega)
  replace og := own_keeps og kp12 (fun b hb e => by have h1 := Lg b hb; have h3 := e.1; have h4 := e.2; omega)
  have B12 : Below w.heap.size w w12 := Below.keeps B11 kp12 B11.size (fun b e => by have h3 := e.1; have := B3.size; omega)
  have s12 := kp12.size
  clear ox0
  clear omx0
  have q0 : sumTo X0.length X0 ≤ 1048576 := Nat.le_trans (sumTo_le X0 X0.length) (by have q := l0; unfold sizeP at q; omega)
  go_wp2_with fail
  refine (markIntS_c _ _ _ _ X2 _ ox2 l2 (by omega) (by omega)).mono ?_
  rintro e w13 ⟨rfl, omx2, gr13⟩
  have kp13 : Keeps (fun b => blk x2 = some b) w12 w13 := Keeps.of_grown gr13 fun b h => h
  replace ows := own_keeps ows kp13 (fun b hb e => by have h1 := Lws b hb; have h2 := Lx2 b e; omega)
  replace og := own_keeps og kp13 (fun b hb e => by have h1 := Lg b hb; have h2 := Lx2 b e; omega)
  have B13 : Below w.heap.size w w13 := Below.keeps B12 kp13 B12.size (fun b e => by have h3 := Lx2 b e; have := B4.size; omega)
  have s13 := kp13.size
  clear ox2
  clear omx2
  go_wp2_with fail
  refine (eqSame_c _ _ _ _ _ v0 (Rd.own og) (Rd.own ows) lz).mono ?_
  rintro e w14 ⟨rfl, b14⟩
  have B14 : Below w.heap.size w w14 := B13.trans (b14.mono B13.size)
  have s14 := b14.size
  replace ows := own_below ows b14
  replace og := own_below og b14
  go_wp2_with fail
  refine (markIntS_c _ _ _ _ v0 1 og lz (by omega) (by omega)).mono ?_
  rintro e w15 ⟨rfl, omg, gr15⟩
  have kp15 : Keeps (fun b => blk g = some b) w14 w15 := Keeps.of_grown gr15 fun b h => h
  replace ows := own_keeps ows kp15 (fun b hb e => by have h1 := Lws b hb; have h2 := Lg b e; omega)
  have B15 : Below w.heap.size w w15 := Below.keeps B14 kp15 B14.size (fun b e => by have h3 := Lg b e; have := B5.size; omega)
  have s15 := kp15.size
  clear og
  go_wp2_with fail
  refine (heldIntS_c _ _ _ _ 1 (Rd.own omg) lz (by omega) (by omega)).mono ?_
  rintro e w' ⟨rfl, rfl⟩
  go_wp2_with fail
  refine (toInstrSS_c _ _ _ X0 (h0.below B15) l0).mono ?_
  rintro e w16 ⟨u0, cu0, rfl, ou0, b16⟩
  have B16 : Below w.heap.size w w16 := B15.trans (b16.mono B15.size)
  have s16 := b16.size
  replace ows := own_below ows b16
  replace omg := own_below omg b16
  go_wp2_with fail
  refine (toIntS_c _ _ _ X2 (h2.below B16) l2).mono ?_
  rintro e w17 ⟨u2, cu2, rfl, ou2, b17⟩
  have B17 : Below w.heap.size w w17 := B16.trans (b17.mono B16.size)
  have s17 := b17.size
  replace ows := own_below ows b17
  replace omg := own_below omg b17
  replace ou0 := OwP.below ou0 b17
  have Lu2 := own_blk ou2
  go_wp2_with fail
  refine (CI.out _ _ _ _ _ (OwP.rd ou0) (Rd.own ou2)).mono ?_
  rintro e w18 ⟨h, ch, rfl, oh, b18⟩
  have B18 : Below w.heap.size w w18 := B17.trans (b18.mono B17.size)
  have s18 := b18.size
  replace ows := own_below ows b18
  replace omg := own_below omg b18
  replace ou0 := OwP.below ou0 b18
  replace ou2 := own_below ou2 b18
  have Lh := own_blk oh
  clear ou0
  clear ou2 Lu2
  go_wp2_with fail
  refine (eqSame_c _ _ _ _ _ v0 (Rd.own oh) (Rd.own ows) lz).mono ?_
  rintro e w19 ⟨rfl, b19⟩
  have B19 : Below w.heap.size w w19 := B18.trans (b19.mono B18.size)
  have s19 := b19.size
  replace ows := own_below ows b19
  replace omg := own_below omg b19
  replace oh := own_below oh b19
  go_wp2_with fail
  refine (heldIntS_c _ _ _ _ 1 (Rd.own omg) lz (by omega) (by omega)).mono ?_
  rintro e w' ⟨rfl, rfl⟩
  go_wp2
  go_ret
  exact ⟨rfl, B19⟩

theorem walk (w : World) (a0 : Option Addr) (cap0 : Nat) (X0 : Prg) (h0 : RdP w a0 X0) (bd0 : BdP X0) (X1 : Bool) (a2 : Option Addr) (cap2 : Nat) (X2 : List Int) (h2 : Rd w a2 (ints X2)) :
    Calls Try.prog 9 #[.slice a0 X0.length cap0, .bool X1, .slice a2 X2.length cap2] w fun e w' => e = .returned (.bool true) ∧ Below w.heap.size w w' := by
  by_cases g2 : 1048576 < X2.length
  · exact walkBig2 w a0 cap0 X0 X1 a2 cap2 X2 h0 h2 bd0  g2
  by_cases g0 : 1048576 < sizeP X0
  · exact walkBig0 w a0 cap0 X0 X1 a2 cap2 X2 h0 h2 bd0 (by omega) g0
  exact walkSmall w a0 cap0 X0 X1 a2 cap2 X2 h0 h2 bd0 (by omega) (by omega)

set_option maxRecDepth 100000 in
theorem lifted (os : Os) (started : os.Started) (H : Type) (enc : TypeId × Value → H) :
    ReturnsInHanded {} Try.checked os 9 .any (Rows.fnExactFindMovesSpec.pre6 enc Try.prog Try.f9 Rows.fnExactFindMovesRow.domain false) (Rows.fnExactFindMovesSpec.post enc Try.prog Try.f9 false true false false) := by
  refine returnsInHanded_of_change (C := Try.checked) own started (by kernel_rfl) Try.func9
    (ChangeSpec.witness6 (enc := enc) (C := Try.checked) false ⟨#[], #[.slice none 0 0, .bool false, .slice none 0 0], []⟩ 8 (by kernel_rfl) (by kernel_rfl) (by kernel_rfl) (by kernel_rfl)) ?_
  intro W base args ds gs before hval0 hW hcnd _
  have hval : ∀ (j : Nat) t v, Try.f9.params[j]? = some t → args[j]? = some v → Value.okWide Try.prog W .any base t v := hval0
  have hW' := hW
  obtain ⟨p, q, hA0, hV, rfl, hfz, hnd⟩ := hW
  have hA : DataW.TrodAll enc Try.prog W 0 (fun _ => true) true Try.f9.params.toList args.toList ds p := hA0
  rw [Try.params9] at hA hval
  obtain ⟨v0, vs0, d0, ds0, p0, q0, hargs, rfl, rfl, h0, r0⟩ := trodAll_cons hA
  obtain ⟨v1, vs1, d1, ds1, p1, q1, rfl, rfl, rfl, h1, r1⟩ := trodAll_cons r0
  obtain ⟨v2, vs2, d2, ds2, p2, q2, rfl, rfl, rfl, h2, r2⟩ := trodAll_cons r1
  obtain ⟨rfl, rfl, rfl⟩ := trodAll_nil r2
  obtain rfl : args = #[v0, v1, v2] := by cases args; simp_all
  obtain ⟨rfl, rfl⟩ := trodVars_none hV
  have k0 := h0
  have lt0 : ∀ x ∈ p0, x.block < W.heap.size := by obtain ⟨m, hm⟩ := k0; exact DataW.trod_lt m _ _ _ hm
  obtain ⟨a0, cap0, x0, rfl, rd0, bd0⟩ := open_prog (hval 0 22 v0 rfl rfl) h0
  obtain ⟨a1, rfl, rfl, rfl⟩ := open_bool Try.underlying4 (hval 1 4 v1 rfl rfl) h1
  obtain ⟨a2, len2, cap2, rfl⟩ := okWide_slice Try.underlying23 (hval 2 23 v2 rfl rfl)
  have k2 := h2
  have lt2 : ∀ x ∈ p2, x.block < W.heap.size := by obtain ⟨m, hm⟩ := k2; exact DataW.trod_lt m _ _ _ hm
  obtain ⟨z2, w2⟩ : ∃ zs, IsRow .i64 W a2 len2 cap2 zs := by
    obtain ⟨fuel, hf⟩ := h2
    rcases open_ints Try.underlying23 Try.underlying3 (by kernel_rfl) hf with ⟨hcs, _⟩ | ⟨x, l, c, zs, hcs, _, hl, hm, hz, _, hcell, hwz⟩
    · simp [Value.cells] at hcs
      obtain ⟨rfl, rfl, rfl⟩ := hcs
      exact ⟨[], .inl ⟨rfl, rfl, rfl, rfl⟩⟩
    · simp [Value.cells] at hcs
      obtain ⟨rfl, rfl, rfl⟩ := hcs
      exact ⟨zs, .inr ⟨_, rfl, hl, hm, by simpa using hz, hcell, hwz⟩⟩
  obtain ⟨x2, hx2, rd2, wf2⟩ := w2.rd
  subst hx2
  clear hA0 hval0
  refine (walk W a0 cap0 x0 rd0 bd0 a1 a2 cap2 x2 rd2).mono fun e W' ⟨he, bel⟩ => ?_
  subst he
  exact ⟨_, rfl, _, _, _, [], _, [], hW', trodAll_mk1 (shut_bool Try.underlying4 _), (trodAll_cons_mk (Below.trod laidOut (by kernel_rfl) (of_decide_eq_true (by kernel_rfl)) k0 bel lt0) (trodAll_cons_mk (shut_bool Try.underlying4 _) (trodAll_cons_mk (Below.trod laidOut (by kernel_rfl) (of_decide_eq_true (by kernel_rfl)) k2 bel lt2) trodAll_mk0))), rfl, bel.frame _, fun h => by cases h⟩

theorem over : Rows.fnExactFindMovesRow.holds Try.pinned (OpenSpec.ofChange Rows.fnExactFindMovesSpec) :=
  OpenClaim.holds_of_wide 9 Try.f9 rfl rfl rfl rfl rfl rfl rfl ⟨rfl, rfl, rfl, rfl, rfl⟩ rfl rfl rfl rfl rfl (by kernel_rfl) Try.func9 (by kernel_rfl)
    (of_decide_eq_true (by kernel_rfl)) (by unfold Func.isWrapper; first | (rw [if_pos (by decide +kernel)]; kernel_rfl) | (rw [if_neg (by decide +kernel)]; exact ⟨rfl, rfl⟩))
    (fun os started H enc _ => lifted os started H enc)

theorem proved : Rows.FnExactFindMovesSaid := over
#print axioms proved
end Go.Proofs.Ytbncmeggnhggkaa.fnExactFindMoves
