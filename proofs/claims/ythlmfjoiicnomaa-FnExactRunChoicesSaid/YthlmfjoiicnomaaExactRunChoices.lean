/-
  PROVED HERE: laws.FnExactRunChoices returns true for every input, and each argument reads behind the call as it read before. CONDITIONS: none.
-/
import Derived.Test.YthlmfjoiicnomaaOpn
import Derived.Test.YthlmfjoiicnomaaPrgC
import Derived.Test.YthlmfjoiicnomaaInts
import Derived.Test.YthlmfjoiicnomaaVg
import Derived.Test.YthlmfjoiicnomaaWw
import Derived.ShutString
import Derived.ChangeOld
namespace Go.Proofs.Ythlmfjoiicnomaa.fnExactRunChoices
open Go.ChangeShapes Go.WideShapes Go.ChangeAt Go.RowKit
open Go.ChangeMaps (open_string shut_string)
set_option linter.unusedVariables false
open Go.Proofs.Ythlmfjoiicnomaa
theorem own : ownKnob Try.prog.godebug = none := by kernel_rfl
theorem laidOut : laidOutB Try.prog = true := by kernel_rfl

theorem walkBig1 (w : World) (a0 : Option Addr) (cap0 : Nat) (X0 : Prg) (a1 : Option Addr) (cap1 : Nat) (X1 : List Int) (h0 : RdP w a0 X0) (h1 : Rd w a1 (ints X1)) (bd0 : BdP X0)  (hbig : 1048576 < X1.length) :
    Calls Try.prog 6 #[.slice a0 X0.length cap0, .slice a1 X1.length cap1] w fun e w' => e = .returned (.bool true) ∧ Below w.heap.size w w' := by
  have g : (1048576 : Int) < X1.length := by omega
  go_enter Try.func6, Try.ntmps6
  go_wp2
  go_ret
  exact ⟨rfl, Below.refl _ _⟩

theorem walkBig0 (w : World) (a0 : Option Addr) (cap0 : Nat) (X0 : Prg) (a1 : Option Addr) (cap1 : Nat) (X1 : List Int) (h0 : RdP w a0 X0) (h1 : Rd w a1 (ints X1)) (bd0 : BdP X0) (l1 : X1.length ≤ 1048576) (hbig : 1048576 < sizeP X0) :
    Calls Try.prog 6 #[.slice a0 X0.length cap0, .slice a1 X1.length cap1] w fun e w' => e = .returned (.bool true) ∧ Below w.heap.size w w' := by
  have d1 : decide ((1048576 : Int) < X1.length) = false := by simp; omega
  have z0 := hid (show szRes ((1048576 : Int)) (sizeP X0) = -1 by simp [szRes]; omega)
  go_enter Try.func6, Try.ntmps6
  go_wp2_with fail
  refine (szSS_c _ _ _ X0 _ h0 bd0 (by omega) (by omega)).mono ?_
  rintro e w' ⟨rfl, rfl⟩
  rw [z0.out]
  go_wp2
  go_ret
  exact ⟨rfl, Below.refl _ _⟩

set_option maxHeartbeats 3200000 in
theorem walkSmall (w : World) (a0 : Option Addr) (cap0 : Nat) (X0 : Prg) (a1 : Option Addr) (cap1 : Nat) (X1 : List Int) (h0 : RdP w a0 X0) (h1 : Rd w a1 (ints X1)) (bd0 : BdP X0) (l1 : X1.length ≤ 1048576) (lp : sizeP X0 ≤ 1048576) (wf1 : ∀ n ∈ X1, (Lit.int .i64 n).wf = true) :
    Calls Try.prog 6 #[.slice a0 X0.length cap0, .slice a1 X1.length cap1] w fun e w' => e = .returned (.bool true) ∧ Below w.heap.size w w' := by
  have l0 : sizeP X0 ≤ 1048576 := by omega
  have CS := hid (fun (w : World) (a0 : Option Addr) (cap0 : Nat) (a1 : Option Addr) (cap1 : Nat) h0 h1 => rcS_c w a0 cap0 X0 a1 cap1 X1 h0 h1 l0 l1 (wf_i64 wf1))
  have CI := hid (fun (w : World) (a0 : Option Addr) (cap0 : Nat) (a1 : Option Addr) (cap1 : Nat) h0 h1 => rcI_c w a0 cap0 X0 a1 cap1 X1 h0 h1 l0 l1)
  obtain ⟨v0, hv0⟩ : ∃ v, v = (runCho X0 X1).1 := ⟨_, rfl⟩
  have lz : v0.length ≤ 1048576 := by rw [hv0]; exact runCho_len X0 X1
  obtain ⟨v1, hv1⟩ : ∃ v, v = (runCho X0 X1).2 := ⟨_, rfl⟩
  unfold RetLB at CS CI
  rw [← hv0] at CS CI
  rw [← hv1] at CS CI
  clear hv0 hv1
  have d1 : decide ((1048576 : Int) < X1.length) = false := by simp; omega
  have z0 := hid (show szRes ((1048576 : Int)) (sizeP X0) = (1048576 : Int) - (sizeP X0 : Nat) by simp [szRes]; omega)
  go_enter Try.func6, Try.ntmps6
  go_wp2_with fail
  refine (szSS_c _ _ _ X0 _ h0 bd0 (by omega) (by omega)).mono ?_
  rintro e w' ⟨rfl, rfl⟩
  rw [z0.out]
  go_wp2_with fail
  refine (toInstrSS_c _ _ _ X0 h0 l0).mono ?_
  rintro e w1 ⟨t0, ct0, rfl, ot0, b1⟩
  have B1 : Below w.heap.size w w1 := b1
  have s1 := b1.size
  go_wp2_with fail
  refine (toIntS_c _ _ _ X1 (h1.below B1) l1).mono ?_
  rintro e w2 ⟨t1, ct1, rfl, ot1, b2⟩
  have B2 : Below w.heap.size w w2 := B1.trans (b2.mono B1.size)
  have s2 := b2.size
  replace ot0 := OwP.below ot0 b2
  have Lt1 := own_blk ot1
  go_wp2_with fail
  refine (CS.out _ _ _ _ _ (OwP.rd ot0) (Rd.own ot1)).mono ?_
  rintro e w3 ⟨ws, cws, rfl, ows, b3⟩
  have B3 : Below w.heap.size w w3 := B2.trans (b3.mono B2.size)
  have s3 := b3.size
  replace ot0 := OwP.below ot0 b3
  replace ot1 := own_below ot1 b3
  have Lws := own_blk ows
  clear ot0
  clear ot1 Lt1
  go_wp2_with fail
  refine (toInstrSS_c _ _ _ X0 (h0.below B3) l0).mono ?_
  rintro e w4 ⟨x0, cx0, rfl, ox0, b4⟩
  have B4 : Below w.heap.size w w4 := B3.trans (b4.mono B3.size)
  have s4 := b4.size
  replace ows := own_below ows b4
  go_wp2_with fail
  refine (toIntS_c _ _ _ X1 (h1.below B4) l1).mono ?_
  rintro e w5 ⟨x1, cx1, rfl, ox1, b5⟩
  have B5 : Below w.heap.size w w5 := B4.trans (b5.mono B4.size)
  have s5 := b5.size
  replace ows := own_below ows b5
  replace ox0 := OwP.below ox0 b5
  have Lx1 := own_blk ox1
  go_wp2_with fail
  refine (CI.out _ _ _ _ _ (OwP.rd ox0) (Rd.own ox1)).mono ?_
  rintro e w6 ⟨g, cg, rfl, og, b6⟩
  have B6 : Below w.heap.size w w6 := B5.trans (b6.mono B5.size)
  have s6 := b6.size
  replace ows := own_below ows b6
  replace ox0 := OwP.below ox0 b6
  replace ox1 := own_below ox1 b6
  have Lg := own_blk og
  go_wp2_with fail
  refine (eqSame_c _ _ _ _ _ v0 (Rd.own og) (Rd.own ows) lz).mono ?_
  rintro e w7 ⟨rfl, b7⟩
  have B7 : Below w.heap.size w w7 := B6.trans (b7.mono B6.size)
  have s7 := b7.size
  replace ows := own_below ows b7
  replace ox0 := OwP.below ox0 b7
  replace ox1 := own_below ox1 b7
  replace og := own_below og b7
  go_wp2_with fail
  refine (toInstrSS_c _ _ _ X0 (h0.below B7) l0).mono ?_
  rintro e w8 ⟨y0, cy0, rfl, oy0, b8⟩
  have B8 : Below w.heap.size w w8 := B7.trans (b8.mono B7.size)
  have s8 := b8.size
  replace ows := own_below ows b8
  replace ox0 := OwP.below ox0 b8
  replace ox1 := own_below ox1 b8
  replace og := own_below og b8
  go_wp2_with fail
  refine (eqSameSS_c _ _ _ _ _ X0 (OwP.rd ox0) (OwP.rd oy0) l0).mono ?_
  rintro e w9 ⟨rfl, b9⟩
  have B9 : Below w.heap.size w w9 := B8.trans (b9.mono B8.size)
  have s9 := b9.size
  replace ows := own_below ows b9
  replace ox0 := OwP.below ox0 b9
  replace ox1 := own_below ox1 b9
  replace og := own_below og b9
  replace oy0 := OwP.below oy0 b9
  clear oy0
  go_wp2_with fail
  refine (toIntS_c _ _ _ X1 (h1.below B9) l1).mono ?_
  rintro e w10 ⟨y1, cy1, rfl, oy1, b10⟩
  have B10 : Below w.heap.size w w10 := B9.trans (b10.mono B9.size)
  have s10 := b10.size
  replace ows := own_below ows b10
  replace ox0 := OwP.below ox0 b10
  replace ox1 := own_below ox1 b10
  replace og := own_below og b10
  have Ly1 := own_blk oy1
  go_wp2_with fail
  refine (eqSame_c _ _ _ _ _ X1 (Rd.own ox1) (Rd.own oy1) l1).mono ?_
  rintro e w11 ⟨rfl, b11⟩
  have B11 : Below w.heap.size w w11 := B10.trans (b11.mono B10.size)
  have s11 := b11.size
  replace ows := own_below ows b11
  replace ox0 := OwP.below ox0 b11
  replace ox1 := own_below ox1 b11
  replace og := own_below og b11
  replace oy1 := own_below oy1 b11
  clear oy1 Ly1
  go_wp2_with fail
  refine (markInstrSS_c _ _ _ _ _ X0 _ ox0 l0 (by omega) (by omega)).mono ?_
  rintro e w12 ⟨rfl, omx0, kp12⟩
  replace ows := own_keeps ows kp12 (fun b hb e => by have h1 := Lws b hb; have h3 := e.1; have h4 := e.2; omega)
  replace ox1 := own_keeps ox1 kp12 (fun b hb e => by have h1 := Lx1 b hb; have h3 := e.1; have h4 := e.2; omega)
  replace og := own_keeps og kp12 (fun b hb e => by have h1 := Lg b hb; have h3 := e.1; have h4 := e.2; omega)
  have B12 : Below w.heap.size w w12 := Below.keeps B11 kp12 B11.size (fun b e => by have h3 := e.1; have := B3.size; omega)
  have s12 := kp12.size
  clear ox0
  clear omx0
  have q0 : sumTo X0.length X0 ≤ 1048576 := Nat.le_trans (sumTo_le X0 X0.length) (by have q := l0; unfold sizeP at q; omega)
  go_wp2_with fail
  refine (markIntS_c _ _ _ _ X1 _ ox1 l1 (by omega) (by omega)).mono ?_
  rintro e w13 ⟨rfl, omx1, gr13⟩
  have kp13 : Keeps (fun b => blk x1 = some b) w12 w13 := Keeps.of_grown gr13 fun b h => h
  replace ows := own_keeps ows kp13 (fun b hb e => by have h1 := Lws b hb; have h2 := Lx1 b e; omega)
  replace og := own_keeps og kp13 (fun b hb e => by have h1 := Lg b hb; have h2 := Lx1 b e; omega)
  have B13 : Below w.heap.size w w13 := Below.keeps B12 kp13 B12.size (fun b e => by have h3 := Lx1 b e; have := B4.size; omega)
  have s13 := kp13.size
  clear ox1
  clear omx1
  go_wp2_with fail
  refine (eqSame_c _ _ _ _ _ v0 (Rd.own og) (Rd.own ows) lz).mono ?_
  rintro e w14 ⟨rfl, b14⟩
  have B14 : Below w.heap.size w w14 := B13.trans (b14.mono B13.size)
  have s14 := b14.size
  replace ows := own_below ows b14
  replace og := own_below og b14
  go_wp2_with fail
  refine (markIntS_c _ _ _ _ v0 1 og lz (by omega) (by omega)).mono ?_
  rintro e w15 ⟨rfl, omg, gr15⟩
  have kp15 : Keeps (fun b => blk g = some b) w14 w15 := Keeps.of_grown gr15 fun b h => h
  replace ows := own_keeps ows kp15 (fun b hb e => by have h1 := Lws b hb; have h2 := Lg b e; omega)
  have B15 : Below w.heap.size w w15 := Below.keeps B14 kp15 B14.size (fun b e => by have h3 := Lg b e; have := B5.size; omega)
  have s15 := kp15.size
  clear og
  go_wp2_with fail
  refine (heldIntS_c _ _ _ _ 1 (Rd.own omg) lz (by omega) (by omega)).mono ?_
  rintro e w' ⟨rfl, rfl⟩
  go_wp2_with fail
  refine (toInstrSS_c _ _ _ X0 (h0.below B15) l0).mono ?_
  rintro e w16 ⟨u0, cu0, rfl, ou0, b16⟩
  have B16 : Below w.heap.size w w16 := B15.trans (b16.mono B15.size)
  have s16 := b16.size
  replace ows := own_below ows b16
  replace omg := own_below omg b16
  go_wp2_with fail
  refine (toIntS_c _ _ _ X1 (h1.below B16) l1).mono ?_
  rintro e w17 ⟨u1, cu1, rfl, ou1, b17⟩
  have B17 : Below w.heap.size w w17 := B16.trans (b17.mono B16.size)
  have s17 := b17.size
  replace ows := own_below ows b17
  replace omg := own_below omg b17
  replace ou0 := OwP.below ou0 b17
  have Lu1 := own_blk ou1
  go_wp2_with fail
  refine (CI.out _ _ _ _ _ (OwP.rd ou0) (Rd.own ou1)).mono ?_
  rintro e w18 ⟨h, ch, rfl, oh, b18⟩
  have B18 : Below w.heap.size w w18 := B17.trans (b18.mono B17.size)
  have s18 := b18.size
  replace ows := own_below ows b18
  replace omg := own_below omg b18
  replace ou0 := OwP.below ou0 b18
  replace ou1 := own_below ou1 b18
  have Lh := own_blk oh
  clear ou0
  clear ou1 Lu1
  go_wp2_with fail
  refine (eqSame_c _ _ _ _ _ v0 (Rd.own oh) (Rd.own ows) lz).mono ?_
  rintro e w19 ⟨rfl, b19⟩
  have B19 : Below w.heap.size w w19 := B18.trans (b19.mono B18.size)
  have s19 := b19.size
  replace ows := own_below ows b19
  replace omg := own_below omg b19
  replace oh := own_below oh b19
  go_wp2_with fail
  refine (heldIntS_c _ _ _ _ 1 (Rd.own omg) lz (by omega) (by omega)).mono ?_
  rintro e w' ⟨rfl, rfl⟩
  go_wp2
  go_ret
  exact ⟨rfl, B19⟩

theorem walk (w : World) (a0 : Option Addr) (cap0 : Nat) (X0 : Prg) (h0 : RdP w a0 X0) (bd0 : BdP X0) (a1 : Option Addr) (cap1 : Nat) (X1 : List Int) (h1 : Rd w a1 (ints X1)) (wf1 : ∀ n ∈ X1, (Lit.int .i64 n).wf = true) :
    Calls Try.prog 6 #[.slice a0 X0.length cap0, .slice a1 X1.length cap1] w fun e w' => e = .returned (.bool true) ∧ Below w.heap.size w w' := by
  by_cases g1 : 1048576 < X1.length
  · exact walkBig1 w a0 cap0 X0 a1 cap1 X1 h0 h1 bd0  g1
  by_cases g0 : 1048576 < sizeP X0
  · exact walkBig0 w a0 cap0 X0 a1 cap1 X1 h0 h1 bd0 (by omega) g0
  exact walkSmall w a0 cap0 X0 a1 cap1 X1 h0 h1 bd0 (by omega) (by omega) wf1

set_option maxRecDepth 100000 in
theorem lifted (os : Os) (started : os.Started) (H : Type) (enc : TypeId × Value → H) :
    ReturnsInHanded {} Try.checked os 6 .any (Rows.fnExactRunChoicesSpec.pre6 enc Try.prog Try.f6 Rows.fnExactRunChoicesRow.domain false) (Rows.fnExactRunChoicesSpec.post enc Try.prog Try.f6 false true false false) := by
  refine returnsInHanded_of_change (C := Try.checked) own started (by kernel_rfl) Try.func6
    (ChangeSpec.witness6 (enc := enc) (C := Try.checked) false ⟨#[], #[.slice none 0 0, .slice none 0 0], []⟩ 8 (by kernel_rfl) (by kernel_rfl) (by kernel_rfl) (by kernel_rfl)) ?_
  intro W base args ds gs before hval0 hW hcnd _
  have hval : ∀ (j : Nat) t v, Try.f6.params[j]? = some t → args[j]? = some v → Value.okWide Try.prog W .any base t v := hval0
  have hW' := hW
  obtain ⟨p, q, hA0, hV, rfl, hfz, hnd⟩ := hW
  have hA : DataW.TrodAll enc Try.prog W 0 (fun _ => true) true Try.f6.params.toList args.toList ds p := hA0
  rw [Try.params6] at hA hval
  obtain ⟨v0, vs0, d0, ds0, p0, q0, hargs, rfl, rfl, h0, r0⟩ := trodAll_cons hA
  obtain ⟨v1, vs1, d1, ds1, p1, q1, rfl, rfl, rfl, h1, r1⟩ := trodAll_cons r0
  obtain ⟨rfl, rfl, rfl⟩ := trodAll_nil r1
  obtain rfl : args = #[v0, v1] := by cases args; simp_all
  obtain ⟨rfl, rfl⟩ := trodVars_none hV
  have k0 := h0
  have lt0 : ∀ x ∈ p0, x.block < W.heap.size := by obtain ⟨m, hm⟩ := k0; exact DataW.trod_lt m _ _ _ hm
  obtain ⟨a0, cap0, x0, rfl, rd0, bd0⟩ := open_prog (hval 0 34 v0 rfl rfl) h0
  obtain ⟨a1, len1, cap1, rfl⟩ := okWide_slice Try.underlying24 (hval 1 24 v1 rfl rfl)
  have k1 := h1
  have lt1 : ∀ x ∈ p1, x.block < W.heap.size := by obtain ⟨m, hm⟩ := k1; exact DataW.trod_lt m _ _ _ hm
  obtain ⟨z1, w1⟩ : ∃ zs, IsRow .i64 W a1 len1 cap1 zs := by
    obtain ⟨fuel, hf⟩ := h1
    rcases open_ints Try.underlying24 Try.underlying3 (by kernel_rfl) hf with ⟨hcs, _⟩ | ⟨x, l, c, zs, hcs, _, hl, hm, hz, _, hcell, hwz⟩
    · simp [Value.cells] at hcs
      obtain ⟨rfl, rfl, rfl⟩ := hcs
      exact ⟨[], .inl ⟨rfl, rfl, rfl, rfl⟩⟩
    · simp [Value.cells] at hcs
      obtain ⟨rfl, rfl, rfl⟩ := hcs
      exact ⟨zs, .inr ⟨_, rfl, hl, hm, by simpa using hz, hcell, hwz⟩⟩
  obtain ⟨x1, hx1, rd1, wf1⟩ := w1.rd
  subst hx1
  clear hA0 hval0
  refine (walk W a0 cap0 x0 rd0 bd0 a1 cap1 x1 rd1 wf1).mono fun e W' ⟨he, bel⟩ => ?_
  subst he
  exact ⟨_, rfl, _, _, _, [], _, [], hW', trodAll_mk1 (shut_bool Try.underlying4 _), (trodAll_cons_mk (Below.trod laidOut (by kernel_rfl) (of_decide_eq_true (by kernel_rfl)) k0 bel lt0) (trodAll_cons_mk (Below.trod laidOut (by kernel_rfl) (of_decide_eq_true (by kernel_rfl)) k1 bel lt1) trodAll_mk0)), rfl, bel.frame _, fun h => by cases h⟩

theorem over : Rows.fnExactRunChoicesRow.holds Try.pinned (OpenSpec.ofChange Rows.fnExactRunChoicesSpec) :=
  OpenClaim.holds_of_wide 6 Try.f6 rfl rfl rfl rfl rfl rfl rfl ⟨rfl, rfl, rfl, rfl, rfl⟩ rfl rfl rfl rfl rfl (by kernel_rfl) Try.func6 (by kernel_rfl)
    (of_decide_eq_true (by kernel_rfl)) (by unfold Func.isWrapper; first | (rw [if_pos (by decide +kernel)]; kernel_rfl) | (rw [if_neg (by decide +kernel)]; exact ⟨rfl, rfl⟩))
    (fun os started H enc _ => lifted os started H enc)

theorem proved : Rows.FnExactRunChoicesSaid := over
#print axioms proved
end Go.Proofs.Ythlmfjoiicnomaa.fnExactRunChoices
