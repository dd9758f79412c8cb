/-
  PROVED HERE: laws.FnComposeRel returns true for every input, and each argument reads behind the call as it read before. CONDITIONS: none.
-/
import Derived.Test.YtdppidhnlbfpmaaWm
import Derived.Test.YtdppidhnlbfpmaaRelH
import Derived.ShutString
import Derived.ChangeOld
namespace Go.Proofs.Ytdppidhnlbfpmaa.fnComposeRel
open Go.ChangeShapes Go.WideShapes Go.ChangeAt Go.RowKit
open Go.ChangeMaps (open_string shut_string)
set_option linter.unusedVariables false
open Go.Proofs.Ytdppidhnlbfpmaa
theorem own : ownKnob Try.prog.godebug = none := by kernel_rfl
theorem laidOut : laidOutB Try.prog = true := by kernel_rfl

theorem walkBig (w : World) (a0 : Option Addr) (cap0 : Nat) (bs0 : List Int) (h0 : Rd w a0 (bytes bs0)) (f0 : ∀ n ∈ bs0, (Lit.int .u8 n).wf = true) (d0 : bs0.length ≤ cap0 ∧ cap0 ≤ 9223372036854775807) (a1 : Option Addr) (cap1 : Nat) (bs1 : List Int) (h1 : Rd w a1 (bytes bs1)) (f1 : ∀ n ∈ bs1, (Lit.int .u8 n).wf = true) (d1 : bs1.length ≤ cap1 ∧ cap1 ≤ 9223372036854775807) (hb : 1048576 < bs0.length ∨ 1048576 < bs1.length) :
    Calls Try.prog 5 #[.slice a0 bs0.length cap0, .slice a1 bs1.length cap1] w fun e w' => e = .returned (.bool true) ∧ Below w.heap.size w w' := by
  clear h0 f0 d0
  clear h1 f1 d1
  by_cases hc : 1048576 < bs0.length
  · have g : (1048576 : Int) < bs0.length := by omega
    clear hb hc
    go_enter Try.func5, Try.ntmps5
    go_wp2
    go_ret
    exact ⟨rfl, Below.refl _ _⟩
  · have g : decide ((1048576 : Int) < bs0.length) = false := by simp; omega
    have g1 : (1048576 : Int) < bs1.length := by omega
    clear hb hc
    go_enter Try.func5, Try.ntmps5
    go_wp2
    go_ret
    exact ⟨rfl, Below.refl _ _⟩

set_option maxHeartbeats 1600000 in
theorem walkSmall (w : World) (a0 : Option Addr) (cap0 : Nat) (bs0 : List Int) (h0 : Rd w a0 (bytes bs0)) (f0 : ∀ n ∈ bs0, (Lit.int .u8 n).wf = true) (d0 : bs0.length ≤ cap0 ∧ cap0 ≤ 9223372036854775807) (a1 : Option Addr) (cap1 : Nat) (bs1 : List Int) (h1 : Rd w a1 (bytes bs1)) (f1 : ∀ n ∈ bs1, (Lit.int .u8 n).wf = true) (d1 : bs1.length ≤ cap1 ∧ cap1 ≤ 9223372036854775807) (s0 : bs0.length ≤ 1048576) (s1 : bs1.length ≤ 1048576) :
    Calls Try.prog 5 #[.slice a0 bs0.length cap0, .slice a1 bs1.length cap1] w fun e w' => e = .returned (.bool true) ∧ Below w.heap.size w w' := by
  have g0 : decide ((1048576 : Int) < bs0.length) = false := by simp; omega
  have g1 : decide ((1048576 : Int) < bs1.length) = false := by simp; omega
  have DA0 : DrawArgs w a0 cap0 bs0 := ⟨h0, byte_wf f0, s0, d0.1, d0.2⟩
  have CD0 := hid (fun (w1 : World) (hb : Below w.heap.size w w1) => drawComposeRel_c w1 a0 cap0 bs0 (DA0.below hb))
  have DA1 : DrawArgs w a1 cap1 bs1 := ⟨h1, byte_wf f1, s1, d1.1, d1.2⟩
  have CD1 := hid (fun (w1 : World) (hb : Below w.heap.size w w1) => drawComposeRel_c w1 a1 cap1 bs1 (DA1.below hb))
  clear h0 f0 d0 s0 DA0 h1 f1 d1 s1 DA1
  have B0 : Below w.heap.size w w := Below.refl _ _
  go_enter Try.func5, Try.ntmps5
  go_wp2_with fail
  refine (CD0.out _ B0).mono ?_
  rintro e w1 ⟨xs, ys, a_x, a_y, c_x, c_y, rfl, o_x, o_y, b1, l_xs, l_ys⟩
  replace o_x := own_up o_x B0.size
  replace o_y := own_up o_y B0.size
  have B1 : Below w.heap.size w w1 := B0.trans (b1.mono B0.size)
  obtain ⟨cs, h_cs⟩ : ∃ z, z = lift2 composeN xs ys := ⟨_, rfl⟩
  have l_cs : cs.length ≤ 1048576 := by rw [h_cs]; exact length_lift2 (fun us vs h => Nat.le_of_eq (length_composeN us vs)) _ _
  replace h_cs := hid h_cs
  have H2_1 := fun (w : World) (a1 a2 : Option Addr) (c1 c2 : Nat) (h1 : Rd w a1 (ints xs)) (h2 : Rd w a2 (ints ys)) => implCompose_c w a1 a2 c1 c2 xs ys h1 h2 (by omega) (by omega)
  rw [← h_cs.out] at H2_1
  replace H2_1 := hid H2_1
  go_wp2_with fail
  refine (H2_1.out _ _ _ _ _ (Rd.own o_x) (Rd.own o_y)).mono ?_
  rintro e w2 ⟨a_c, c_c, rfl, o_c, b2⟩
  replace o_c := own_up o_c B1.size
  replace o_x := own_below o_x b2
  replace o_y := own_below o_y b2
  have B2 : Below w.heap.size w w2 := B1.trans (b2.mono B1.size)
  have H2_2 := fun (w : World) (a1 a2 : Option Addr) (c1 c2 : Nat) (h1 : Rd w a1 (ints xs)) (h2 : Rd w a2 (ints ys)) => specCompose_c w a1 a2 c1 c2 xs ys h1 h2 (by omega) (by omega)
  rw [← h_cs.out] at H2_2
  replace H2_2 := hid H2_2
  go_wp2_with fail
  refine (H2_2.out _ _ _ _ _ (Rd.own o_x) (Rd.own o_y)).mono ?_
  rintro e w3 ⟨a_c2, c_c2, rfl, o_c2, b3⟩
  replace o_c2 := own_up o_c2 B2.size
  replace o_x := own_below o_x b3
  replace o_y := own_below o_y b3
  replace o_c := own_below o_c b3
  have B3 : Below w.heap.size w w3 := B2.trans (b3.mono B2.size)
  have H2_3 := hid (fun (w : World) (a1 a2 : Option Addr) (c1 c2 : Nat) (h1 : Rd w a1 (ints cs)) (h2 : Rd w a2 (ints cs)) => wmSame_c w a1 a2 c1 c2 cs h1 h2 l_cs)
  go_wp2_with fail
  refine (H2_3.out _ _ _ _ _ (Rd.own o_c) (Rd.own o_c2)).mono ?_
  rintro e w4 ⟨rfl, b4⟩
  replace o_x := own_below o_x b4
  replace o_y := own_below o_y b4
  replace o_c := own_below o_c b4
  replace o_c2 := own_below o_c2 b4
  have B4 : Below w.heap.size w w4 := B3.trans (b4.mono B3.size)
  by_cases v1 : relValid xs = true
  · replace v1 := hid v1
    have H4_4 := fun (w : World) (a1 : Option Addr) (c1 : Nat) (h1 : Rd w a1 (ints xs)) => relValidI_c w a1 c1 xs h1 (by omega)
    rw [v1.out] at H4_4
    replace H4_4 := hid H4_4
    go_wp2_with fail
    refine (H4_4.out _ _ _ (Rd.own o_x)).mono ?_
    rintro e w5 ⟨rfl, b5⟩
    replace o_x := own_below o_x b5
    replace o_y := own_below o_y b5
    replace o_c := own_below o_c b5
    have B5 : Below w.heap.size w w5 := B4.trans (b5.mono B4.size)
    by_cases v2 : relValid ys = true
    · replace v2 := hid v2
      have H6_5 := fun (w : World) (a1 : Option Addr) (c1 : Nat) (h1 : Rd w a1 (ints ys)) => relValidI_c w a1 c1 ys h1 (by omega)
      rw [v2.out] at H6_5
      replace H6_5 := hid H6_5
      go_wp2_with fail
      refine (H6_5.out _ _ _ (Rd.own o_y)).mono ?_
      rintro e w6 ⟨rfl, b6⟩
      replace o_x := own_below o_x b6
      replace o_y := own_below o_y b6
      replace o_c := own_below o_c b6
      have B6 : Below w.heap.size w w6 := B5.trans (b6.mono B5.size)
      by_cases v3 : xs.length = ys.length
      · have ev3 : ((xs.length : Int) != ys.length) = false := by simp [v3]
        have iv3 : ((xs.length : Int) == ys.length) = true := by simp [v3]
        replace v3 := hid v3
        go_wp2_with fail
        refine (CD1.out _ B6).mono ?_
        rintro e w7 ⟨zs, ts, a_z, a_t, c_z, c_t, rfl, o_z, o_t, b7, l_zs, l_ts⟩
        replace o_z := own_up o_z B6.size
        replace o_t := own_up o_t B6.size
        replace o_x := own_below o_x b7
        replace o_y := own_below o_y b7
        replace o_c := own_below o_c b7
        have B7 : Below w.heap.size w w7 := B6.trans (b7.mono B6.size)
        have f1 := hid (fit_mk v1.out v2.out v3.out)
        have E := compose_inverse f1.out
        rw [← h_cs.out] at E
        obtain ⟨ls, h_ls⟩ : ∃ z, z = lift1 inverseN cs := ⟨_, rfl⟩
        have l_ls : ls.length ≤ 1048576 := by rw [h_ls]; exact length_lift1 (fun us h => Nat.le_of_eq (length_inverse us)) _
        replace h_ls := hid h_ls
        obtain ⟨ix, h_ix⟩ : ∃ z, z = lift1 inverseN xs := ⟨_, rfl⟩
        have l_ix : ix.length ≤ 1048576 := by rw [h_ix]; exact length_lift1 (fun us h => Nat.le_of_eq (length_inverse us)) _
        replace h_ix := hid h_ix
        obtain ⟨iy, h_iy⟩ : ∃ z, z = lift1 inverseN ys := ⟨_, rfl⟩
        have l_iy : iy.length ≤ 1048576 := by rw [h_iy]; exact length_lift1 (fun us h => Nat.le_of_eq (length_inverse us)) _
        replace h_iy := hid h_iy
        rw [← h_ls.out, ← h_ix.out, ← h_iy.out] at E
        replace E := hid E.symm
        have H8_6 := fun (w : World) (a1 : Option Addr) (c1 : Nat) (h1 : Rd w a1 (ints cs)) => implInverse_c w a1 c1 cs h1 l_cs
        rw [← h_ls.out] at H8_6
        replace H8_6 := hid H8_6
        go_wp2_with fail
        refine (H8_6.out _ _ _ (Rd.own o_c)).mono ?_
        rintro e w8 ⟨a_l, c_l, rfl, o_l, b8⟩
        replace o_l := own_up o_l B7.size
        replace o_x := own_below o_x b8
        replace o_y := own_below o_y b8
        replace o_c := own_below o_c b8
        replace o_z := own_below o_z b8
        replace o_t := own_below o_t b8
        have B8 : Below w.heap.size w w8 := B7.trans (b8.mono B7.size)
        have H8_7 := fun (w : World) (a1 : Option Addr) (c1 : Nat) (h1 : Rd w a1 (ints ys)) => implInverse_c w a1 c1 ys h1 (by omega)
        rw [← h_iy.out] at H8_7
        replace H8_7 := hid H8_7
        go_wp2_with fail
        refine (H8_7.out _ _ _ (Rd.own o_y)).mono ?_
        rintro e w9 ⟨a_iy_, c_iy_, rfl, o_iy_, b9⟩
        replace o_iy_ := own_up o_iy_ B8.size
        replace o_x := own_below o_x b9
        replace o_y := own_below o_y b9
        replace o_c := own_below o_c b9
        replace o_z := own_below o_z b9
        replace o_t := own_below o_t b9
        replace o_l := own_below o_l b9
        have B9 : Below w.heap.size w w9 := B8.trans (b9.mono B8.size)
        have H8_8 := fun (w : World) (a1 : Option Addr) (c1 : Nat) (h1 : Rd w a1 (ints xs)) => implInverse_c w a1 c1 xs h1 (by omega)
        rw [← h_ix.out] at H8_8
        replace H8_8 := hid H8_8
        go_wp2_with fail
        refine (H8_8.out _ _ _ (Rd.own o_x)).mono ?_
        rintro e w10 ⟨a_ix_, c_ix_, rfl, o_ix_, b10⟩
        replace o_ix_ := own_up o_ix_ B9.size
        replace o_x := own_below o_x b10
        replace o_y := own_below o_y b10
        replace o_c := own_below o_c b10
        replace o_z := own_below o_z b10
        replace o_t := own_below o_t b10
        replace o_l := own_below o_l b10
        replace o_iy_ := own_below o_iy_ b10
        have B10 : Below w.heap.size w w10 := B9.trans (b10.mono B9.size)
        have H8_9 := fun (w : World) (a1 a2 : Option Addr) (c1 c2 : Nat) (h1 : Rd w a1 (ints iy)) (h2 : Rd w a2 (ints ix)) => implCompose_c w a1 a2 c1 c2 iy ix h1 h2 l_iy l_ix
        rw [E.out] at H8_9
        replace H8_9 := hid H8_9
        go_wp2_with fail
        refine (H8_9.out _ _ _ _ _ (Rd.own o_iy_) (Rd.own o_ix_)).mono ?_
        rintro e w11 ⟨a_r, c_r, rfl, o_r, b11⟩
        replace o_r := own_up o_r B10.size
        replace o_x := own_below o_x b11
        replace o_y := own_below o_y b11
        replace o_c := own_below o_c b11
        replace o_z := own_below o_z b11
        replace o_t := own_below o_t b11
        replace o_l := own_below o_l b11
        replace o_iy_ := own_below o_iy_ b11
        replace o_ix_ := own_below o_ix_ b11
        have B11 : Below w.heap.size w w11 := B10.trans (b11.mono B10.size)
        have t50 : decide ((50 : Int) < ts.length) = false := by simp; omega
        by_cases v4 : relValid zs = true
        · replace v4 := hid v4
          have H10_10 := fun (w : World) (a1 : Option Addr) (c1 : Nat) (h1 : Rd w a1 (ints zs)) => relValidI_c w a1 c1 zs h1 (by omega)
          rw [v4.out] at H10_10
          replace H10_10 := hid H10_10
          go_wp2_with fail
          refine (H10_10.out _ _ _ (Rd.own o_z)).mono ?_
          rintro e w12 ⟨rfl, b12⟩
          replace o_x := own_below o_x b12
          replace o_y := own_below o_y b12
          replace o_c := own_below o_c b12
          replace o_z := own_below o_z b12
          replace o_t := own_below o_t b12
          replace o_l := own_below o_l b12
          replace o_r := own_below o_r b12
          have B12 : Below w.heap.size w w12 := B11.trans (b12.mono B11.size)
          by_cases v5 : zs.length = xs.length
          · have ev5 : ((zs.length : Int) != xs.length) = false := by simp [v5]
            have iv5 : ((zs.length : Int) == xs.length) = true := by simp [v5]
            replace v5 := hid v5
            have H12_11 := hid (fun (w : World) (a1 a2 : Option Addr) (c1 c2 : Nat) (h1 : Rd w a1 (ints ls)) (h2 : Rd w a2 (ints ls)) => wmSame_c w a1 a2 c1 c2 ls h1 h2 l_ls)
            go_wp2_with fail
            refine (H12_11.out _ _ _ _ _ (Rd.own o_l) (Rd.own o_r)).mono ?_
            rintro e w13 ⟨rfl, b13⟩
            replace o_x := own_below o_x b13
            replace o_y := own_below o_y b13
            replace o_c := own_below o_c b13
            replace o_z := own_below o_z b13
            replace o_t := own_below o_t b13
            replace o_l := own_below o_l b13
            replace o_r := own_below o_r b13
            have B13 : Below w.heap.size w w13 := B12.trans (b13.mono B12.size)
            have f2 := fit_mk v1.out v4.out v5.out.symm
            have E4 := compose_union f1.out f2
            clear f2
            obtain ⟨us, h_us⟩ : ∃ z, z = lift2 unionN xs zs := ⟨_, rfl⟩
            have l_us : us.length ≤ 1048576 := by rw [h_us]; exact length_lift2 (fun us vs h => Nat.le_of_eq (length_union h)) _ _
            replace h_us := hid h_us
            obtain ⟨ds, h_ds⟩ : ∃ z, z = lift2 composeN zs ys := ⟨_, rfl⟩
            have l_ds : ds.length ≤ 1048576 := by rw [h_ds]; exact length_lift2 (fun us vs h => Nat.le_of_eq (length_composeN us vs)) _ _
            replace h_ds := hid h_ds
            rw [← h_us.out, ← h_ds.out, ← h_cs.out] at E4
            obtain ⟨es, h_es⟩ : ∃ z, z = lift2 composeN us ys := ⟨_, rfl⟩
            have l_es : es.length ≤ 1048576 := by rw [h_es]; exact length_lift2 (fun us vs h => Nat.le_of_eq (length_composeN us vs)) _ _
            replace h_es := hid h_es
            rw [← h_es.out] at E4
            replace E4 := hid E4.symm
            have H12_12 := fun (w : World) (a1 a2 : Option Addr) (c1 c2 : Nat) (h1 : Rd w a1 (ints xs)) (h2 : Rd w a2 (ints zs)) => implUnion_c w a1 a2 c1 c2 xs zs h1 h2 (by omega) (by omega)
            rw [← h_us.out] at H12_12
            replace H12_12 := hid H12_12
            go_wp2_with fail
            refine (H12_12.out _ _ _ _ _ (Rd.own o_x) (Rd.own o_z)).mono ?_
            rintro e w14 ⟨a_u, c_u, rfl, o_u, b14⟩
            replace o_u := own_up o_u B13.size
            replace o_x := own_below o_x b14
            replace o_y := own_below o_y b14
            replace o_c := own_below o_c b14
            replace o_z := own_below o_z b14
            replace o_t := own_below o_t b14
            have B14 : Below w.heap.size w w14 := B13.trans (b14.mono B13.size)
            have H12_13 := fun (w : World) (a1 a2 : Option Addr) (c1 c2 : Nat) (h1 : Rd w a1 (ints us)) (h2 : Rd w a2 (ints ys)) => implCompose_c w a1 a2 c1 c2 us ys h1 h2 l_us (by omega)
            rw [← h_es.out] at H12_13
            replace H12_13 := hid H12_13
            go_wp2_with fail
            refine (H12_13.out _ _ _ _ _ (Rd.own o_u) (Rd.own o_y)).mono ?_
            rintro e w15 ⟨a_e1, c_e1, rfl, o_e1, b15⟩
            replace o_e1 := own_up o_e1 B14.size
            replace o_x := own_below o_x b15
            replace o_y := own_below o_y b15
            replace o_c := own_below o_c b15
            replace o_z := own_below o_z b15
            replace o_t := own_below o_t b15
            replace o_u := own_below o_u b15
            have B15 : Below w.heap.size w w15 := B14.trans (b15.mono B14.size)
            have H12_14 := fun (w : World) (a1 a2 : Option Addr) (c1 c2 : Nat) (h1 : Rd w a1 (ints zs)) (h2 : Rd w a2 (ints ys)) => implCompose_c w a1 a2 c1 c2 zs ys h1 h2 (by omega) (by omega)
            rw [← h_ds.out] at H12_14
            replace H12_14 := hid H12_14
            go_wp2_with fail
            refine (H12_14.out _ _ _ _ _ (Rd.own o_z) (Rd.own o_y)).mono ?_
            rintro e w16 ⟨a_d, c_d, rfl, o_d, b16⟩
            replace o_d := own_up o_d B15.size
            replace o_x := own_below o_x b16
            replace o_y := own_below o_y b16
            replace o_c := own_below o_c b16
            replace o_z := own_below o_z b16
            replace o_t := own_below o_t b16
            replace o_u := own_below o_u b16
            replace o_e1 := own_below o_e1 b16
            have B16 : Below w.heap.size w w16 := B15.trans (b16.mono B15.size)
            have H12_15 := fun (w : World) (a1 a2 : Option Addr) (c1 c2 : Nat) (h1 : Rd w a1 (ints cs)) (h2 : Rd w a2 (ints ds)) => implUnion_c w a1 a2 c1 c2 cs ds h1 h2 l_cs l_ds
            rw [E4.out] at H12_15
            replace H12_15 := hid H12_15
            go_wp2_with fail
            refine (H12_15.out _ _ _ _ _ (Rd.own o_c) (Rd.own o_d)).mono ?_
            rintro e w17 ⟨a_e2, c_e2, rfl, o_e2, b17⟩
            replace o_e2 := own_up o_e2 B16.size
            replace o_x := own_below o_x b17
            replace o_y := own_below o_y b17
            replace o_c := own_below o_c b17
            replace o_z := own_below o_z b17
            replace o_t := own_below o_t b17
            replace o_u := own_below o_u b17
            replace o_e1 := own_below o_e1 b17
            replace o_d := own_below o_d b17
            have B17 : Below w.heap.size w w17 := B16.trans (b17.mono B16.size)
            have H12_16 := hid (fun (w : World) (a1 a2 : Option Addr) (c1 c2 : Nat) (h1 : Rd w a1 (ints es)) (h2 : Rd w a2 (ints es)) => wmSame_c w a1 a2 c1 c2 es h1 h2 l_es)
            go_wp2_with fail
            refine (H12_16.out _ _ _ _ _ (Rd.own o_e1) (Rd.own o_e2)).mono ?_
            rintro e w18 ⟨rfl, b18⟩
            replace o_x := own_below o_x b18
            replace o_y := own_below o_y b18
            replace o_c := own_below o_c b18
            replace o_z := own_below o_z b18
            replace o_t := own_below o_t b18
            replace o_u := own_below o_u b18
            replace o_e1 := own_below o_e1 b18
            replace o_d := own_below o_d b18
            replace o_e2 := own_below o_e2 b18
            have B18 : Below w.heap.size w w18 := B17.trans (b18.mono B17.size)
            go_wp2
            go_ret
            exact ⟨rfl, B18⟩
          · have ev5 : ((zs.length : Int) != xs.length) = true := by simp; omega
            have iv5 : ((zs.length : Int) == xs.length) = false := by simp; omega
            replace v5 := hid v5
            have H12_11 := hid (fun (w : World) (a1 a2 : Option Addr) (c1 c2 : Nat) (h1 : Rd w a1 (ints ls)) (h2 : Rd w a2 (ints ls)) => wmSame_c w a1 a2 c1 c2 ls h1 h2 l_ls)
            go_wp2_with fail
            refine (H12_11.out _ _ _ _ _ (Rd.own o_l) (Rd.own o_r)).mono ?_
            rintro e w13 ⟨rfl, b13⟩
            replace o_x := own_below o_x b13
            replace o_y := own_below o_y b13
            replace o_c := own_below o_c b13
            replace o_z := own_below o_z b13
            replace o_t := own_below o_t b13
            replace o_l := own_below o_l b13
            replace o_r := own_below o_r b13
            have B13 : Below w.heap.size w w13 := B12.trans (b13.mono B12.size)
            go_wp2
            go_ret
            exact ⟨rfl, B13⟩
        · replace v4 : relValid zs = false := by simpa using v4
          replace v4 := hid v4
          have H10_10 := fun (w : World) (a1 : Option Addr) (c1 : Nat) (h1 : Rd w a1 (ints zs)) => relValidI_c w a1 c1 zs h1 (by omega)
          rw [v4.out] at H10_10
          replace H10_10 := hid H10_10
          go_wp2_with fail
          refine (H10_10.out _ _ _ (Rd.own o_z)).mono ?_
          rintro e w12 ⟨rfl, b12⟩
          replace o_x := own_below o_x b12
          replace o_y := own_below o_y b12
          replace o_c := own_below o_c b12
          replace o_z := own_below o_z b12
          replace o_t := own_below o_t b12
          replace o_l := own_below o_l b12
          replace o_r := own_below o_r b12
          have B12 : Below w.heap.size w w12 := B11.trans (b12.mono B11.size)
          have H10_11 := hid (fun (w : World) (a1 a2 : Option Addr) (c1 c2 : Nat) (h1 : Rd w a1 (ints ls)) (h2 : Rd w a2 (ints ls)) => wmSame_c w a1 a2 c1 c2 ls h1 h2 l_ls)
          go_wp2_with fail
          refine (H10_11.out _ _ _ _ _ (Rd.own o_l) (Rd.own o_r)).mono ?_
          rintro e w13 ⟨rfl, b13⟩
          replace o_x := own_below o_x b13
          replace o_y := own_below o_y b13
          replace o_c := own_below o_c b13
          replace o_z := own_below o_z b13
          replace o_t := own_below o_t b13
          replace o_l := own_below o_l b13
          replace o_r := own_below o_r b13
          have B13 : Below w.heap.size w w13 := B12.trans (b13.mono B12.size)
          go_wp2
          go_ret
          exact ⟨rfl, B13⟩
      · have ev3 : ((xs.length : Int) != ys.length) = true := by simp; omega
        have iv3 : ((xs.length : Int) == ys.length) = false := by simp; omega
        replace v3 := hid v3
        have z0 : ((cs.length : Int) == 0) = true := by rw [h_cs.out, lift2_no (fit_no3 v3.out)]; rfl
        have H8_6 := fun (w : World) (a1 a2 : Option Addr) (c1 c2 : Nat) (h1 : Rd w a1 (ints xs)) (h2 : Rd w a2 (ints ys)) => specCompose_c w a1 a2 c1 c2 xs ys h1 h2 (by omega) (by omega)
        rw [← h_cs.out] at H8_6
        replace H8_6 := hid H8_6
        go_wp2_with fail
        refine (H8_6.out _ _ _ _ _ (Rd.own o_x) (Rd.own o_y)).mono ?_
        rintro e w7 ⟨a_c3, c_c3, rfl, o_c3, b7⟩
        replace o_c3 := own_up o_c3 B6.size
        replace o_x := own_below o_x b7
        replace o_y := own_below o_y b7
        replace o_c := own_below o_c b7
        have B7 : Below w.heap.size w w7 := B6.trans (b7.mono B6.size)
        have H8_7 := hid (fun (w : World) (a1 a2 : Option Addr) (c1 c2 : Nat) (h1 : Rd w a1 (ints cs)) (h2 : Rd w a2 (ints cs)) => wmSame_c w a1 a2 c1 c2 cs h1 h2 l_cs)
        go_wp2_with fail
        refine (H8_7.out _ _ _ _ _ (Rd.own o_c) (Rd.own o_c3)).mono ?_
        rintro e w8 ⟨rfl, b8⟩
        replace o_x := own_below o_x b8
        replace o_y := own_below o_y b8
        replace o_c := own_below o_c b8
        replace o_c3 := own_below o_c3 b8
        have B8 : Below w.heap.size w w8 := B7.trans (b8.mono B7.size)
        go_wp2
        go_ret
        exact ⟨rfl, B8⟩
    · replace v2 : relValid ys = false := by simpa using v2
      replace v2 := hid v2
      have H6_5 := fun (w : World) (a1 : Option Addr) (c1 : Nat) (h1 : Rd w a1 (ints ys)) => relValidI_c w a1 c1 ys h1 (by omega)
      rw [v2.out] at H6_5
      replace H6_5 := hid H6_5
      go_wp2_with fail
      refine (H6_5.out _ _ _ (Rd.own o_y)).mono ?_
      rintro e w6 ⟨rfl, b6⟩
      replace o_x := own_below o_x b6
      replace o_y := own_below o_y b6
      replace o_c := own_below o_c b6
      have B6 : Below w.heap.size w w6 := B5.trans (b6.mono B5.size)
      have z0 : ((cs.length : Int) == 0) = true := by rw [h_cs.out, lift2_no (fit_no2 v2.out)]; rfl
      have H6_6 := fun (w : World) (a1 a2 : Option Addr) (c1 c2 : Nat) (h1 : Rd w a1 (ints xs)) (h2 : Rd w a2 (ints ys)) => specCompose_c w a1 a2 c1 c2 xs ys h1 h2 (by omega) (by omega)
      rw [← h_cs.out] at H6_6
      replace H6_6 := hid H6_6
      go_wp2_with fail
      refine (H6_6.out _ _ _ _ _ (Rd.own o_x) (Rd.own o_y)).mono ?_
      rintro e w7 ⟨a_c3, c_c3, rfl, o_c3, b7⟩
      replace o_c3 := own_up o_c3 B6.size
      replace o_x := own_below o_x b7
      replace o_y := own_below o_y b7
      replace o_c := own_below o_c b7
      have B7 : Below w.heap.size w w7 := B6.trans (b7.mono B6.size)
      have H6_7 := hid (fun (w : World) (a1 a2 : Option Addr) (c1 c2 : Nat) (h1 : Rd w a1 (ints cs)) (h2 : Rd w a2 (ints cs)) => wmSame_c w a1 a2 c1 c2 cs h1 h2 l_cs)
      go_wp2_with fail
      refine (H6_7.out _ _ _ _ _ (Rd.own o_c) (Rd.own o_c3)).mono ?_
      rintro e w8 ⟨rfl, b8⟩
      replace o_x := own_below o_x b8
      replace o_y := own_below o_y b8
      replace o_c := own_below o_c b8
      replace o_c3 := own_below o_c3 b8
      have B8 : Below w.heap.size w w8 := B7.trans (b8.mono B7.size)
      go_wp2
      go_ret
      exact ⟨rfl, B8⟩
  · replace v1 : relValid xs = false := by simpa using v1
    replace v1 := hid v1
    have H4_4 := fun (w : World) (a1 : Option Addr) (c1 : Nat) (h1 : Rd w a1 (ints xs)) => relValidI_c w a1 c1 xs h1 (by omega)
    rw [v1.out] at H4_4
    replace H4_4 := hid H4_4
    go_wp2_with fail
    refine (H4_4.out _ _ _ (Rd.own o_x)).mono ?_
    rintro e w5 ⟨rfl, b5⟩
    replace o_x := own_below o_x b5
    replace o_y := own_below o_y b5
    replace o_c := own_below o_c b5
    have B5 : Below w.heap.size w w5 := B4.trans (b5.mono B4.size)
    have z0 : ((cs.length : Int) == 0) = true := by rw [h_cs.out, lift2_no (fit_no1 v1.out)]; rfl
    have H4_5 := fun (w : World) (a1 a2 : Option Addr) (c1 c2 : Nat) (h1 : Rd w a1 (ints xs)) (h2 : Rd w a2 (ints ys)) => specCompose_c w a1 a2 c1 c2 xs ys h1 h2 (by omega) (by omega)
    rw [← h_cs.out] at H4_5
    replace H4_5 := hid H4_5
    go_wp2_with fail
    refine (H4_5.out _ _ _ _ _ (Rd.own o_x) (Rd.own o_y)).mono ?_
    rintro e w6 ⟨a_c3, c_c3, rfl, o_c3, b6⟩
    replace o_c3 := own_up o_c3 B5.size
    replace o_x := own_below o_x b6
    replace o_y := own_below o_y b6
    replace o_c := own_below o_c b6
    have B6 : Below w.heap.size w w6 := B5.trans (b6.mono B5.size)
    have H4_6 := hid (fun (w : World) (a1 a2 : Option Addr) (c1 c2 : Nat) (h1 : Rd w a1 (ints cs)) (h2 : Rd w a2 (ints cs)) => wmSame_c w a1 a2 c1 c2 cs h1 h2 l_cs)
    go_wp2_with fail
    refine (H4_6.out _ _ _ _ _ (Rd.own o_c) (Rd.own o_c3)).mono ?_
    rintro e w7 ⟨rfl, b7⟩
    replace o_x := own_below o_x b7
    replace o_y := own_below o_y b7
    replace o_c := own_below o_c b7
    replace o_c3 := own_below o_c3 b7
    have B7 : Below w.heap.size w w7 := B6.trans (b7.mono B6.size)
    go_wp2
    go_ret
    exact ⟨rfl, B7⟩

theorem walk (w : World) (a0 : Option Addr) (cap0 : Nat) (bs0 : List Int) (h0 : Rd w a0 (bytes bs0)) (f0 : ∀ n ∈ bs0, (Lit.int .u8 n).wf = true) (d0 : bs0.length ≤ cap0 ∧ cap0 ≤ 9223372036854775807) (a1 : Option Addr) (cap1 : Nat) (bs1 : List Int) (h1 : Rd w a1 (bytes bs1)) (f1 : ∀ n ∈ bs1, (Lit.int .u8 n).wf = true) (d1 : bs1.length ≤ cap1 ∧ cap1 ≤ 9223372036854775807) :
    Calls Try.prog 5 #[.slice a0 bs0.length cap0, .slice a1 bs1.length cap1] w fun e w' => e = .returned (.bool true) ∧ Below w.heap.size w w' := by
  by_cases hb : 1048576 < bs0.length ∨ 1048576 < bs1.length
  · exact walkBig w a0 cap0 bs0 h0 f0 d0 a1 cap1 bs1 h1 f1 d1 hb
  · exact walkSmall w a0 cap0 bs0 h0 f0 d0 a1 cap1 bs1 h1 f1 d1 (by omega) (by omega)

set_option maxRecDepth 100000 in
theorem lifted (os : Os) (started : os.Started) (H : Type) (enc : TypeId × Value → H) :
    ReturnsInHanded {} Try.checked os 5 .any (Rows.fnComposeRelSpec.pre6 enc Try.prog Try.f5 Rows.fnComposeRelRow.domain false) (Rows.fnComposeRelSpec.post enc Try.prog Try.f5 false true false false) := by
  refine returnsInHanded_of_change (C := Try.checked) own started (by kernel_rfl) Try.func5
    (ChangeSpec.witness6 (enc := enc) (C := Try.checked) false ⟨#[], #[.slice none 0 0, .slice none 0 0], []⟩ 8 (by kernel_rfl) (by kernel_rfl) (by kernel_rfl) (by kernel_rfl)) ?_
  intro W base args ds gs before hval0 hW hcnd _
  have hval : ∀ (j : Nat) t v, Try.f5.params[j]? = some t → args[j]? = some v → Value.okWide Try.prog W .any base t v := hval0
  have hW' := hW
  obtain ⟨p, q, hA0, hV, rfl, hfz, hnd⟩ := hW
  have hA : DataW.TrodAll enc Try.prog W 0 (fun _ => true) true Try.f5.params.toList args.toList ds p := hA0
  rw [Try.params5] at hA hval
  obtain ⟨v0, vs0, d0, ds0, p0, q0, hargs, rfl, rfl, h0, r0⟩ := trodAll_cons hA
  obtain ⟨v1, vs1, d1, ds1, p1, q1, rfl, rfl, rfl, h1, r1⟩ := trodAll_cons r0
  obtain ⟨rfl, rfl, rfl⟩ := trodAll_nil r1
  obtain rfl : args = #[v0, v1] := by cases args; simp_all
  obtain ⟨rfl, rfl⟩ := trodVars_none hV
  obtain ⟨a0, len0, cap0, rfl⟩ := okWide_slice Try.underlying22 (hval 0 22 v0 rfl rfl)
  have k0 := h0
  have lt0 : ∀ x ∈ p0, x.block < W.heap.size := by obtain ⟨m, hm⟩ := k0; exact DataW.trod_lt m _ _ _ hm
  obtain ⟨z0, w0⟩ : ∃ zs, IsRow .u8 W a0 len0 cap0 zs := by
    obtain ⟨fuel, hf⟩ := h0
    rcases open_ints Try.underlying22 Try.underlying5 (by kernel_rfl) hf with ⟨hcs, _⟩ | ⟨x, l, c, zs, hcs, _, hl, hm, hz, _, hcell, hwz⟩
    · simp [Value.cells] at hcs
      obtain ⟨rfl, rfl, rfl⟩ := hcs
      exact ⟨[], .inl ⟨rfl, rfl, rfl, rfl⟩⟩
    · simp [Value.cells] at hcs
      obtain ⟨rfl, rfl, rfl⟩ := hcs
      exact ⟨zs, .inr ⟨_, rfl, hl, hm, by simpa using hz, hcell, hwz⟩⟩
  obtain ⟨x0, hx0, rd0, wf0⟩ := w0.rd
  subst hx0
  have bd0 := w0.cap
  obtain ⟨a1, len1, cap1, rfl⟩ := okWide_slice Try.underlying22 (hval 1 22 v1 rfl rfl)
  have k1 := h1
  have lt1 : ∀ x ∈ p1, x.block < W.heap.size := by obtain ⟨m, hm⟩ := k1; exact DataW.trod_lt m _ _ _ hm
  obtain ⟨z1, w1⟩ : ∃ zs, IsRow .u8 W a1 len1 cap1 zs := by
    obtain ⟨fuel, hf⟩ := h1
    rcases open_ints Try.underlying22 Try.underlying5 (by kernel_rfl) hf with ⟨hcs, _⟩ | ⟨x, l, c, zs, hcs, _, hl, hm, hz, _, hcell, hwz⟩
    · simp [Value.cells] at hcs
      obtain ⟨rfl, rfl, rfl⟩ := hcs
      exact ⟨[], .inl ⟨rfl, rfl, rfl, rfl⟩⟩
    · simp [Value.cells] at hcs
      obtain ⟨rfl, rfl, rfl⟩ := hcs
      exact ⟨zs, .inr ⟨_, rfl, hl, hm, by simpa using hz, hcell, hwz⟩⟩
  obtain ⟨x1, hx1, rd1, wf1⟩ := w1.rd
  subst hx1
  have bd1 := w1.cap
  clear hA0 hval0
  refine (walk W a0 cap0 x0 rd0 wf0 bd0 a1 cap1 x1 rd1 wf1 bd1).mono fun e W' ⟨he, bel⟩ => ?_
  subst he
  exact ⟨_, rfl, _, _, _, [], _, [], hW', trodAll_mk1 (shut_bool Try.underlying4 _), (trodAll_cons_mk (Below.trod laidOut (by kernel_rfl) (of_decide_eq_true (by kernel_rfl)) k0 bel lt0) (trodAll_cons_mk (Below.trod laidOut (by kernel_rfl) (of_decide_eq_true (by kernel_rfl)) k1 bel lt1) trodAll_mk0)), rfl, bel.frame _, fun h => by cases h⟩

theorem over : Rows.fnComposeRelRow.holds Try.pinned (OpenSpec.ofChange Rows.fnComposeRelSpec) :=
  OpenClaim.holds_of_wide 5 Try.f5 rfl rfl rfl rfl rfl rfl rfl ⟨rfl, rfl, rfl, rfl, rfl⟩ rfl rfl rfl rfl rfl (by kernel_rfl) Try.func5 (by kernel_rfl)
    (of_decide_eq_true (by kernel_rfl)) (by unfold Func.isWrapper; first | (rw [if_pos (by decide +kernel)]; kernel_rfl) | (rw [if_neg (by decide +kernel)]; exact ⟨rfl, rfl⟩))
    (fun os started H enc _ => lifted os started H enc)

theorem proved : Rows.FnComposeRelSaid := over
#print axioms proved
end Go.Proofs.Ytdppidhnlbfpmaa.fnComposeRel
