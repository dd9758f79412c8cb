/-
  PROVED HERE: laws.FnUnionRel returns true for every input, and each argument reads behind the call as it read before. CONDITIONS: none.
-/
import Derived.Test.YtdppidhnlbfpmaaWm
import Derived.Test.YtdppidhnlbfpmaaRelE
import Derived.Test.YtdppidhnlbfpmaaRelK
import Derived.ShutString
import Derived.ChangeOld
namespace Go.Proofs.Ytdppidhnlbfpmaa.fnUnionRel
open Go.ChangeShapes Go.WideShapes Go.ChangeAt Go.RowKit
open Go.ChangeMaps (open_string shut_string)
set_option linter.unusedVariables false
open Go.Proofs.Ytdppidhnlbfpmaa
theorem own : ownKnob Try.prog.godebug = none := by kernel_rfl
theorem laidOut : laidOutB Try.prog = true := by kernel_rfl

theorem walkBig (w : World) (a0 : Option Addr) (cap0 : Nat) (bs0 : List Int) (h0 : Rd w a0 (bytes bs0)) (f0 : ∀ n ∈ bs0, (Lit.int .u8 n).wf = true) (d0 : bs0.length ≤ cap0 ∧ cap0 ≤ 9223372036854775807) (hb : 1048576 < bs0.length) :
    Calls Try.prog 12 #[.slice a0 bs0.length cap0] w fun e w' => e = .returned (.bool true) ∧ Below w.heap.size w w' := by
  clear h0 f0 d0
  have g : (1048576 : Int) < bs0.length := by omega
  go_enter Try.func12, Try.ntmps12
  go_wp2
  go_ret
  exact ⟨rfl, Below.refl _ _⟩

set_option maxHeartbeats 1600000 in
theorem walkSmall (w : World) (a0 : Option Addr) (cap0 : Nat) (bs0 : List Int) (h0 : Rd w a0 (bytes bs0)) (f0 : ∀ n ∈ bs0, (Lit.int .u8 n).wf = true) (d0 : bs0.length ≤ cap0 ∧ cap0 ≤ 9223372036854775807) (s0 : bs0.length ≤ 1048576) :
    Calls Try.prog 12 #[.slice a0 bs0.length cap0] w fun e w' => e = .returned (.bool true) ∧ Below w.heap.size w w' := by
  have g0 : decide ((1048576 : Int) < bs0.length) = false := by simp; omega
  have DA0 : DrawArgs w a0 cap0 bs0 := ⟨h0, byte_wf f0, s0, d0.1, d0.2⟩
  have CD0 := hid (fun (w1 : World) (hb : Below w.heap.size w w1) => drawUnionRel_c w1 a0 cap0 bs0 (DA0.below hb))
  clear h0 f0 d0 s0 DA0
  have B0 : Below w.heap.size w w := Below.refl _ _
  go_enter Try.func12, Try.ntmps12
  go_wp2_with fail
  refine (CD0.out _ B0).mono ?_
  rintro e w1 ⟨xs, ys, a_x, a_y, c_x, c_y, rfl, o_x, o_y, b1, l_xs, l_ys⟩
  replace o_x := own_up o_x B0.size
  replace o_y := own_up o_y B0.size
  have B1 : Below w.heap.size w w1 := B0.trans (b1.mono B0.size)
  obtain ⟨us, h_us⟩ : ∃ z, z = lift2 unionN xs ys := ⟨_, rfl⟩
  have l_us : us.length ≤ 1048576 := by rw [h_us]; exact length_lift2 (fun us vs h => Nat.le_of_eq (length_union h)) _ _
  replace h_us := hid h_us
  have H2_1 := fun (w : World) (a1 a2 : Option Addr) (c1 c2 : Nat) (h1 : Rd w a1 (ints xs)) (h2 : Rd w a2 (ints ys)) => implUnion_c w a1 a2 c1 c2 xs ys h1 h2 (by omega) (by omega)
  rw [← h_us.out] at H2_1
  replace H2_1 := hid H2_1
  go_wp2_with fail
  refine (H2_1.out _ _ _ _ _ (Rd.own o_x) (Rd.own o_y)).mono ?_
  rintro e w2 ⟨a_u, c_u, rfl, o_u, b2⟩
  replace o_u := own_up o_u B1.size
  replace o_x := own_below o_x b2
  replace o_y := own_below o_y b2
  have B2 : Below w.heap.size w w2 := B1.trans (b2.mono B1.size)
  have H2_2 := fun (w : World) (a1 a2 : Option Addr) (c1 c2 : Nat) (h1 : Rd w a1 (ints xs)) (h2 : Rd w a2 (ints ys)) => specUnion_c w a1 a2 c1 c2 xs ys h1 h2 (by omega) (by omega)
  rw [← h_us.out] at H2_2
  replace H2_2 := hid H2_2
  go_wp2_with fail
  refine (H2_2.out _ _ _ _ _ (Rd.own o_x) (Rd.own o_y)).mono ?_
  rintro e w3 ⟨a_u2, c_u2, rfl, o_u2, b3⟩
  replace o_u2 := own_up o_u2 B2.size
  replace o_x := own_below o_x b3
  replace o_y := own_below o_y b3
  replace o_u := own_below o_u b3
  have B3 : Below w.heap.size w w3 := B2.trans (b3.mono B2.size)
  have H2_3 := hid (fun (w : World) (a1 a2 : Option Addr) (c1 c2 : Nat) (h1 : Rd w a1 (ints us)) (h2 : Rd w a2 (ints us)) => wmSame_c w a1 a2 c1 c2 us h1 h2 l_us)
  go_wp2_with fail
  refine (H2_3.out _ _ _ _ _ (Rd.own o_u) (Rd.own o_u2)).mono ?_
  rintro e w4 ⟨rfl, b4⟩
  replace o_x := own_below o_x b4
  replace o_y := own_below o_y b4
  replace o_u := own_below o_u b4
  replace o_u2 := own_below o_u2 b4
  have B4 : Below w.heap.size w w4 := B3.trans (b4.mono B3.size)
  by_cases v1 : relValid xs = true
  · replace v1 := hid v1
    have H4_4 := fun (w : World) (a1 : Option Addr) (c1 : Nat) (h1 : Rd w a1 (ints xs)) => relValidI_c w a1 c1 xs h1 (by omega)
    rw [v1.out] at H4_4
    replace H4_4 := hid H4_4
    go_wp2_with fail
    refine (H4_4.out _ _ _ (Rd.own o_x)).mono ?_
    rintro e w5 ⟨rfl, b5⟩
    replace o_x := own_below o_x b5
    replace o_y := own_below o_y b5
    replace o_u := own_below o_u b5
    have B5 : Below w.heap.size w w5 := B4.trans (b5.mono B4.size)
    by_cases v2 : relValid ys = true
    · replace v2 := hid v2
      have H6_5 := fun (w : World) (a1 : Option Addr) (c1 : Nat) (h1 : Rd w a1 (ints ys)) => relValidI_c w a1 c1 ys h1 (by omega)
      rw [v2.out] at H6_5
      replace H6_5 := hid H6_5
      go_wp2_with fail
      refine (H6_5.out _ _ _ (Rd.own o_y)).mono ?_
      rintro e w6 ⟨rfl, b6⟩
      replace o_x := own_below o_x b6
      replace o_y := own_below o_y b6
      replace o_u := own_below o_u b6
      have B6 : Below w.heap.size w w6 := B5.trans (b6.mono B5.size)
      by_cases v3 : xs.length = ys.length
      · have ev3 : ((xs.length : Int) != ys.length) = false := by simp [v3]
        have iv3 : ((xs.length : Int) == ys.length) = true := by simp [v3]
        replace v3 := hid v3
        have f1 := hid (fit_mk v1.out v2.out v3.out)
        obtain ⟨ms, h_ms⟩ : ∃ z, z = lift2 meetN xs ys := ⟨_, rfl⟩
        have l_ms : ms.length ≤ 1048576 := by rw [h_ms]; exact length_lift2 (fun us vs h => Nat.le_of_eq (length_meet h)) _ _
        replace h_ms := hid h_ms
        obtain ⟨ds, h_ds⟩ : ∃ z, z = lift2 minusN xs ys := ⟨_, rfl⟩
        have l_ds : ds.length ≤ 1048576 := by rw [h_ds]; exact length_lift2 (fun us vs h => Nat.le_of_eq (length_minus h)) _ _
        replace h_ds := hid h_ds
        have E1 := union_comm f1.out
        have E2 := meet_comm f1.out
        have E3 := union_split f1.out
        have E4 := count_split f1.out
        have E5 := meet_within_union f1.out
        rw [← h_us.out] at E1 E4 E5
        rw [← h_ms.out] at E2 E3 E4 E5
        rw [← h_ds.out] at E3
        obtain ⟨n1, h_n1⟩ : ∃ z, z = countF us := ⟨_, rfl⟩
        have l_n1 : n1 ≤ 256 := by rw [h_n1]; exact countF_le _
        replace h_n1 := hid h_n1
        obtain ⟨n2, h_n2⟩ : ∃ z, z = countF ms := ⟨_, rfl⟩
        have l_n2 : n2 ≤ 256 := by rw [h_n2]; exact countF_le _
        replace h_n2 := hid h_n2
        obtain ⟨n3, h_n3⟩ : ∃ z, z = countF xs := ⟨_, rfl⟩
        have l_n3 : n3 ≤ 256 := by rw [h_n3]; exact countF_le _
        replace h_n3 := hid h_n3
        obtain ⟨n4, h_n4⟩ : ∃ z, z = countF ys := ⟨_, rfl⟩
        have l_n4 : n4 ≤ 256 := by rw [h_n4]; exact countF_le _
        replace h_n4 := hid h_n4
        rw [← h_n1.out, ← h_n2.out, ← h_n3.out, ← h_n4.out] at E4
        have E4i : (n1 : Int) + n2 = n3 + n4 := by omega
        have E4b : ((n1 : Int) + n2 == n3 + n4) = true := by simpa using E4i
        clear E4i E4
        replace E1 := hid E1
        replace E2 := hid E2
        replace E3 := hid E3
        replace E5 := hid E5
        have H8_6 := fun (w : World) (a1 a2 : Option Addr) (c1 c2 : Nat) (h1 : Rd w a1 (ints xs)) (h2 : Rd w a2 (ints ys)) => implMeet_c w a1 a2 c1 c2 xs ys h1 h2 (by omega) (by omega)
        rw [← h_ms.out] at H8_6
        replace H8_6 := hid H8_6
        go_wp2_with fail
        refine (H8_6.out _ _ _ _ _ (Rd.own o_x) (Rd.own o_y)).mono ?_
        rintro e w7 ⟨a_m, c_m, rfl, o_m, b7⟩
        replace o_m := own_up o_m B6.size
        replace o_x := own_below o_x b7
        replace o_y := own_below o_y b7
        replace o_u := own_below o_u b7
        have B7 : Below w.heap.size w w7 := B6.trans (b7.mono B6.size)
        have H8_7 := fun (w : World) (a1 a2 : Option Addr) (c1 c2 : Nat) (h1 : Rd w a1 (ints xs)) (h2 : Rd w a2 (ints ys)) => implMinus_c w a1 a2 c1 c2 xs ys h1 h2 (by omega) (by omega)
        rw [← h_ds.out] at H8_7
        replace H8_7 := hid H8_7
        go_wp2_with fail
        refine (H8_7.out _ _ _ _ _ (Rd.own o_x) (Rd.own o_y)).mono ?_
        rintro e w8 ⟨a_d, c_d, rfl, o_d, b8⟩
        replace o_d := own_up o_d B7.size
        replace o_x := own_below o_x b8
        replace o_y := own_below o_y b8
        replace o_u := own_below o_u b8
        replace o_m := own_below o_m b8
        have B8 : Below w.heap.size w w8 := B7.trans (b8.mono B7.size)
        have H8_8 := fun (w : World) (a1 a2 : Option Addr) (c1 c2 : Nat) (h1 : Rd w a1 (ints xs)) (h2 : Rd w a2 (ints ys)) => specMeet_c w a1 a2 c1 c2 xs ys h1 h2 (by omega) (by omega)
        rw [← h_ms.out] at H8_8
        replace H8_8 := hid H8_8
        go_wp2_with fail
        refine (H8_8.out _ _ _ _ _ (Rd.own o_x) (Rd.own o_y)).mono ?_
        rintro e w9 ⟨a_m2, c_m2, rfl, o_m2, b9⟩
        replace o_m2 := own_up o_m2 B8.size
        replace o_x := own_below o_x b9
        replace o_y := own_below o_y b9
        replace o_u := own_below o_u b9
        replace o_m := own_below o_m b9
        replace o_d := own_below o_d b9
        have B9 : Below w.heap.size w w9 := B8.trans (b9.mono B8.size)
        have H8_9 := hid (fun (w : World) (a1 a2 : Option Addr) (c1 c2 : Nat) (h1 : Rd w a1 (ints ms)) (h2 : Rd w a2 (ints ms)) => wmSame_c w a1 a2 c1 c2 ms h1 h2 l_ms)
        go_wp2_with fail
        refine (H8_9.out _ _ _ _ _ (Rd.own o_m) (Rd.own o_m2)).mono ?_
        rintro e w10 ⟨rfl, b10⟩
        replace o_x := own_below o_x b10
        replace o_y := own_below o_y b10
        replace o_u := own_below o_u b10
        replace o_m := own_below o_m b10
        replace o_d := own_below o_d b10
        replace o_m2 := own_below o_m2 b10
        have B10 : Below w.heap.size w w10 := B9.trans (b10.mono B9.size)
        have H8_10 := fun (w : World) (a1 a2 : Option Addr) (c1 c2 : Nat) (h1 : Rd w a1 (ints xs)) (h2 : Rd w a2 (ints ys)) => specMinus_c w a1 a2 c1 c2 xs ys h1 h2 (by omega) (by omega)
        rw [← h_ds.out] at H8_10
        replace H8_10 := hid H8_10
        go_wp2_with fail
        refine (H8_10.out _ _ _ _ _ (Rd.own o_x) (Rd.own o_y)).mono ?_
        rintro e w11 ⟨a_d2, c_d2, rfl, o_d2, b11⟩
        replace o_d2 := own_up o_d2 B10.size
        replace o_x := own_below o_x b11
        replace o_y := own_below o_y b11
        replace o_u := own_below o_u b11
        replace o_m := own_below o_m b11
        replace o_d := own_below o_d b11
        have B11 : Below w.heap.size w w11 := B10.trans (b11.mono B10.size)
        have H8_11 := hid (fun (w : World) (a1 a2 : Option Addr) (c1 c2 : Nat) (h1 : Rd w a1 (ints ds)) (h2 : Rd w a2 (ints ds)) => wmSame_c w a1 a2 c1 c2 ds h1 h2 l_ds)
        go_wp2_with fail
        refine (H8_11.out _ _ _ _ _ (Rd.own o_d) (Rd.own o_d2)).mono ?_
        rintro e w12 ⟨rfl, b12⟩
        replace o_x := own_below o_x b12
        replace o_y := own_below o_y b12
        replace o_u := own_below o_u b12
        replace o_m := own_below o_m b12
        replace o_d := own_below o_d b12
        replace o_d2 := own_below o_d2 b12
        have B12 : Below w.heap.size w w12 := B11.trans (b12.mono B11.size)
        have H8_12 := fun (w : World) (a1 a2 : Option Addr) (c1 c2 : Nat) (h1 : Rd w a1 (ints ys)) (h2 : Rd w a2 (ints xs)) => implUnion_c w a1 a2 c1 c2 ys xs h1 h2 (by omega) (by omega)
        rw [E1.out] at H8_12
        replace H8_12 := hid H8_12
        go_wp2_with fail
        refine (H8_12.out _ _ _ _ _ (Rd.own o_y) (Rd.own o_x)).mono ?_
        rintro e w13 ⟨a_u4, c_u4, rfl, o_u4, b13⟩
        replace o_u4 := own_up o_u4 B12.size
        replace o_x := own_below o_x b13
        replace o_y := own_below o_y b13
        replace o_u := own_below o_u b13
        replace o_m := own_below o_m b13
        replace o_d := own_below o_d b13
        have B13 : Below w.heap.size w w13 := B12.trans (b13.mono B12.size)
        have H8_13 := hid (fun (w : World) (a1 a2 : Option Addr) (c1 c2 : Nat) (h1 : Rd w a1 (ints us)) (h2 : Rd w a2 (ints us)) => wmSame_c w a1 a2 c1 c2 us h1 h2 l_us)
        go_wp2_with fail
        refine (H8_13.out _ _ _ _ _ (Rd.own o_u) (Rd.own o_u4)).mono ?_
        rintro e w14 ⟨rfl, b14⟩
        replace o_x := own_below o_x b14
        replace o_y := own_below o_y b14
        replace o_u := own_below o_u b14
        replace o_m := own_below o_m b14
        replace o_d := own_below o_d b14
        replace o_u4 := own_below o_u4 b14
        have B14 : Below w.heap.size w w14 := B13.trans (b14.mono B13.size)
        have H8_14 := fun (w : World) (a1 a2 : Option Addr) (c1 c2 : Nat) (h1 : Rd w a1 (ints ys)) (h2 : Rd w a2 (ints xs)) => implMeet_c w a1 a2 c1 c2 ys xs h1 h2 (by omega) (by omega)
        rw [E2.out] at H8_14
        replace H8_14 := hid H8_14
        go_wp2_with fail
        refine (H8_14.out _ _ _ _ _ (Rd.own o_y) (Rd.own o_x)).mono ?_
        rintro e w15 ⟨a_m4, c_m4, rfl, o_m4, b15⟩
        replace o_m4 := own_up o_m4 B14.size
        replace o_x := own_below o_x b15
        replace o_y := own_below o_y b15
        replace o_u := own_below o_u b15
        replace o_m := own_below o_m b15
        replace o_d := own_below o_d b15
        have B15 : Below w.heap.size w w15 := B14.trans (b15.mono B14.size)
        have H8_15 := hid (fun (w : World) (a1 a2 : Option Addr) (c1 c2 : Nat) (h1 : Rd w a1 (ints ms)) (h2 : Rd w a2 (ints ms)) => wmSame_c w a1 a2 c1 c2 ms h1 h2 l_ms)
        go_wp2_with fail
        refine (H8_15.out _ _ _ _ _ (Rd.own o_m) (Rd.own o_m4)).mono ?_
        rintro e w16 ⟨rfl, b16⟩
        replace o_x := own_below o_x b16
        replace o_y := own_below o_y b16
        replace o_u := own_below o_u b16
        replace o_m := own_below o_m b16
        replace o_d := own_below o_d b16
        replace o_m4 := own_below o_m4 b16
        have B16 : Below w.heap.size w w16 := B15.trans (b16.mono B15.size)
        have H8_16 := fun (w : World) (a1 a2 : Option Addr) (c1 c2 : Nat) (h1 : Rd w a1 (ints ms)) (h2 : Rd w a2 (ints ds)) => implUnion_c w a1 a2 c1 c2 ms ds h1 h2 l_ms l_ds
        rw [E3.out] at H8_16
        replace H8_16 := hid H8_16
        go_wp2_with fail
        refine (H8_16.out _ _ _ _ _ (Rd.own o_m) (Rd.own o_d)).mono ?_
        rintro e w17 ⟨a_x4, c_x4, rfl, o_x4, b17⟩
        replace o_x4 := own_up o_x4 B16.size
        replace o_x := own_below o_x b17
        replace o_y := own_below o_y b17
        replace o_u := own_below o_u b17
        replace o_m := own_below o_m b17
        replace o_d := own_below o_d b17
        have B17 : Below w.heap.size w w17 := B16.trans (b17.mono B16.size)
        have H8_17 := hid (fun (w : World) (a1 a2 : Option Addr) (c1 c2 : Nat) (h1 : Rd w a1 (ints xs)) (h2 : Rd w a2 (ints xs)) => wmSame_c w a1 a2 c1 c2 xs h1 h2 (by omega))
        go_wp2_with fail
        refine (H8_17.out _ _ _ _ _ (Rd.own o_x4) (Rd.own o_x)).mono ?_
        rintro e w18 ⟨rfl, b18⟩
        replace o_x := own_below o_x b18
        replace o_y := own_below o_y b18
        replace o_u := own_below o_u b18
        replace o_m := own_below o_m b18
        replace o_d := own_below o_d b18
        replace o_x4 := own_below o_x4 b18
        have B18 : Below w.heap.size w w18 := B17.trans (b18.mono B17.size)
        have H8_18 := fun (w : World) (a1 : Option Addr) (c1 : Nat) (h1 : Rd w a1 (ints us)) => implCount_c w a1 c1 us h1 l_us
        rw [← h_n1.out] at H8_18
        replace H8_18 := hid H8_18
        go_wp2_with fail
        refine (H8_18.out _ _ _ (Rd.own o_u)).mono ?_
        rintro e w19 ⟨rfl, b19⟩
        replace o_x := own_below o_x b19
        replace o_y := own_below o_y b19
        replace o_u := own_below o_u b19
        replace o_m := own_below o_m b19
        replace o_d := own_below o_d b19
        have B19 : Below w.heap.size w w19 := B18.trans (b19.mono B18.size)
        have H8_19 := fun (w : World) (a1 : Option Addr) (c1 : Nat) (h1 : Rd w a1 (ints ms)) => implCount_c w a1 c1 ms h1 l_ms
        rw [← h_n2.out] at H8_19
        replace H8_19 := hid H8_19
        go_wp2_with fail
        refine (H8_19.out _ _ _ (Rd.own o_m)).mono ?_
        rintro e w20 ⟨rfl, b20⟩
        replace o_x := own_below o_x b20
        replace o_y := own_below o_y b20
        replace o_u := own_below o_u b20
        replace o_m := own_below o_m b20
        replace o_d := own_below o_d b20
        have B20 : Below w.heap.size w w20 := B19.trans (b20.mono B19.size)
        have H8_20 := fun (w : World) (a1 : Option Addr) (c1 : Nat) (h1 : Rd w a1 (ints xs)) => implCount_c w a1 c1 xs h1 (by omega)
        rw [← h_n3.out] at H8_20
        replace H8_20 := hid H8_20
        go_wp2_with fail
        refine (H8_20.out _ _ _ (Rd.own o_x)).mono ?_
        rintro e w21 ⟨rfl, b21⟩
        replace o_x := own_below o_x b21
        replace o_y := own_below o_y b21
        replace o_u := own_below o_u b21
        replace o_m := own_below o_m b21
        replace o_d := own_below o_d b21
        have B21 : Below w.heap.size w w21 := B20.trans (b21.mono B20.size)
        have H8_21 := fun (w : World) (a1 : Option Addr) (c1 : Nat) (h1 : Rd w a1 (ints ys)) => implCount_c w a1 c1 ys h1 (by omega)
        rw [← h_n4.out] at H8_21
        replace H8_21 := hid H8_21
        go_wp2_with fail
        refine (H8_21.out _ _ _ (Rd.own o_y)).mono ?_
        rintro e w22 ⟨rfl, b22⟩
        replace o_x := own_below o_x b22
        replace o_y := own_below o_y b22
        replace o_u := own_below o_u b22
        replace o_m := own_below o_m b22
        replace o_d := own_below o_d b22
        have B22 : Below w.heap.size w w22 := B21.trans (b22.mono B21.size)
        have H8_22 := fun (w : World) (a1 a2 : Option Addr) (c1 c2 : Nat) (h1 : Rd w a1 (ints ms)) (h2 : Rd w a2 (ints us)) => implWithin_c w a1 a2 c1 c2 ms us h1 h2 l_ms l_us
        rw [E5.out] at H8_22
        replace H8_22 := hid H8_22
        go_wp2_with fail
        refine (H8_22.out _ _ _ _ _ (Rd.own o_m) (Rd.own o_u)).mono ?_
        rintro e w23 ⟨rfl, b23⟩
        replace o_x := own_below o_x b23
        replace o_y := own_below o_y b23
        replace o_u := own_below o_u b23
        replace o_m := own_below o_m b23
        replace o_d := own_below o_d b23
        have B23 : Below w.heap.size w w23 := B22.trans (b23.mono B22.size)
        go_wp2
        go_ret
        exact ⟨rfl, B23⟩
      · have ev3 : ((xs.length : Int) != ys.length) = true := by simp; omega
        have iv3 : ((xs.length : Int) == ys.length) = false := by simp; omega
        replace v3 := hid v3
        have z0 : ((us.length : Int) == 0) = true := by rw [h_us.out, lift2_no (fit_no3 v3.out)]; rfl
        have H8_6 := fun (w : World) (a1 a2 : Option Addr) (c1 c2 : Nat) (h1 : Rd w a1 (ints xs)) (h2 : Rd w a2 (ints ys)) => specUnion_c w a1 a2 c1 c2 xs ys h1 h2 (by omega) (by omega)
        rw [← h_us.out] at H8_6
        replace H8_6 := hid H8_6
        go_wp2_with fail
        refine (H8_6.out _ _ _ _ _ (Rd.own o_x) (Rd.own o_y)).mono ?_
        rintro e w7 ⟨a_u3, c_u3, rfl, o_u3, b7⟩
        replace o_u3 := own_up o_u3 B6.size
        replace o_x := own_below o_x b7
        replace o_y := own_below o_y b7
        replace o_u := own_below o_u b7
        have B7 : Below w.heap.size w w7 := B6.trans (b7.mono B6.size)
        have H8_7 := hid (fun (w : World) (a1 a2 : Option Addr) (c1 c2 : Nat) (h1 : Rd w a1 (ints us)) (h2 : Rd w a2 (ints us)) => wmSame_c w a1 a2 c1 c2 us h1 h2 l_us)
        go_wp2_with fail
        refine (H8_7.out _ _ _ _ _ (Rd.own o_u) (Rd.own o_u3)).mono ?_
        rintro e w8 ⟨rfl, b8⟩
        replace o_x := own_below o_x b8
        replace o_y := own_below o_y b8
        replace o_u := own_below o_u b8
        replace o_u3 := own_below o_u3 b8
        have B8 : Below w.heap.size w w8 := B7.trans (b8.mono B7.size)
        go_wp2
        go_ret
        exact ⟨rfl, B8⟩
    · replace v2 : relValid ys = false := by simpa using v2
      replace v2 := hid v2
      have H6_5 := fun (w : World) (a1 : Option Addr) (c1 : Nat) (h1 : Rd w a1 (ints ys)) => relValidI_c w a1 c1 ys h1 (by omega)
      rw [v2.out] at H6_5
      replace H6_5 := hid H6_5
      go_wp2_with fail
      refine (H6_5.out _ _ _ (Rd.own o_y)).mono ?_
      rintro e w6 ⟨rfl, b6⟩
      replace o_x := own_below o_x b6
      replace o_y := own_below o_y b6
      replace o_u := own_below o_u b6
      have B6 : Below w.heap.size w w6 := B5.trans (b6.mono B5.size)
      have z0 : ((us.length : Int) == 0) = true := by rw [h_us.out, lift2_no (fit_no2 v2.out)]; rfl
      have H6_6 := fun (w : World) (a1 a2 : Option Addr) (c1 c2 : Nat) (h1 : Rd w a1 (ints xs)) (h2 : Rd w a2 (ints ys)) => specUnion_c w a1 a2 c1 c2 xs ys h1 h2 (by omega) (by omega)
      rw [← h_us.out] at H6_6
      replace H6_6 := hid H6_6
      go_wp2_with fail
      refine (H6_6.out _ _ _ _ _ (Rd.own o_x) (Rd.own o_y)).mono ?_
      rintro e w7 ⟨a_u3, c_u3, rfl, o_u3, b7⟩
      replace o_u3 := own_up o_u3 B6.size
      replace o_x := own_below o_x b7
      replace o_y := own_below o_y b7
      replace o_u := own_below o_u b7
      have B7 : Below w.heap.size w w7 := B6.trans (b7.mono B6.size)
      have H6_7 := hid (fun (w : World) (a1 a2 : Option Addr) (c1 c2 : Nat) (h1 : Rd w a1 (ints us)) (h2 : Rd w a2 (ints us)) => wmSame_c w a1 a2 c1 c2 us h1 h2 l_us)
      go_wp2_with fail
      refine (H6_7.out _ _ _ _ _ (Rd.own o_u) (Rd.own o_u3)).mono ?_
      rintro e w8 ⟨rfl, b8⟩
      replace o_x := own_below o_x b8
      replace o_y := own_below o_y b8
      replace o_u := own_below o_u b8
      replace o_u3 := own_below o_u3 b8
      have B8 : Below w.heap.size w w8 := B7.trans (b8.mono B7.size)
      go_wp2
      go_ret
      exact ⟨rfl, B8⟩
  · replace v1 : relValid xs = false := by simpa using v1
    replace v1 := hid v1
    have H4_4 := fun (w : World) (a1 : Option Addr) (c1 : Nat) (h1 : Rd w a1 (ints xs)) => relValidI_c w a1 c1 xs h1 (by omega)
    rw [v1.out] at H4_4
    replace H4_4 := hid H4_4
    go_wp2_with fail
    refine (H4_4.out _ _ _ (Rd.own o_x)).mono ?_
    rintro e w5 ⟨rfl, b5⟩
    replace o_x := own_below o_x b5
    replace o_y := own_below o_y b5
    replace o_u := own_below o_u b5
    have B5 : Below w.heap.size w w5 := B4.trans (b5.mono B4.size)
    have z0 : ((us.length : Int) == 0) = true := by rw [h_us.out, lift2_no (fit_no1 v1.out)]; rfl
    have H4_5 := fun (w : World) (a1 a2 : Option Addr) (c1 c2 : Nat) (h1 : Rd w a1 (ints xs)) (h2 : Rd w a2 (ints ys)) => specUnion_c w a1 a2 c1 c2 xs ys h1 h2 (by omega) (by omega)
    rw [← h_us.out] at H4_5
    replace H4_5 := hid H4_5
    go_wp2_with fail
    refine (H4_5.out _ _ _ _ _ (Rd.own o_x) (Rd.own o_y)).mono ?_
    rintro e w6 ⟨a_u3, c_u3, rfl, o_u3, b6⟩
    replace o_u3 := own_up o_u3 B5.size
    replace o_x := own_below o_x b6
    replace o_y := own_below o_y b6
    replace o_u := own_below o_u b6
    have B6 : Below w.heap.size w w6 := B5.trans (b6.mono B5.size)
    have H4_6 := hid (fun (w : World) (a1 a2 : Option Addr) (c1 c2 : Nat) (h1 : Rd w a1 (ints us)) (h2 : Rd w a2 (ints us)) => wmSame_c w a1 a2 c1 c2 us h1 h2 l_us)
    go_wp2_with fail
    refine (H4_6.out _ _ _ _ _ (Rd.own o_u) (Rd.own o_u3)).mono ?_
    rintro e w7 ⟨rfl, b7⟩
    replace o_x := own_below o_x b7
    replace o_y := own_below o_y b7
    replace o_u := own_below o_u b7
    replace o_u3 := own_below o_u3 b7
    have B7 : Below w.heap.size w w7 := B6.trans (b7.mono B6.size)
    go_wp2
    go_ret
    exact ⟨rfl, B7⟩

theorem walk (w : World) (a0 : Option Addr) (cap0 : Nat) (bs0 : List Int) (h0 : Rd w a0 (bytes bs0)) (f0 : ∀ n ∈ bs0, (Lit.int .u8 n).wf = true) (d0 : bs0.length ≤ cap0 ∧ cap0 ≤ 9223372036854775807) :
    Calls Try.prog 12 #[.slice a0 bs0.length cap0] w fun e w' => e = .returned (.bool true) ∧ Below w.heap.size w w' := by
  by_cases hb : 1048576 < bs0.length
  · exact walkBig w a0 cap0 bs0 h0 f0 d0 hb
  · exact walkSmall w a0 cap0 bs0 h0 f0 d0 (by omega)

set_option maxRecDepth 100000 in
theorem lifted (os : Os) (started : os.Started) (H : Type) (enc : TypeId × Value → H) :
    ReturnsInHanded {} Try.checked os 12 .any (Rows.fnUnionRelSpec.pre6 enc Try.prog Try.f12 Rows.fnUnionRelRow.domain false) (Rows.fnUnionRelSpec.post enc Try.prog Try.f12 false true false false) := by
  refine returnsInHanded_of_change (C := Try.checked) own started (by kernel_rfl) Try.func12
    (ChangeSpec.witness6 (enc := enc) (C := Try.checked) false ⟨#[], #[.slice none 0 0], []⟩ 8 (by kernel_rfl) (by kernel_rfl) (by kernel_rfl) (by kernel_rfl)) ?_
  intro W base args ds gs before hval0 hW hcnd _
  have hval : ∀ (j : Nat) t v, Try.f12.params[j]? = some t → args[j]? = some v → Value.okWide Try.prog W .any base t v := hval0
  have hW' := hW
  obtain ⟨p, q, hA0, hV, rfl, hfz, hnd⟩ := hW
  have hA : DataW.TrodAll enc Try.prog W 0 (fun _ => true) true Try.f12.params.toList args.toList ds p := hA0
  rw [Try.params12] at hA hval
  obtain ⟨v0, vs0, d0, ds0, p0, q0, hargs, rfl, rfl, h0, r0⟩ := trodAll_cons hA
  obtain ⟨rfl, rfl, rfl⟩ := trodAll_nil r0
  obtain rfl : args = #[v0] := by cases args; simp_all
  obtain ⟨rfl, rfl⟩ := trodVars_none hV
  obtain ⟨a0, len0, cap0, rfl⟩ := okWide_slice Try.underlying22 (hval 0 22 v0 rfl rfl)
  have k0 := h0
  have lt0 : ∀ x ∈ p0, x.block < W.heap.size := by obtain ⟨m, hm⟩ := k0; exact DataW.trod_lt m _ _ _ hm
  obtain ⟨z0, w0⟩ : ∃ zs, IsRow .u8 W a0 len0 cap0 zs := by
    obtain ⟨fuel, hf⟩ := h0
    rcases open_ints Try.underlying22 Try.underlying5 (by kernel_rfl) hf with ⟨hcs, _⟩ | ⟨x, l, c, zs, hcs, _, hl, hm, hz, _, hcell, hwz⟩
    · simp [Value.cells] at hcs
      obtain ⟨rfl, rfl, rfl⟩ := hcs
      exact ⟨[], .inl ⟨rfl, rfl, rfl, rfl⟩⟩
    · simp [Value.cells] at hcs
      obtain ⟨rfl, rfl, rfl⟩ := hcs
      exact ⟨zs, .inr ⟨_, rfl, hl, hm, by simpa using hz, hcell, hwz⟩⟩
  obtain ⟨x0, hx0, rd0, wf0⟩ := w0.rd
  subst hx0
  have bd0 := w0.cap
  clear hA0 hval0
  refine (walk W a0 cap0 x0 rd0 wf0 bd0).mono fun e W' ⟨he, bel⟩ => ?_
  subst he
  exact ⟨_, rfl, _, _, _, [], _, [], hW', trodAll_mk1 (shut_bool Try.underlying4 _), (trodAll_cons_mk (Below.trod laidOut (by kernel_rfl) (of_decide_eq_true (by kernel_rfl)) k0 bel lt0) trodAll_mk0), rfl, bel.frame _, fun h => by cases h⟩

theorem over : Rows.fnUnionRelRow.holds Try.pinned (OpenSpec.ofChange Rows.fnUnionRelSpec) :=
  OpenClaim.holds_of_wide 12 Try.f12 rfl rfl rfl rfl rfl rfl rfl ⟨rfl, rfl, rfl, rfl, rfl⟩ rfl rfl rfl rfl rfl (by kernel_rfl) Try.func12 (by kernel_rfl)
    (of_decide_eq_true (by kernel_rfl)) (by unfold Func.isWrapper; first | (rw [if_pos (by decide +kernel)]; kernel_rfl) | (rw [if_neg (by decide +kernel)]; exact ⟨rfl, rfl⟩))
    (fun os started H enc _ => lifted os started H enc)

theorem proved : Rows.FnUnionRelSaid := over
#print axioms proved
end Go.Proofs.Ytdppidhnlbfpmaa.fnUnionRel
