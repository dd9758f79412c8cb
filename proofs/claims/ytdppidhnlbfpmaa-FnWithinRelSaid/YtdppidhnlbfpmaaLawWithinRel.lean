/-
  PROVED HERE: laws.FnWithinRel returns true for every input, and each argument reads behind the call as it read before. CONDITIONS: none.
-/
import Derived.Test.YtdppidhnlbfpmaaWm
import Derived.Test.YtdppidhnlbfpmaaRelE
import Derived.Test.YtdppidhnlbfpmaaRelK
import Derived.ShutString
import Derived.ChangeOld
namespace Go.Proofs.Ytdppidhnlbfpmaa.fnWithinRel
open Go.ChangeShapes Go.WideShapes Go.ChangeAt Go.RowKit
open Go.ChangeMaps (open_string shut_string)
set_option linter.unusedVariables false
open Go.Proofs.Ytdppidhnlbfpmaa
theorem own : ownKnob Try.prog.godebug = none := by kernel_rfl
theorem laidOut : laidOutB Try.prog = true := by kernel_rfl

theorem walkBig (w : World) (a0 : Option Addr) (cap0 : Nat) (bs0 : List Int) (h0 : Rd w a0 (bytes bs0)) (f0 : ∀ n ∈ bs0, (Lit.int .u8 n).wf = true) (d0 : bs0.length ≤ cap0 ∧ cap0 ≤ 9223372036854775807) (hb : 1048576 < bs0.length) :
    Calls Try.prog 11 #[.slice a0 bs0.length cap0] w fun e w' => e = .returned (.bool true) ∧ Below w.heap.size w w' := by
  clear h0 f0 d0
  have g : (1048576 : Int) < bs0.length := by omega
  go_enter Try.func11, Try.ntmps11
  go_wp2
  go_ret
  exact ⟨rfl, Below.refl _ _⟩

set_option maxHeartbeats 1600000 in
theorem walkSmall (w : World) (a0 : Option Addr) (cap0 : Nat) (bs0 : List Int) (h0 : Rd w a0 (bytes bs0)) (f0 : ∀ n ∈ bs0, (Lit.int .u8 n).wf = true) (d0 : bs0.length ≤ cap0 ∧ cap0 ≤ 9223372036854775807) (s0 : bs0.length ≤ 1048576) :
    Calls Try.prog 11 #[.slice a0 bs0.length cap0] w fun e w' => e = .returned (.bool true) ∧ Below w.heap.size w w' := by
  have g0 : decide ((1048576 : Int) < bs0.length) = false := by simp; omega
  have DA0 : DrawArgs w a0 cap0 bs0 := ⟨h0, byte_wf f0, s0, d0.1, d0.2⟩
  have CD0 := hid (fun (w1 : World) (hb : Below w.heap.size w w1) => drawWithinRel_c w1 a0 cap0 bs0 (DA0.below hb))
  clear h0 f0 d0 s0 DA0
  have B0 : Below w.heap.size w w := Below.refl _ _
  go_enter Try.func11, Try.ntmps11
  go_wp2_with fail
  refine (CD0.out _ B0).mono ?_
  rintro e w1 ⟨xs, ys, a_x, a_y, c_x, c_y, rfl, o_x, o_y, b1, l_xs, l_ys⟩
  replace o_x := own_up o_x B0.size
  replace o_y := own_up o_y B0.size
  have B1 : Below w.heap.size w w1 := B0.trans (b1.mono B0.size)
  by_cases k : withinF xs ys = true
  · have f1 := within_fit k
    have v1 : relValid xs = true := by cases e : relValid xs with | true => rfl | false => rw [fit_no1 e] at f1; cases f1
    have k1 := within_self xs
    rw [v1] at k1
    have E1 := within_count k
    have E2 := within_back k
    have E3 := within_union k
    clear f1
    obtain ⟨n, h_n⟩ : ∃ z, z = countF xs := ⟨_, rfl⟩
    have l_n : n ≤ 256 := by rw [h_n]; exact countF_le _
    replace h_n := hid h_n
    obtain ⟨m, h_m⟩ : ∃ z, z = countF ys := ⟨_, rfl⟩
    have l_m : m ≤ 256 := by rw [h_m]; exact countF_le _
    replace h_m := hid h_m
    rw [← h_n.out, ← h_m.out] at E1
    have E1i : (n : Int) ≤ m := by omega
    replace k := hid k
    replace k1 := hid k1
    replace v1 := hid v1
    replace E2 := hid E2
    replace E3 := hid E3
    have H4_1 := fun (w : World) (a1 a2 : Option Addr) (c1 c2 : Nat) (h1 : Rd w a1 (ints xs)) (h2 : Rd w a2 (ints ys)) => implWithin_c w a1 a2 c1 c2 xs ys h1 h2 (by omega) (by omega)
    rw [k.out] at H4_1
    replace H4_1 := hid H4_1
    go_wp2_with fail
    refine (H4_1.out _ _ _ _ _ (Rd.own o_x) (Rd.own o_y)).mono ?_
    rintro e w2 ⟨rfl, b2⟩
    replace o_x := own_below o_x b2
    replace o_y := own_below o_y b2
    have B2 : Below w.heap.size w w2 := B1.trans (b2.mono B1.size)
    have H4_2 := fun (w : World) (a1 a2 : Option Addr) (c1 c2 : Nat) (h1 : Rd w a1 (ints xs)) (h2 : Rd w a2 (ints ys)) => specWithin_c w a1 a2 c1 c2 xs ys h1 h2 (by omega) (by omega)
    rw [k.out] at H4_2
    replace H4_2 := hid H4_2
    go_wp2_with fail
    refine (H4_2.out _ _ _ _ _ (Rd.own o_x) (Rd.own o_y)).mono ?_
    rintro e w3 ⟨rfl, b3⟩
    replace o_x := own_below o_x b3
    replace o_y := own_below o_y b3
    have B3 : Below w.heap.size w w3 := B2.trans (b3.mono B2.size)
    have H4_3 := fun (w : World) (a1 a2 : Option Addr) (c1 c2 : Nat) (h1 : Rd w a1 (ints xs)) (h2 : Rd w a2 (ints xs)) => implWithin_c w a1 a2 c1 c2 xs xs h1 h2 (by omega) (by omega)
    rw [k1.out] at H4_3
    replace H4_3 := hid H4_3
    go_wp2_with fail
    refine (H4_3.out _ _ _ _ _ (Rd.own o_x) (Rd.own o_x)).mono ?_
    rintro e w4 ⟨rfl, b4⟩
    replace o_x := own_below o_x b4
    replace o_y := own_below o_y b4
    have B4 : Below w.heap.size w w4 := B3.trans (b4.mono B3.size)
    have H4_4 := fun (w : World) (a1 : Option Addr) (c1 : Nat) (h1 : Rd w a1 (ints xs)) => relValidI_c w a1 c1 xs h1 (by omega)
    rw [v1.out] at H4_4
    replace H4_4 := hid H4_4
    go_wp2_with fail
    refine (H4_4.out _ _ _ (Rd.own o_x)).mono ?_
    rintro e w5 ⟨rfl, b5⟩
    replace o_x := own_below o_x b5
    replace o_y := own_below o_y b5
    have B5 : Below w.heap.size w w5 := B4.trans (b5.mono B4.size)
    have H4_5 := fun (w : World) (a1 : Option Addr) (c1 : Nat) (h1 : Rd w a1 (ints xs)) => implCount_c w a1 c1 xs h1 (by omega)
    rw [← h_n.out] at H4_5
    replace H4_5 := hid H4_5
    go_wp2_with fail
    refine (H4_5.out _ _ _ (Rd.own o_x)).mono ?_
    rintro e w6 ⟨rfl, b6⟩
    replace o_x := own_below o_x b6
    replace o_y := own_below o_y b6
    have B6 : Below w.heap.size w w6 := B5.trans (b6.mono B5.size)
    have H4_6 := fun (w : World) (a1 : Option Addr) (c1 : Nat) (h1 : Rd w a1 (ints ys)) => implCount_c w a1 c1 ys h1 (by omega)
    rw [← h_m.out] at H4_6
    replace H4_6 := hid H4_6
    go_wp2_with fail
    refine (H4_6.out _ _ _ (Rd.own o_y)).mono ?_
    rintro e w7 ⟨rfl, b7⟩
    replace o_x := own_below o_x b7
    replace o_y := own_below o_y b7
    have B7 : Below w.heap.size w w7 := B6.trans (b7.mono B6.size)
    by_cases d : xs = ys
    · have d1 : decide (xs = ys) = true := by simpa using d
      have E4 := E2.out
      rw [d1] at E4
      replace E4 := hid E4
      replace d1 := hid d1
      clear d
      have H6_7 := fun (w : World) (a1 a2 : Option Addr) (c1 c2 : Nat) (h1 : Rd w a1 (ints ys)) (h2 : Rd w a2 (ints xs)) => implWithin_c w a1 a2 c1 c2 ys xs h1 h2 (by omega) (by omega)
      rw [E4.out] at H6_7
      replace H6_7 := hid H6_7
      go_wp2_with fail
      refine (H6_7.out _ _ _ _ _ (Rd.own o_y) (Rd.own o_x)).mono ?_
      rintro e w8 ⟨rfl, b8⟩
      replace o_x := own_below o_x b8
      replace o_y := own_below o_y b8
      have B8 : Below w.heap.size w w8 := B7.trans (b8.mono B7.size)
      have H6_8 := fun (w : World) (a1 a2 : Option Addr) (c1 c2 : Nat) (h1 : Rd w a1 (ints xs)) (h2 : Rd w a2 (ints ys)) => wmInts_c w a1 a2 c1 c2 xs ys h1 h2 (by omega) (by omega)
      rw [d1.out] at H6_8
      replace H6_8 := hid H6_8
      go_wp2_with fail
      refine (H6_8.out _ _ _ _ _ (Rd.own o_x) (Rd.own o_y)).mono ?_
      rintro e w9 ⟨rfl, b9⟩
      replace o_x := own_below o_x b9
      replace o_y := own_below o_y b9
      have B9 : Below w.heap.size w w9 := B8.trans (b9.mono B8.size)
      have H6_9 := fun (w : World) (a1 a2 : Option Addr) (c1 c2 : Nat) (h1 : Rd w a1 (ints xs)) (h2 : Rd w a2 (ints ys)) => implUnion_c w a1 a2 c1 c2 xs ys h1 h2 (by omega) (by omega)
      rw [E3.out] at H6_9
      replace H6_9 := hid H6_9
      go_wp2_with fail
      refine (H6_9.out _ _ _ _ _ (Rd.own o_x) (Rd.own o_y)).mono ?_
      rintro e w10 ⟨a_u, c_u, rfl, o_u, b10⟩
      replace o_u := own_up o_u B9.size
      replace o_x := own_below o_x b10
      replace o_y := own_below o_y b10
      have B10 : Below w.heap.size w w10 := B9.trans (b10.mono B9.size)
      have H6_10 := hid (fun (w : World) (a1 a2 : Option Addr) (c1 c2 : Nat) (h1 : Rd w a1 (ints ys)) (h2 : Rd w a2 (ints ys)) => wmSame_c w a1 a2 c1 c2 ys h1 h2 (by omega))
      go_wp2_with fail
      refine (H6_10.out _ _ _ _ _ (Rd.own o_u) (Rd.own o_y)).mono ?_
      rintro e w11 ⟨rfl, b11⟩
      replace o_x := own_below o_x b11
      replace o_y := own_below o_y b11
      replace o_u := own_below o_u b11
      have B11 : Below w.heap.size w w11 := B10.trans (b11.mono B10.size)
      go_wp2
      go_ret
      exact ⟨rfl, B11⟩
    · have d1 : decide (xs = ys) = false := by simpa using d
      have E4 := E2.out
      rw [d1] at E4
      replace E4 := hid E4
      replace d1 := hid d1
      clear d
      have H6_7 := fun (w : World) (a1 a2 : Option Addr) (c1 c2 : Nat) (h1 : Rd w a1 (ints ys)) (h2 : Rd w a2 (ints xs)) => implWithin_c w a1 a2 c1 c2 ys xs h1 h2 (by omega) (by omega)
      rw [E4.out] at H6_7
      replace H6_7 := hid H6_7
      go_wp2_with fail
      refine (H6_7.out _ _ _ _ _ (Rd.own o_y) (Rd.own o_x)).mono ?_
      rintro e w8 ⟨rfl, b8⟩
      replace o_x := own_below o_x b8
      replace o_y := own_below o_y b8
      have B8 : Below w.heap.size w w8 := B7.trans (b8.mono B7.size)
      have H6_8 := fun (w : World) (a1 a2 : Option Addr) (c1 c2 : Nat) (h1 : Rd w a1 (ints xs)) (h2 : Rd w a2 (ints ys)) => wmInts_c w a1 a2 c1 c2 xs ys h1 h2 (by omega) (by omega)
      rw [d1.out] at H6_8
      replace H6_8 := hid H6_8
      go_wp2_with fail
      refine (H6_8.out _ _ _ _ _ (Rd.own o_x) (Rd.own o_y)).mono ?_
      rintro e w9 ⟨rfl, b9⟩
      replace o_x := own_below o_x b9
      replace o_y := own_below o_y b9
      have B9 : Below w.heap.size w w9 := B8.trans (b9.mono B8.size)
      have H6_9 := fun (w : World) (a1 a2 : Option Addr) (c1 c2 : Nat) (h1 : Rd w a1 (ints xs)) (h2 : Rd w a2 (ints ys)) => implUnion_c w a1 a2 c1 c2 xs ys h1 h2 (by omega) (by omega)
      rw [E3.out] at H6_9
      replace H6_9 := hid H6_9
      go_wp2_with fail
      refine (H6_9.out _ _ _ _ _ (Rd.own o_x) (Rd.own o_y)).mono ?_
      rintro e w10 ⟨a_u, c_u, rfl, o_u, b10⟩
      replace o_u := own_up o_u B9.size
      replace o_x := own_below o_x b10
      replace o_y := own_below o_y b10
      have B10 : Below w.heap.size w w10 := B9.trans (b10.mono B9.size)
      have H6_10 := hid (fun (w : World) (a1 a2 : Option Addr) (c1 c2 : Nat) (h1 : Rd w a1 (ints ys)) (h2 : Rd w a2 (ints ys)) => wmSame_c w a1 a2 c1 c2 ys h1 h2 (by omega))
      go_wp2_with fail
      refine (H6_10.out _ _ _ _ _ (Rd.own o_u) (Rd.own o_y)).mono ?_
      rintro e w11 ⟨rfl, b11⟩
      replace o_x := own_below o_x b11
      replace o_y := own_below o_y b11
      replace o_u := own_below o_u b11
      have B11 : Below w.heap.size w w11 := B10.trans (b11.mono B10.size)
      go_wp2
      go_ret
      exact ⟨rfl, B11⟩
  · replace k : withinF xs ys = false := by simpa using k
    replace k := hid k
    by_cases v1 : relValid xs = true
    · have k1 := within_self xs
      rw [v1] at k1
      replace k1 := hid k1
      replace v1 := hid v1
      have H6_1 := fun (w : World) (a1 a2 : Option Addr) (c1 c2 : Nat) (h1 : Rd w a1 (ints xs)) (h2 : Rd w a2 (ints ys)) => implWithin_c w a1 a2 c1 c2 xs ys h1 h2 (by omega) (by omega)
      rw [k.out] at H6_1
      replace H6_1 := hid H6_1
      go_wp2_with fail
      refine (H6_1.out _ _ _ _ _ (Rd.own o_x) (Rd.own o_y)).mono ?_
      rintro e w2 ⟨rfl, b2⟩
      replace o_x := own_below o_x b2
      replace o_y := own_below o_y b2
      have B2 : Below w.heap.size w w2 := B1.trans (b2.mono B1.size)
      have H6_2 := fun (w : World) (a1 a2 : Option Addr) (c1 c2 : Nat) (h1 : Rd w a1 (ints xs)) (h2 : Rd w a2 (ints ys)) => specWithin_c w a1 a2 c1 c2 xs ys h1 h2 (by omega) (by omega)
      rw [k.out] at H6_2
      replace H6_2 := hid H6_2
      go_wp2_with fail
      refine (H6_2.out _ _ _ _ _ (Rd.own o_x) (Rd.own o_y)).mono ?_
      rintro e w3 ⟨rfl, b3⟩
      replace o_x := own_below o_x b3
      replace o_y := own_below o_y b3
      have B3 : Below w.heap.size w w3 := B2.trans (b3.mono B2.size)
      have H6_3 := fun (w : World) (a1 a2 : Option Addr) (c1 c2 : Nat) (h1 : Rd w a1 (ints xs)) (h2 : Rd w a2 (ints xs)) => implWithin_c w a1 a2 c1 c2 xs xs h1 h2 (by omega) (by omega)
      rw [k1.out] at H6_3
      replace H6_3 := hid H6_3
      go_wp2_with fail
      refine (H6_3.out _ _ _ _ _ (Rd.own o_x) (Rd.own o_x)).mono ?_
      rintro e w4 ⟨rfl, b4⟩
      replace o_x := own_below o_x b4
      replace o_y := own_below o_y b4
      have B4 : Below w.heap.size w w4 := B3.trans (b4.mono B3.size)
      have H6_4 := fun (w : World) (a1 : Option Addr) (c1 : Nat) (h1 : Rd w a1 (ints xs)) => relValidI_c w a1 c1 xs h1 (by omega)
      rw [v1.out] at H6_4
      replace H6_4 := hid H6_4
      go_wp2_with fail
      refine (H6_4.out _ _ _ (Rd.own o_x)).mono ?_
      rintro e w5 ⟨rfl, b5⟩
      replace o_x := own_below o_x b5
      replace o_y := own_below o_y b5
      have B5 : Below w.heap.size w w5 := B4.trans (b5.mono B4.size)
      go_wp2
      go_ret
      exact ⟨rfl, B5⟩
    · have k1 := within_self xs
      replace v1 : relValid xs = false := by simpa using v1
      rw [v1] at k1
      replace k1 := hid k1
      replace v1 := hid v1
      have H6_1 := fun (w : World) (a1 a2 : Option Addr) (c1 c2 : Nat) (h1 : Rd w a1 (ints xs)) (h2 : Rd w a2 (ints ys)) => implWithin_c w a1 a2 c1 c2 xs ys h1 h2 (by omega) (by omega)
      rw [k.out] at H6_1
      replace H6_1 := hid H6_1
      go_wp2_with fail
      refine (H6_1.out _ _ _ _ _ (Rd.own o_x) (Rd.own o_y)).mono ?_
      rintro e w2 ⟨rfl, b2⟩
      replace o_x := own_below o_x b2
      replace o_y := own_below o_y b2
      have B2 : Below w.heap.size w w2 := B1.trans (b2.mono B1.size)
      have H6_2 := fun (w : World) (a1 a2 : Option Addr) (c1 c2 : Nat) (h1 : Rd w a1 (ints xs)) (h2 : Rd w a2 (ints ys)) => specWithin_c w a1 a2 c1 c2 xs ys h1 h2 (by omega) (by omega)
      rw [k.out] at H6_2
      replace H6_2 := hid H6_2
      go_wp2_with fail
      refine (H6_2.out _ _ _ _ _ (Rd.own o_x) (Rd.own o_y)).mono ?_
      rintro e w3 ⟨rfl, b3⟩
      replace o_x := own_below o_x b3
      replace o_y := own_below o_y b3
      have B3 : Below w.heap.size w w3 := B2.trans (b3.mono B2.size)
      have H6_3 := fun (w : World) (a1 a2 : Option Addr) (c1 c2 : Nat) (h1 : Rd w a1 (ints xs)) (h2 : Rd w a2 (ints xs)) => implWithin_c w a1 a2 c1 c2 xs xs h1 h2 (by omega) (by omega)
      rw [k1.out] at H6_3
      replace H6_3 := hid H6_3
      go_wp2_with fail
      refine (H6_3.out _ _ _ _ _ (Rd.own o_x) (Rd.own o_x)).mono ?_
      rintro e w4 ⟨rfl, b4⟩
      replace o_x := own_below o_x b4
      replace o_y := own_below o_y b4
      have B4 : Below w.heap.size w w4 := B3.trans (b4.mono B3.size)
      have H6_4 := fun (w : World) (a1 : Option Addr) (c1 : Nat) (h1 : Rd w a1 (ints xs)) => relValidI_c w a1 c1 xs h1 (by omega)
      rw [v1.out] at H6_4
      replace H6_4 := hid H6_4
      go_wp2_with fail
      refine (H6_4.out _ _ _ (Rd.own o_x)).mono ?_
      rintro e w5 ⟨rfl, b5⟩
      replace o_x := own_below o_x b5
      replace o_y := own_below o_y b5
      have B5 : Below w.heap.size w w5 := B4.trans (b5.mono B4.size)
      go_wp2
      go_ret
      exact ⟨rfl, B5⟩

theorem walk (w : World) (a0 : Option Addr) (cap0 : Nat) (bs0 : List Int) (h0 : Rd w a0 (bytes bs0)) (f0 : ∀ n ∈ bs0, (Lit.int .u8 n).wf = true) (d0 : bs0.length ≤ cap0 ∧ cap0 ≤ 9223372036854775807) :
    Calls Try.prog 11 #[.slice a0 bs0.length cap0] w fun e w' => e = .returned (.bool true) ∧ Below w.heap.size w w' := by
  by_cases hb : 1048576 < bs0.length
  · exact walkBig w a0 cap0 bs0 h0 f0 d0 hb
  · exact walkSmall w a0 cap0 bs0 h0 f0 d0 (by omega)

set_option maxRecDepth 100000 in
theorem lifted (os : Os) (started : os.Started) (H : Type) (enc : TypeId × Value → H) :
    ReturnsInHanded {} Try.checked os 11 .any (Rows.fnWithinRelSpec.pre6 enc Try.prog Try.f11 Rows.fnWithinRelRow.domain false) (Rows.fnWithinRelSpec.post enc Try.prog Try.f11 false true false false) := by
  refine returnsInHanded_of_change (C := Try.checked) own started (by kernel_rfl) Try.func11
    (ChangeSpec.witness6 (enc := enc) (C := Try.checked) false ⟨#[], #[.slice none 0 0], []⟩ 8 (by kernel_rfl) (by kernel_rfl) (by kernel_rfl) (by kernel_rfl)) ?_
  intro W base args ds gs before hval0 hW hcnd _
  have hval : ∀ (j : Nat) t v, Try.f11.params[j]? = some t → args[j]? = some v → Value.okWide Try.prog W .any base t v := hval0
  have hW' := hW
  obtain ⟨p, q, hA0, hV, rfl, hfz, hnd⟩ := hW
  have hA : DataW.TrodAll enc Try.prog W 0 (fun _ => true) true Try.f11.params.toList args.toList ds p := hA0
  rw [Try.params11] at hA hval
  obtain ⟨v0, vs0, d0, ds0, p0, q0, hargs, rfl, rfl, h0, r0⟩ := trodAll_cons hA
  obtain ⟨rfl, rfl, rfl⟩ := trodAll_nil r0
  obtain rfl : args = #[v0] := by cases args; simp_all
  obtain ⟨rfl, rfl⟩ := trodVars_none hV
  obtain ⟨a0, len0, cap0, rfl⟩ := okWide_slice Try.underlying22 (hval 0 22 v0 rfl rfl)
  have k0 := h0
  have lt0 : ∀ x ∈ p0, x.block < W.heap.size := by obtain ⟨m, hm⟩ := k0; exact DataW.trod_lt m _ _ _ hm
  obtain ⟨z0, w0⟩ : ∃ zs, IsRow .u8 W a0 len0 cap0 zs := by
    obtain ⟨fuel, hf⟩ := h0
    rcases open_ints Try.underlying22 Try.underlying5 (by kernel_rfl) hf with ⟨hcs, _⟩ | ⟨x, l, c, zs, hcs, _, hl, hm, hz, _, hcell, hwz⟩
    · simp [Value.cells] at hcs
      obtain ⟨rfl, rfl, rfl⟩ := hcs
      exact ⟨[], .inl ⟨rfl, rfl, rfl, rfl⟩⟩
    · simp [Value.cells] at hcs
      obtain ⟨rfl, rfl, rfl⟩ := hcs
      exact ⟨zs, .inr ⟨_, rfl, hl, hm, by simpa using hz, hcell, hwz⟩⟩
  obtain ⟨x0, hx0, rd0, wf0⟩ := w0.rd
  subst hx0
  have bd0 := w0.cap
  clear hA0 hval0
  refine (walk W a0 cap0 x0 rd0 wf0 bd0).mono fun e W' ⟨he, bel⟩ => ?_
  subst he
  exact ⟨_, rfl, _, _, _, [], _, [], hW', trodAll_mk1 (shut_bool Try.underlying4 _), (trodAll_cons_mk (Below.trod laidOut (by kernel_rfl) (of_decide_eq_true (by kernel_rfl)) k0 bel lt0) trodAll_mk0), rfl, bel.frame _, fun h => by cases h⟩

theorem over : Rows.fnWithinRelRow.holds Try.pinned (OpenSpec.ofChange Rows.fnWithinRelSpec) :=
  OpenClaim.holds_of_wide 11 Try.f11 rfl rfl rfl rfl rfl rfl rfl ⟨rfl, rfl, rfl, rfl, rfl⟩ rfl rfl rfl rfl rfl (by kernel_rfl) Try.func11 (by kernel_rfl)
    (of_decide_eq_true (by kernel_rfl)) (by unfold Func.isWrapper; first | (rw [if_pos (by decide +kernel)]; kernel_rfl) | (rw [if_neg (by decide +kernel)]; exact ⟨rfl, rfl⟩))
    (fun os started H enc _ => lifted os started H enc)

theorem proved : Rows.FnWithinRelSaid := over
#print axioms proved
end Go.Proofs.Ytdppidhnlbfpmaa.fnWithinRel
