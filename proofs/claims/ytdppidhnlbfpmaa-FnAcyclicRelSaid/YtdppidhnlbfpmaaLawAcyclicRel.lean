/-
  PROVED HERE: laws.FnAcyclicRel returns true for every input, and each argument reads behind the call as it read before. CONDITIONS: none.
-/
import Derived.Test.YtdppidhnlbfpmaaWm
import Derived.Test.YtdppidhnlbfpmaaRelG
import Derived.Test.YtdppidhnlbfpmaaRelI
import Derived.Test.YtdppidhnlbfpmaaRelJ
import Derived.ShutString
import Derived.ChangeOld
namespace Go.Proofs.Ytdppidhnlbfpmaa.fnAcyclicRel
open Go.ChangeShapes Go.WideShapes Go.ChangeAt Go.RowKit
open Go.ChangeMaps (open_string shut_string)
set_option linter.unusedVariables false
open Go.Proofs.Ytdppidhnlbfpmaa
theorem own : ownKnob Try.prog.godebug = none := by kernel_rfl
theorem laidOut : laidOutB Try.prog = true := by kernel_rfl

theorem walkBig (w : World) (a0 : Option Addr) (cap0 : Nat) (bs0 : List Int) (h0 : Rd w a0 (bytes bs0)) (f0 : ∀ n ∈ bs0, (Lit.int .u8 n).wf = true) (d0 : bs0.length ≤ cap0 ∧ cap0 ≤ 9223372036854775807) (a1 : Option Addr) (cap1 : Nat) (bs1 : List Int) (h1 : Rd w a1 (bytes bs1)) (f1 : ∀ n ∈ bs1, (Lit.int .u8 n).wf = true) (d1 : bs1.length ≤ cap1 ∧ cap1 ≤ 9223372036854775807) (hb : 1048576 < bs0.length ∨ 1048576 < bs1.length) :
    Calls Try.prog 7 #[.slice a0 bs0.length cap0, .slice a1 bs1.length cap1] w fun e w' => e = .returned (.bool true) ∧ Below w.heap.size w w' := by
  clear h0 f0 d0
  clear h1 f1 d1
  by_cases hc : 1048576 < bs0.length
  · have g : (1048576 : Int) < bs0.length := by omega
    clear hb hc
    go_enter Try.func7, Try.ntmps7
    go_wp2
    go_ret
    exact ⟨rfl, Below.refl _ _⟩
  · have g : decide ((1048576 : Int) < bs0.length) = false := by simp; omega
    have g1 : (1048576 : Int) < bs1.length := by omega
    clear hb hc
    go_enter Try.func7, Try.ntmps7
    go_wp2
    go_ret
    exact ⟨rfl, Below.refl _ _⟩

set_option maxHeartbeats 1600000 in
theorem walkSmall (w : World) (a0 : Option Addr) (cap0 : Nat) (bs0 : List Int) (h0 : Rd w a0 (bytes bs0)) (f0 : ∀ n ∈ bs0, (Lit.int .u8 n).wf = true) (d0 : bs0.length ≤ cap0 ∧ cap0 ≤ 9223372036854775807) (a1 : Option Addr) (cap1 : Nat) (bs1 : List Int) (h1 : Rd w a1 (bytes bs1)) (f1 : ∀ n ∈ bs1, (Lit.int .u8 n).wf = true) (d1 : bs1.length ≤ cap1 ∧ cap1 ≤ 9223372036854775807) (s0 : bs0.length ≤ 1048576) (s1 : bs1.length ≤ 1048576) :
    Calls Try.prog 7 #[.slice a0 bs0.length cap0, .slice a1 bs1.length cap1] w fun e w' => e = .returned (.bool true) ∧ Below w.heap.size w w' := by
  have g0 : decide ((1048576 : Int) < bs0.length) = false := by simp; omega
  have g1 : decide ((1048576 : Int) < bs1.length) = false := by simp; omega
  have DA0 : DrawArgs w a0 cap0 bs0 := ⟨h0, byte_wf f0, s0, d0.1, d0.2⟩
  have CD0 := hid (fun (w1 : World) (hb : Below w.heap.size w w1) => drawAcyclicRel_c w1 a0 cap0 bs0 (DA0.below hb))
  have DA1 : DrawArgs w a1 cap1 bs1 := ⟨h1, byte_wf f1, s1, d1.1, d1.2⟩
  have CD1 := hid (fun (w1 : World) (hb : Below w.heap.size w w1) => drawRelValid_c w1 a1 cap1 bs1 (DA1.below hb))
  clear h0 f0 d0 s0 DA0 h1 f1 d1 s1 DA1
  have B0 : Below w.heap.size w w := Below.refl _ _
  go_enter Try.func7, Try.ntmps7
  go_wp2_with fail
  refine (CD0.out _ B0).mono ?_
  rintro e w1 ⟨xs, ⟨a_x, c_x, rfl, o_x, b1⟩, l_xs⟩
  replace o_x := own_up o_x B0.size
  have B1 : Below w.heap.size w w1 := B0.trans (b1.mono B0.size)
  by_cases v1 : relValid xs = true
  · by_cases k : acyclicF xs = true
    · skip
      replace v1 := hid v1
      replace k := hid k
      have H6_1 := fun (w : World) (a1 : Option Addr) (c1 : Nat) (h1 : Rd w a1 (ints xs)) => implAcyclic_c w a1 c1 xs h1 (by omega)
      rw [k.out] at H6_1
      replace H6_1 := hid H6_1
      go_wp2_with fail
      refine (H6_1.out _ _ _ (Rd.own o_x)).mono ?_
      rintro e w2 ⟨rfl, b2⟩
      replace o_x := own_below o_x b2
      have B2 : Below w.heap.size w w2 := B1.trans (b2.mono B1.size)
      have H6_2 := fun (w : World) (a1 : Option Addr) (c1 : Nat) (h1 : Rd w a1 (ints xs)) => specAcyclic_c w a1 c1 xs h1 (by omega)
      rw [k.out] at H6_2
      replace H6_2 := hid H6_2
      go_wp2_with fail
      refine (H6_2.out _ _ _ (Rd.own o_x)).mono ?_
      rintro e w3 ⟨rfl, b3⟩
      replace o_x := own_below o_x b3
      have B3 : Below w.heap.size w w3 := B2.trans (b3.mono B2.size)
      have H6_3 := fun (w : World) (a1 : Option Addr) (c1 : Nat) (h1 : Rd w a1 (ints xs)) => relValidI_c w a1 c1 xs h1 (by omega)
      rw [v1.out] at H6_3
      replace H6_3 := hid H6_3
      go_wp2_with fail
      refine (H6_3.out _ _ _ (Rd.own o_x)).mono ?_
      rintro e w4 ⟨rfl, b4⟩
      replace o_x := own_below o_x b4
      have B4 : Below w.heap.size w w4 := B3.trans (b4.mono B3.size)
      go_wp2_with fail
      refine (CD1.out _ B4).mono ?_
      rintro e w5 ⟨ys, ⟨a_y, c_y, rfl, o_y, b5⟩, l_ys⟩
      replace o_y := own_up o_y B4.size
      replace o_x := own_below o_x b5
      have B5 : Below w.heap.size w w5 := B4.trans (b5.mono B4.size)
      obtain ⟨ms, h_ms⟩ : ∃ z, z = lift2 meetN xs ys := ⟨_, rfl⟩
      have l_ms : ms.length ≤ 1048576 := by rw [h_ms]; exact length_lift2 (fun us vs h => Nat.le_of_eq (length_meet h)) _ _
      replace h_ms := hid h_ms
      obtain ⟨cs, h_cs⟩ : ∃ z, z = lift1 closureN xs := ⟨_, rfl⟩
      have l_cs : cs.length ≤ 1048576 := by rw [h_cs]; exact length_lift1 (fun us h => Nat.le_of_eq (length_closureN us)) _
      replace h_cs := hid h_cs
      obtain ⟨is, h_is⟩ : ∃ z, z = lift1 inverseN xs := ⟨_, rfl⟩
      have l_is : is.length ≤ 1048576 := by rw [h_is]; exact length_lift1 (fun us h => Nat.le_of_eq (length_inverse us)) _
      replace h_is := hid h_is
      have E1 := acyclic_closure v1.out
      have E2 := acyclic_inverse v1.out
      rw [← h_cs.out, k.out] at E1
      rw [← h_is.out, k.out] at E2
      replace E1 := hid E1
      replace E2 := hid E2
      have H6_4 := fun (w : World) (a1 a2 : Option Addr) (c1 c2 : Nat) (h1 : Rd w a1 (ints xs)) (h2 : Rd w a2 (ints ys)) => implMeet_c w a1 a2 c1 c2 xs ys h1 h2 (by omega) (by omega)
      rw [← h_ms.out] at H6_4
      replace H6_4 := hid H6_4
      go_wp2_with fail
      refine (H6_4.out _ _ _ _ _ (Rd.own o_x) (Rd.own o_y)).mono ?_
      rintro e w6 ⟨a_m, c_m, rfl, o_m, b6⟩
      replace o_m := own_up o_m B5.size
      replace o_x := own_below o_x b6
      replace o_y := own_below o_y b6
      have B6 : Below w.heap.size w w6 := B5.trans (b6.mono B5.size)
      have H6_5 := fun (w : World) (a1 : Option Addr) (c1 : Nat) (h1 : Rd w a1 (ints xs)) => implClosure_c w a1 c1 xs h1 (by omega)
      rw [← h_cs.out] at H6_5
      replace H6_5 := hid H6_5
      go_wp2_with fail
      refine (H6_5.out _ _ _ (Rd.own o_x)).mono ?_
      rintro e w7 ⟨a_c, c_c, rfl, o_c, b7⟩
      replace o_c := own_up o_c B6.size
      replace o_x := own_below o_x b7
      replace o_m := own_below o_m b7
      have B7 : Below w.heap.size w w7 := B6.trans (b7.mono B6.size)
      have H6_6 := fun (w : World) (a1 : Option Addr) (c1 : Nat) (h1 : Rd w a1 (ints cs)) => implAcyclic_c w a1 c1 cs h1 l_cs
      rw [E1.out] at H6_6
      replace H6_6 := hid H6_6
      go_wp2_with fail
      refine (H6_6.out _ _ _ (Rd.own o_c)).mono ?_
      rintro e w8 ⟨rfl, b8⟩
      replace o_x := own_below o_x b8
      replace o_m := own_below o_m b8
      replace o_c := own_below o_c b8
      have B8 : Below w.heap.size w w8 := B7.trans (b8.mono B7.size)
      have H6_7 := fun (w : World) (a1 : Option Addr) (c1 : Nat) (h1 : Rd w a1 (ints xs)) => implInverse_c w a1 c1 xs h1 (by omega)
      rw [← h_is.out] at H6_7
      replace H6_7 := hid H6_7
      go_wp2_with fail
      refine (H6_7.out _ _ _ (Rd.own o_x)).mono ?_
      rintro e w9 ⟨a_i, c_i, rfl, o_i, b9⟩
      replace o_i := own_up o_i B8.size
      replace o_x := own_below o_x b9
      replace o_m := own_below o_m b9
      have B9 : Below w.heap.size w w9 := B8.trans (b9.mono B8.size)
      have H6_8 := fun (w : World) (a1 : Option Addr) (c1 : Nat) (h1 : Rd w a1 (ints is)) => implAcyclic_c w a1 c1 is h1 l_is
      rw [E2.out] at H6_8
      replace H6_8 := hid H6_8
      go_wp2_with fail
      refine (H6_8.out _ _ _ (Rd.own o_i)).mono ?_
      rintro e w10 ⟨rfl, b10⟩
      replace o_x := own_below o_x b10
      replace o_m := own_below o_m b10
      replace o_i := own_below o_i b10
      have B10 : Below w.heap.size w w10 := B9.trans (b10.mono B9.size)
      by_cases v2 : ms.length = xs.length
      · have ev2 : ((ms.length : Int) != xs.length) = false := by simp [v2]
        have iv2 : ((ms.length : Int) == xs.length) = true := by simp [v2]
        replace v2 := hid v2
        have E4 := hid (acyclic_meet (ys := ys) v1.out k.out (by rw [← h_ms.out]; exact v2.out))
        have H8_9 := fun (w : World) (a1 : Option Addr) (c1 : Nat) (h1 : Rd w a1 (ints ms)) => implAcyclic_c w a1 c1 ms h1 l_ms
        rw [(show acyclicF ms = true by rw [h_ms.out]; exact E4.out)] at H8_9
        replace H8_9 := hid H8_9
        go_wp2_with fail
        refine (H8_9.out _ _ _ (Rd.own o_m)).mono ?_
        rintro e w11 ⟨rfl, b11⟩
        replace o_x := own_below o_x b11
        replace o_m := own_below o_m b11
        have B11 : Below w.heap.size w w11 := B10.trans (b11.mono B10.size)
        go_wp2
        go_ret
        exact ⟨rfl, B11⟩
      · have ev2 : ((ms.length : Int) != xs.length) = true := by simp; omega
        have iv2 : ((ms.length : Int) == xs.length) = false := by simp; omega
        replace v2 := hid v2
        go_wp2
        go_ret
        exact ⟨rfl, B10⟩
    · skip
      replace v1 := hid v1
      replace k : acyclicF xs = false := by simpa using k
      replace k := hid k
      have H6_1 := fun (w : World) (a1 : Option Addr) (c1 : Nat) (h1 : Rd w a1 (ints xs)) => implAcyclic_c w a1 c1 xs h1 (by omega)
      rw [k.out] at H6_1
      replace H6_1 := hid H6_1
      go_wp2_with fail
      refine (H6_1.out _ _ _ (Rd.own o_x)).mono ?_
      rintro e w2 ⟨rfl, b2⟩
      replace o_x := own_below o_x b2
      have B2 : Below w.heap.size w w2 := B1.trans (b2.mono B1.size)
      have H6_2 := fun (w : World) (a1 : Option Addr) (c1 : Nat) (h1 : Rd w a1 (ints xs)) => specAcyclic_c w a1 c1 xs h1 (by omega)
      rw [k.out] at H6_2
      replace H6_2 := hid H6_2
      go_wp2_with fail
      refine (H6_2.out _ _ _ (Rd.own o_x)).mono ?_
      rintro e w3 ⟨rfl, b3⟩
      replace o_x := own_below o_x b3
      have B3 : Below w.heap.size w w3 := B2.trans (b3.mono B2.size)
      have H6_3 := fun (w : World) (a1 : Option Addr) (c1 : Nat) (h1 : Rd w a1 (ints xs)) => relValidI_c w a1 c1 xs h1 (by omega)
      rw [v1.out] at H6_3
      replace H6_3 := hid H6_3
      go_wp2_with fail
      refine (H6_3.out _ _ _ (Rd.own o_x)).mono ?_
      rintro e w4 ⟨rfl, b4⟩
      replace o_x := own_below o_x b4
      have B4 : Below w.heap.size w w4 := B3.trans (b4.mono B3.size)
      go_wp2_with fail
      refine (CD1.out _ B4).mono ?_
      rintro e w5 ⟨ys, ⟨a_y, c_y, rfl, o_y, b5⟩, l_ys⟩
      replace o_y := own_up o_y B4.size
      replace o_x := own_below o_x b5
      have B5 : Below w.heap.size w w5 := B4.trans (b5.mono B4.size)
      obtain ⟨ms, h_ms⟩ : ∃ z, z = lift2 meetN xs ys := ⟨_, rfl⟩
      have l_ms : ms.length ≤ 1048576 := by rw [h_ms]; exact length_lift2 (fun us vs h => Nat.le_of_eq (length_meet h)) _ _
      replace h_ms := hid h_ms
      obtain ⟨cs, h_cs⟩ : ∃ z, z = lift1 closureN xs := ⟨_, rfl⟩
      have l_cs : cs.length ≤ 1048576 := by rw [h_cs]; exact length_lift1 (fun us h => Nat.le_of_eq (length_closureN us)) _
      replace h_cs := hid h_cs
      obtain ⟨is, h_is⟩ : ∃ z, z = lift1 inverseN xs := ⟨_, rfl⟩
      have l_is : is.length ≤ 1048576 := by rw [h_is]; exact length_lift1 (fun us h => Nat.le_of_eq (length_inverse us)) _
      replace h_is := hid h_is
      have E1 := acyclic_closure v1.out
      have E2 := acyclic_inverse v1.out
      rw [← h_cs.out, k.out] at E1
      rw [← h_is.out, k.out] at E2
      replace E1 := hid E1
      replace E2 := hid E2
      have H6_4 := fun (w : World) (a1 a2 : Option Addr) (c1 c2 : Nat) (h1 : Rd w a1 (ints xs)) (h2 : Rd w a2 (ints ys)) => implMeet_c w a1 a2 c1 c2 xs ys h1 h2 (by omega) (by omega)
      rw [← h_ms.out] at H6_4
      replace H6_4 := hid H6_4
      go_wp2_with fail
      refine (H6_4.out _ _ _ _ _ (Rd.own o_x) (Rd.own o_y)).mono ?_
      rintro e w6 ⟨a_m, c_m, rfl, o_m, b6⟩
      replace o_m := own_up o_m B5.size
      replace o_x := own_below o_x b6
      replace o_y := own_below o_y b6
      have B6 : Below w.heap.size w w6 := B5.trans (b6.mono B5.size)
      have H6_5 := fun (w : World) (a1 : Option Addr) (c1 : Nat) (h1 : Rd w a1 (ints xs)) => implClosure_c w a1 c1 xs h1 (by omega)
      rw [← h_cs.out] at H6_5
      replace H6_5 := hid H6_5
      go_wp2_with fail
      refine (H6_5.out _ _ _ (Rd.own o_x)).mono ?_
      rintro e w7 ⟨a_c, c_c, rfl, o_c, b7⟩
      replace o_c := own_up o_c B6.size
      replace o_x := own_below o_x b7
      replace o_m := own_below o_m b7
      have B7 : Below w.heap.size w w7 := B6.trans (b7.mono B6.size)
      have H6_6 := fun (w : World) (a1 : Option Addr) (c1 : Nat) (h1 : Rd w a1 (ints cs)) => implAcyclic_c w a1 c1 cs h1 l_cs
      rw [E1.out] at H6_6
      replace H6_6 := hid H6_6
      go_wp2_with fail
      refine (H6_6.out _ _ _ (Rd.own o_c)).mono ?_
      rintro e w8 ⟨rfl, b8⟩
      replace o_x := own_below o_x b8
      replace o_m := own_below o_m b8
      replace o_c := own_below o_c b8
      have B8 : Below w.heap.size w w8 := B7.trans (b8.mono B7.size)
      have H6_7 := fun (w : World) (a1 : Option Addr) (c1 : Nat) (h1 : Rd w a1 (ints xs)) => implInverse_c w a1 c1 xs h1 (by omega)
      rw [← h_is.out] at H6_7
      replace H6_7 := hid H6_7
      go_wp2_with fail
      refine (H6_7.out _ _ _ (Rd.own o_x)).mono ?_
      rintro e w9 ⟨a_i, c_i, rfl, o_i, b9⟩
      replace o_i := own_up o_i B8.size
      replace o_x := own_below o_x b9
      replace o_m := own_below o_m b9
      have B9 : Below w.heap.size w w9 := B8.trans (b9.mono B8.size)
      have H6_8 := fun (w : World) (a1 : Option Addr) (c1 : Nat) (h1 : Rd w a1 (ints is)) => implAcyclic_c w a1 c1 is h1 l_is
      rw [E2.out] at H6_8
      replace H6_8 := hid H6_8
      go_wp2_with fail
      refine (H6_8.out _ _ _ (Rd.own o_i)).mono ?_
      rintro e w10 ⟨rfl, b10⟩
      replace o_x := own_below o_x b10
      replace o_m := own_below o_m b10
      replace o_i := own_below o_i b10
      have B10 : Below w.heap.size w w10 := B9.trans (b10.mono B9.size)
      go_wp2
      go_ret
      exact ⟨rfl, B10⟩
  · replace v1 : relValid xs = false := by simpa using v1
    have k := hid (acyclicF_no v1)
    replace v1 := hid v1
    have H4_1 := fun (w : World) (a1 : Option Addr) (c1 : Nat) (h1 : Rd w a1 (ints xs)) => implAcyclic_c w a1 c1 xs h1 (by omega)
    rw [k.out] at H4_1
    replace H4_1 := hid H4_1
    go_wp2_with fail
    refine (H4_1.out _ _ _ (Rd.own o_x)).mono ?_
    rintro e w2 ⟨rfl, b2⟩
    replace o_x := own_below o_x b2
    have B2 : Below w.heap.size w w2 := B1.trans (b2.mono B1.size)
    have H4_2 := fun (w : World) (a1 : Option Addr) (c1 : Nat) (h1 : Rd w a1 (ints xs)) => specAcyclic_c w a1 c1 xs h1 (by omega)
    rw [k.out] at H4_2
    replace H4_2 := hid H4_2
    go_wp2_with fail
    refine (H4_2.out _ _ _ (Rd.own o_x)).mono ?_
    rintro e w3 ⟨rfl, b3⟩
    replace o_x := own_below o_x b3
    have B3 : Below w.heap.size w w3 := B2.trans (b3.mono B2.size)
    have H4_3 := fun (w : World) (a1 : Option Addr) (c1 : Nat) (h1 : Rd w a1 (ints xs)) => relValidI_c w a1 c1 xs h1 (by omega)
    rw [v1.out] at H4_3
    replace H4_3 := hid H4_3
    go_wp2_with fail
    refine (H4_3.out _ _ _ (Rd.own o_x)).mono ?_
    rintro e w4 ⟨rfl, b4⟩
    replace o_x := own_below o_x b4
    have B4 : Below w.heap.size w w4 := B3.trans (b4.mono B3.size)
    have H4_4 := fun (w : World) (a1 : Option Addr) (c1 : Nat) (h1 : Rd w a1 (ints xs)) => specAcyclic_c w a1 c1 xs h1 (by omega)
    rw [k.out] at H4_4
    replace H4_4 := hid H4_4
    go_wp2_with fail
    refine (H4_4.out _ _ _ (Rd.own o_x)).mono ?_
    rintro e w5 ⟨rfl, b5⟩
    replace o_x := own_below o_x b5
    have B5 : Below w.heap.size w w5 := B4.trans (b5.mono B4.size)
    go_wp2
    go_ret
    exact ⟨rfl, B5⟩

theorem walk (w : World) (a0 : Option Addr) (cap0 : Nat) (bs0 : List Int) (h0 : Rd w a0 (bytes bs0)) (f0 : ∀ n ∈ bs0, (Lit.int .u8 n).wf = true) (d0 : bs0.length ≤ cap0 ∧ cap0 ≤ 9223372036854775807) (a1 : Option Addr) (cap1 : Nat) (bs1 : List Int) (h1 : Rd w a1 (bytes bs1)) (f1 : ∀ n ∈ bs1, (Lit.int .u8 n).wf = true) (d1 : bs1.length ≤ cap1 ∧ cap1 ≤ 9223372036854775807) :
    Calls Try.prog 7 #[.slice a0 bs0.length cap0, .slice a1 bs1.length cap1] w fun e w' => e = .returned (.bool true) ∧ Below w.heap.size w w' := by
  by_cases hb : 1048576 < bs0.length ∨ 1048576 < bs1.length
  · exact walkBig w a0 cap0 bs0 h0 f0 d0 a1 cap1 bs1 h1 f1 d1 hb
  · exact walkSmall w a0 cap0 bs0 h0 f0 d0 a1 cap1 bs1 h1 f1 d1 (by omega) (by omega)

set_option maxRecDepth 100000 in
theorem lifted (os : Os) (started : os.Started) (H : Type) (enc : TypeId × Value → H) :
    ReturnsInHanded {} Try.checked os 7 .any (Rows.fnAcyclicRelSpec.pre6 enc Try.prog Try.f7 Rows.fnAcyclicRelRow.domain false) (Rows.fnAcyclicRelSpec.post enc Try.prog Try.f7 false true false false) := by
  refine returnsInHanded_of_change (C := Try.checked) own started (by kernel_rfl) Try.func7
    (ChangeSpec.witness6 (enc := enc) (C := Try.checked) false ⟨#[], #[.slice none 0 0, .slice none 0 0], []⟩ 8 (by kernel_rfl) (by kernel_rfl) (by kernel_rfl) (by kernel_rfl)) ?_
  intro W base args ds gs before hval0 hW hcnd _
  have hval : ∀ (j : Nat) t v, Try.f7.params[j]? = some t → args[j]? = some v → Value.okWide Try.prog W .any base t v := hval0
  have hW' := hW
  obtain ⟨p, q, hA0, hV, rfl, hfz, hnd⟩ := hW
  have hA : DataW.TrodAll enc Try.prog W 0 (fun _ => true) true Try.f7.params.toList args.toList ds p := hA0
  rw [Try.params7] at hA hval
  obtain ⟨v0, vs0, d0, ds0, p0, q0, hargs, rfl, rfl, h0, r0⟩ := trodAll_cons hA
  obtain ⟨v1, vs1, d1, ds1, p1, q1, rfl, rfl, rfl, h1, r1⟩ := trodAll_cons r0
  obtain ⟨rfl, rfl, rfl⟩ := trodAll_nil r1
  obtain rfl : args = #[v0, v1] := by cases args; simp_all
  obtain ⟨rfl, rfl⟩ := trodVars_none hV
  obtain ⟨a0, len0, cap0, rfl⟩ := okWide_slice Try.underlying22 (hval 0 22 v0 rfl rfl)
  have k0 := h0
  have lt0 : ∀ x ∈ p0, x.block < W.heap.size := by obtain ⟨m, hm⟩ := k0; exact DataW.trod_lt m _ _ _ hm
  obtain ⟨z0, w0⟩ : ∃ zs, IsRow .u8 W a0 len0 cap0 zs := by
    obtain ⟨fuel, hf⟩ := h0
    rcases open_ints Try.underlying22 Try.underlying5 (by kernel_rfl) hf with ⟨hcs, _⟩ | ⟨x, l, c, zs, hcs, _, hl, hm, hz, _, hcell, hwz⟩
    · simp [Value.cells] at hcs
      obtain ⟨rfl, rfl, rfl⟩ := hcs
      exact ⟨[], .inl ⟨rfl, rfl, rfl, rfl⟩⟩
    · simp [Value.cells] at hcs
      obtain ⟨rfl, rfl, rfl⟩ := hcs
      exact ⟨zs, .inr ⟨_, rfl, hl, hm, by simpa using hz, hcell, hwz⟩⟩
  obtain ⟨x0, hx0, rd0, wf0⟩ := w0.rd
  subst hx0
  have bd0 := w0.cap
  obtain ⟨a1, len1, cap1, rfl⟩ := okWide_slice Try.underlying22 (hval 1 22 v1 rfl rfl)
  have k1 := h1
  have lt1 : ∀ x ∈ p1, x.block < W.heap.size := by obtain ⟨m, hm⟩ := k1; exact DataW.trod_lt m _ _ _ hm
  obtain ⟨z1, w1⟩ : ∃ zs, IsRow .u8 W a1 len1 cap1 zs := by
    obtain ⟨fuel, hf⟩ := h1
    rcases open_ints Try.underlying22 Try.underlying5 (by kernel_rfl) hf with ⟨hcs, _⟩ | ⟨x, l, c, zs, hcs, _, hl, hm, hz, _, hcell, hwz⟩
    · simp [Value.cells] at hcs
      obtain ⟨rfl, rfl, rfl⟩ := hcs
      exact ⟨[], .inl ⟨rfl, rfl, rfl, rfl⟩⟩
    · simp [Value.cells] at hcs
      obtain ⟨rfl, rfl, rfl⟩ := hcs
      exact ⟨zs, .inr ⟨_, rfl, hl, hm, by simpa using hz, hcell, hwz⟩⟩
  obtain ⟨x1, hx1, rd1, wf1⟩ := w1.rd
  subst hx1
  have bd1 := w1.cap
  clear hA0 hval0
  refine (walk W a0 cap0 x0 rd0 wf0 bd0 a1 cap1 x1 rd1 wf1 bd1).mono fun e W' ⟨he, bel⟩ => ?_
  subst he
  exact ⟨_, rfl, _, _, _, [], _, [], hW', trodAll_mk1 (shut_bool Try.underlying4 _), (trodAll_cons_mk (Below.trod laidOut (by kernel_rfl) (of_decide_eq_true (by kernel_rfl)) k0 bel lt0) (trodAll_cons_mk (Below.trod laidOut (by kernel_rfl) (of_decide_eq_true (by kernel_rfl)) k1 bel lt1) trodAll_mk0)), rfl, bel.frame _, fun h => by cases h⟩

theorem over : Rows.fnAcyclicRelRow.holds Try.pinned (OpenSpec.ofChange Rows.fnAcyclicRelSpec) :=
  OpenClaim.holds_of_wide 7 Try.f7 rfl rfl rfl rfl rfl rfl rfl ⟨rfl, rfl, rfl, rfl, rfl⟩ rfl rfl rfl rfl rfl (by kernel_rfl) Try.func7 (by kernel_rfl)
    (of_decide_eq_true (by kernel_rfl)) (by unfold Func.isWrapper; first | (rw [if_pos (by decide +kernel)]; kernel_rfl) | (rw [if_neg (by decide +kernel)]; exact ⟨rfl, rfl⟩))
    (fun os started H enc _ => lifted os started H enc)

theorem proved : Rows.FnAcyclicRelSaid := over
#print axioms proved
end Go.Proofs.Ytdppidhnlbfpmaa.fnAcyclicRel
