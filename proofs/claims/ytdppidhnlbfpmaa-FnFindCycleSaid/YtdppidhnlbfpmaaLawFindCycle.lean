/-
  PROVED HERE: laws.FnFindCycle returns true for every input, and each argument reads behind the call as it read before. CONDITIONS: none.
-/
import Derived.Test.YtdppidhnlbfpmaaWmIn
import Derived.Test.YtdppidhnlbfpmaaRelN
import Derived.ShutString
import Derived.ChangeOld
namespace Go.Proofs.Ytdppidhnlbfpmaa.fnFindCycle
open Go.ChangeShapes Go.WideShapes Go.ChangeAt Go.RowKit
open Go.ChangeMaps (open_string shut_string)
set_option linter.unusedVariables false
open Go.Proofs.Ytdppidhnlbfpmaa
theorem own : ownKnob Try.prog.godebug = none := by kernel_rfl
theorem laidOut : laidOutB Try.prog = true := by kernel_rfl

theorem walkBig (w : World) (a0 : Option Addr) (cap0 : Nat) (bs0 : List Int) (h0 : Rd w a0 (bytes bs0)) (f0 : ∀ n ∈ bs0, (Lit.int .u8 n).wf = true) (d0 : bs0.length ≤ cap0 ∧ cap0 ≤ 9223372036854775807) (hb : 1048576 < bs0.length) :
    Calls Try.prog 13 #[.slice a0 bs0.length cap0] w fun e w' => e = .returned (.bool true) ∧ Below w.heap.size w w' := by
  clear h0 f0 d0
  have g : (1048576 : Int) < bs0.length := by omega
  go_enter Try.func13, Try.ntmps13
  go_wp2
  go_ret
  exact ⟨rfl, Below.refl _ _⟩

set_option maxHeartbeats 1600000 in
theorem walkSmall (w : World) (a0 : Option Addr) (cap0 : Nat) (bs0 : List Int) (h0 : Rd w a0 (bytes bs0)) (f0 : ∀ n ∈ bs0, (Lit.int .u8 n).wf = true) (d0 : bs0.length ≤ cap0 ∧ cap0 ≤ 9223372036854775807) (s0 : bs0.length ≤ 1048576) :
    Calls Try.prog 13 #[.slice a0 bs0.length cap0] w fun e w' => e = .returned (.bool true) ∧ Below w.heap.size w w' := by
  have g0 : decide ((1048576 : Int) < bs0.length) = false := by simp; omega
  have DA0 : DrawArgs w a0 cap0 bs0 := ⟨h0, byte_wf f0, s0, d0.1, d0.2⟩
  have CD0 := hid (fun (w1 : World) (hb : Below w.heap.size w w1) => drawFindCycle_c w1 a0 cap0 bs0 (DA0.below hb))
  clear h0 f0 d0 s0 DA0
  have B0 : Below w.heap.size w w := Below.refl _ _
  go_enter Try.func13, Try.ntmps13
  go_wp2_with fail
  refine (CD0.out _ B0).mono ?_
  rintro e w1 ⟨xs, ⟨a_x, c_x, rfl, o_x, b1⟩, l_xs⟩
  replace o_x := own_up o_x B0.size
  have B1 : Below w.heap.size w w1 := B0.trans (b1.mono B0.size)
  obtain ⟨cs, h_cs⟩ : ∃ z, z = lift1 cycleN xs := ⟨_, rfl⟩
  have l_cs : cs.length ≤ 1048576 := by rw [h_cs]; exact length_cycle _
  replace h_cs := hid h_cs
  by_cases v1 : relValid xs = true
  · have HOK := hid (ok_of_valid v1)
    by_cases k : acyclicF xs = true
    · skip
      have z0 : ((cs.length : Int) == 0) = true := by
        obtain ⟨us, hu, ho⟩ := HOK.out
        have e := h_cs.out
        rw [hu, l1 ho] at e
        rw [hu, acyclicF_yes ho] at k
        rw [e, (cycle_law ho).2.2 k]; rfl
      replace k := hid k
      have v := hid v1
      clear v1
      have H6_1 := fun (w : World) (a1 : Option Addr) (c1 : Nat) (h1 : Rd w a1 (ints xs)) => implFind_c w a1 c1 xs h1 (by omega)
      rw [← h_cs.out] at H6_1
      replace H6_1 := hid H6_1
      go_wp2_with fail
      refine (H6_1.out _ _ _ (Rd.own o_x)).mono ?_
      rintro e w2 ⟨a_c, c_c, rfl, o_c, b2⟩
      replace o_c := own_up o_c B1.size
      replace o_x := own_below o_x b2
      have B2 : Below w.heap.size w w2 := B1.trans (b2.mono B1.size)
      have H6_2 := fun (w : World) (a1 : Option Addr) (c1 : Nat) (h1 : Rd w a1 (ints xs)) => implAcyclic_c w a1 c1 xs h1 (by omega)
      rw [k.out] at H6_2
      replace H6_2 := hid H6_2
      go_wp2_with fail
      refine (H6_2.out _ _ _ (Rd.own o_x)).mono ?_
      rintro e w3 ⟨rfl, b3⟩
      replace o_x := own_below o_x b3
      replace o_c := own_below o_c b3
      have B3 : Below w.heap.size w w3 := B2.trans (b3.mono B2.size)
      have H6_3 := fun (w : World) (a1 : Option Addr) (c1 : Nat) (h1 : Rd w a1 (ints xs)) => specFind_c w a1 c1 xs h1 (by omega)
      rw [← h_cs.out] at H6_3
      replace H6_3 := hid H6_3
      go_wp2_with fail
      refine (H6_3.out _ _ _ (Rd.own o_x)).mono ?_
      rintro e w4 ⟨a_c2, c_c2, rfl, o_c2, b4⟩
      replace o_c2 := own_up o_c2 B3.size
      replace o_x := own_below o_x b4
      replace o_c := own_below o_c b4
      have B4 : Below w.heap.size w w4 := B3.trans (b4.mono B3.size)
      have H6_4 := hid (fun (w : World) (a1 a2 : Option Addr) (c1 c2 : Nat) (h1 : Rd w a1 (ints cs)) (h2 : Rd w a2 (ints cs)) => wmSame_c w a1 a2 c1 c2 cs h1 h2 l_cs)
      go_wp2_with fail
      refine (H6_4.out _ _ _ _ _ (Rd.own o_c) (Rd.own o_c2)).mono ?_
      rintro e w5 ⟨rfl, b5⟩
      replace o_x := own_below o_x b5
      replace o_c := own_below o_c b5
      replace o_c2 := own_below o_c2 b5
      have B5 : Below w.heap.size w w5 := B4.trans (b5.mono B4.size)
      have H6_5 := fun (w : World) (a1 : Option Addr) (c1 : Nat) (h1 : Rd w a1 (ints xs)) => specAcyclic_c w a1 c1 xs h1 (by omega)
      rw [k.out] at H6_5
      replace H6_5 := hid H6_5
      go_wp2_with fail
      refine (H6_5.out _ _ _ (Rd.own o_x)).mono ?_
      rintro e w6 ⟨rfl, b6⟩
      replace o_x := own_below o_x b6
      replace o_c := own_below o_c b6
      have B6 : Below w.heap.size w w6 := B5.trans (b6.mono B5.size)
      have H6_6 := fun (w : World) (a1 : Option Addr) (c1 : Nat) (h1 : Rd w a1 (ints xs)) => relValidI_c w a1 c1 xs h1 (by omega)
      rw [v.out] at H6_6
      replace H6_6 := hid H6_6
      go_wp2_with fail
      refine (H6_6.out _ _ _ (Rd.own o_x)).mono ?_
      rintro e w7 ⟨rfl, b7⟩
      replace o_x := own_below o_x b7
      replace o_c := own_below o_c b7
      have B7 : Below w.heap.size w w7 := B6.trans (b7.mono B6.size)
      have HC := hid (Rd.own o_c)
      have HX := hid (Rd.own o_x)
      have HCC := hid (own_cap o_c)
      clear o_c o_x
      go_wp2
      go_loopw [6] (fun i wr => ∃ k : Nat, k ≤ cs.length ∧ i = .int .i64 k ∧ Below w7.heap.size w7 wr) (fun i _ => cs.length - (intOf i).toNat)
      case atStart => exact ⟨0, Nat.zero_le _, rfl, Below.refl _ _⟩
      case round =>
        obtain ⟨k, hk, rfl, hbel⟩ := hrel
        by_cases hlt : k < cs.length
        · obtain ⟨us, hu, ho⟩ := HOK.out
          obtain ⟨x, y, r, e1, e2, e3, hx, hy, hr, hbit, hin⟩ := cyc_at ho hu (by rw [h_cs.out, hu, l1 ho]) k hlt
          clear hu ho us
          have hR := HC.out.below hbel
          have hm : (k + 1) % cs.length < cs.length := Nat.mod_lt _ (by omega)
          obtain ⟨b, off, ea, hb, hc1⟩ := hR.int k hlt
          obtain ⟨b', off', ea', hb', hc2⟩ := hR.int _ hm
          obtain ⟨b3, off3, ea3, hb3, hc3⟩ := (HX.out.below hbel).int x hx
          rw [List.getElem?_eq_getElem hlt] at e1
          rw [List.getElem?_eq_getElem hm] at e2
          rw [List.getElem?_eq_getElem hx] at e3
          simp only [Option.some.injEq] at e1 e2 e3
          rw [e1] at hc1
          rw [e2] at hc2
          rw [e3] at hc3
          clear e1 e2 e3
          subst ea
          cases ea'
          subst ea3
          have HIN := hid hin
          have HT := hid (rd_take hR k)
          have hkl : (cs.take k).length = k := by rw [List.length_take]; omega
          have HW := fun (W : World) h => wmInNo_c W (some ⟨b, off, none⟩) c_c (cs.take k) (x : Int) h (by omega) hin
          rw [hkl] at HW
          replace HW := hid HW
          have hcap : k ≤ c_c := by have := HCC.out; omega
          clear hin hkl hR
          have q1 : ((k : Int) + 1) % cs.length < cs.length := Int.emod_lt_of_pos _ (by omega)
          have q2 : (0 : Int) ≤ ((k : Int) + 1) % cs.length := Int.emod_nonneg _ (by omega)
          have q3 : (1 : Int) ≤ cs.length := by omega
          have q4 : decide ((x : Int) < 0) = false := by simp
          have q5 : decide ((xs.length : Int) ≤ x) = false := by simp; omega
          have q6 : (k : Int) < cs.length := by omega
          have q7 : (x : Int) < xs.length := by omega
          go_wp2_with fail
          go_quiet ((go_at_call 46; exact Calls.quiet_of_same (HW.out _ (Rd.drewN _ HT.out))))
          go_wp2
          go_roundw
          case rel => exact ⟨k + 1, by omega, by go_num, below_drewN _ hbel⟩
          case measure => simp [intOf]; omega
        · go_wp2
          go_ret
          exact ⟨rfl, B7.trans (hbel.mono B7.size)⟩
    · skip
      replace k : acyclicF xs = false := by simpa using k
      have z0 : ((cs.length : Int) == 0) = false := by
        obtain ⟨us, hu, ho⟩ := HOK.out
        have e := h_cs.out
        rw [hu, l1 ho] at e
        rw [hu, acyclicF_yes ho] at k
        have hne : cycleN us ≠ [] := fun e0 => by rw [(cycle_law ho).2.1 e0] at k; cases k
        have hp := List.length_pos_iff.2 hne
        rw [e, length_castI]
        simp; omega
      replace k := hid k
      have v := hid v1
      clear v1
      have H6_1 := fun (w : World) (a1 : Option Addr) (c1 : Nat) (h1 : Rd w a1 (ints xs)) => implFind_c w a1 c1 xs h1 (by omega)
      rw [← h_cs.out] at H6_1
      replace H6_1 := hid H6_1
      go_wp2_with fail
      refine (H6_1.out _ _ _ (Rd.own o_x)).mono ?_
      rintro e w2 ⟨a_c, c_c, rfl, o_c, b2⟩
      replace o_c := own_up o_c B1.size
      replace o_x := own_below o_x b2
      have B2 : Below w.heap.size w w2 := B1.trans (b2.mono B1.size)
      have H6_2 := fun (w : World) (a1 : Option Addr) (c1 : Nat) (h1 : Rd w a1 (ints xs)) => implAcyclic_c w a1 c1 xs h1 (by omega)
      rw [k.out] at H6_2
      replace H6_2 := hid H6_2
      go_wp2_with fail
      refine (H6_2.out _ _ _ (Rd.own o_x)).mono ?_
      rintro e w3 ⟨rfl, b3⟩
      replace o_x := own_below o_x b3
      replace o_c := own_below o_c b3
      have B3 : Below w.heap.size w w3 := B2.trans (b3.mono B2.size)
      have H6_3 := fun (w : World) (a1 : Option Addr) (c1 : Nat) (h1 : Rd w a1 (ints xs)) => specFind_c w a1 c1 xs h1 (by omega)
      rw [← h_cs.out] at H6_3
      replace H6_3 := hid H6_3
      go_wp2_with fail
      refine (H6_3.out _ _ _ (Rd.own o_x)).mono ?_
      rintro e w4 ⟨a_c2, c_c2, rfl, o_c2, b4⟩
      replace o_c2 := own_up o_c2 B3.size
      replace o_x := own_below o_x b4
      replace o_c := own_below o_c b4
      have B4 : Below w.heap.size w w4 := B3.trans (b4.mono B3.size)
      have H6_4 := hid (fun (w : World) (a1 a2 : Option Addr) (c1 c2 : Nat) (h1 : Rd w a1 (ints cs)) (h2 : Rd w a2 (ints cs)) => wmSame_c w a1 a2 c1 c2 cs h1 h2 l_cs)
      go_wp2_with fail
      refine (H6_4.out _ _ _ _ _ (Rd.own o_c) (Rd.own o_c2)).mono ?_
      rintro e w5 ⟨rfl, b5⟩
      replace o_x := own_below o_x b5
      replace o_c := own_below o_c b5
      replace o_c2 := own_below o_c2 b5
      have B5 : Below w.heap.size w w5 := B4.trans (b5.mono B4.size)
      have H6_5 := fun (w : World) (a1 : Option Addr) (c1 : Nat) (h1 : Rd w a1 (ints xs)) => specAcyclic_c w a1 c1 xs h1 (by omega)
      rw [k.out] at H6_5
      replace H6_5 := hid H6_5
      go_wp2_with fail
      refine (H6_5.out _ _ _ (Rd.own o_x)).mono ?_
      rintro e w6 ⟨rfl, b6⟩
      replace o_x := own_below o_x b6
      replace o_c := own_below o_c b6
      have B6 : Below w.heap.size w w6 := B5.trans (b6.mono B5.size)
      have H6_6 := fun (w : World) (a1 : Option Addr) (c1 : Nat) (h1 : Rd w a1 (ints xs)) => relValidI_c w a1 c1 xs h1 (by omega)
      rw [v.out] at H6_6
      replace H6_6 := hid H6_6
      go_wp2_with fail
      refine (H6_6.out _ _ _ (Rd.own o_x)).mono ?_
      rintro e w7 ⟨rfl, b7⟩
      replace o_x := own_below o_x b7
      replace o_c := own_below o_c b7
      have B7 : Below w.heap.size w w7 := B6.trans (b7.mono B6.size)
      have HC := hid (Rd.own o_c)
      have HX := hid (Rd.own o_x)
      have HCC := hid (own_cap o_c)
      clear o_c o_x
      go_wp2
      go_loopw [6] (fun i wr => ∃ k : Nat, k ≤ cs.length ∧ i = .int .i64 k ∧ Below w7.heap.size w7 wr) (fun i _ => cs.length - (intOf i).toNat)
      case atStart => exact ⟨0, Nat.zero_le _, rfl, Below.refl _ _⟩
      case round =>
        obtain ⟨k, hk, rfl, hbel⟩ := hrel
        by_cases hlt : k < cs.length
        · obtain ⟨us, hu, ho⟩ := HOK.out
          obtain ⟨x, y, r, e1, e2, e3, hx, hy, hr, hbit, hin⟩ := cyc_at ho hu (by rw [h_cs.out, hu, l1 ho]) k hlt
          clear hu ho us
          have hR := HC.out.below hbel
          have hm : (k + 1) % cs.length < cs.length := Nat.mod_lt _ (by omega)
          obtain ⟨b, off, ea, hb, hc1⟩ := hR.int k hlt
          obtain ⟨b', off', ea', hb', hc2⟩ := hR.int _ hm
          obtain ⟨b3, off3, ea3, hb3, hc3⟩ := (HX.out.below hbel).int x hx
          rw [List.getElem?_eq_getElem hlt] at e1
          rw [List.getElem?_eq_getElem hm] at e2
          rw [List.getElem?_eq_getElem hx] at e3
          simp only [Option.some.injEq] at e1 e2 e3
          rw [e1] at hc1
          rw [e2] at hc2
          rw [e3] at hc3
          clear e1 e2 e3
          subst ea
          cases ea'
          subst ea3
          have HIN := hid hin
          have HT := hid (rd_take hR k)
          have hkl : (cs.take k).length = k := by rw [List.length_take]; omega
          have HW := fun (W : World) h => wmInNo_c W (some ⟨b, off, none⟩) c_c (cs.take k) (x : Int) h (by omega) hin
          rw [hkl] at HW
          replace HW := hid HW
          have hcap : k ≤ c_c := by have := HCC.out; omega
          clear hin hkl hR
          have q1 : ((k : Int) + 1) % cs.length < cs.length := Int.emod_lt_of_pos _ (by omega)
          have q2 : (0 : Int) ≤ ((k : Int) + 1) % cs.length := Int.emod_nonneg _ (by omega)
          have q3 : (1 : Int) ≤ cs.length := by omega
          have q4 : decide ((x : Int) < 0) = false := by simp
          have q5 : decide ((xs.length : Int) ≤ x) = false := by simp; omega
          have q6 : (k : Int) < cs.length := by omega
          have q7 : (x : Int) < xs.length := by omega
          go_wp2_with fail
          go_quiet ((go_at_call 46; exact Calls.quiet_of_same (HW.out _ (Rd.drewN _ HT.out))))
          go_wp2
          go_roundw
          case rel => exact ⟨k + 1, by omega, by go_num, below_drewN _ hbel⟩
          case measure => simp [intOf]; omega
        · go_wp2
          go_ret
          exact ⟨rfl, B7.trans (hbel.mono B7.size)⟩
  · replace v1 : relValid xs = false := by simpa using v1
    have z0 : ((cs.length : Int) == 0) = true := by rw [h_cs.out, lift1_no v1]; rfl
    have k := hid (acyclicF_no v1)
    replace v1 := hid v1
    have H4_1 := fun (w : World) (a1 : Option Addr) (c1 : Nat) (h1 : Rd w a1 (ints xs)) => implFind_c w a1 c1 xs h1 (by omega)
    rw [← h_cs.out] at H4_1
    replace H4_1 := hid H4_1
    go_wp2_with fail
    refine (H4_1.out _ _ _ (Rd.own o_x)).mono ?_
    rintro e w2 ⟨a_c, c_c, rfl, o_c, b2⟩
    replace o_c := own_up o_c B1.size
    replace o_x := own_below o_x b2
    have B2 : Below w.heap.size w w2 := B1.trans (b2.mono B1.size)
    have H4_2 := fun (w : World) (a1 : Option Addr) (c1 : Nat) (h1 : Rd w a1 (ints xs)) => implAcyclic_c w a1 c1 xs h1 (by omega)
    rw [k.out] at H4_2
    replace H4_2 := hid H4_2
    go_wp2_with fail
    refine (H4_2.out _ _ _ (Rd.own o_x)).mono ?_
    rintro e w3 ⟨rfl, b3⟩
    replace o_x := own_below o_x b3
    replace o_c := own_below o_c b3
    have B3 : Below w.heap.size w w3 := B2.trans (b3.mono B2.size)
    have H4_3 := fun (w : World) (a1 : Option Addr) (c1 : Nat) (h1 : Rd w a1 (ints xs)) => specFind_c w a1 c1 xs h1 (by omega)
    rw [← h_cs.out] at H4_3
    replace H4_3 := hid H4_3
    go_wp2_with fail
    refine (H4_3.out _ _ _ (Rd.own o_x)).mono ?_
    rintro e w4 ⟨a_c2, c_c2, rfl, o_c2, b4⟩
    replace o_c2 := own_up o_c2 B3.size
    replace o_x := own_below o_x b4
    replace o_c := own_below o_c b4
    have B4 : Below w.heap.size w w4 := B3.trans (b4.mono B3.size)
    have H4_4 := hid (fun (w : World) (a1 a2 : Option Addr) (c1 c2 : Nat) (h1 : Rd w a1 (ints cs)) (h2 : Rd w a2 (ints cs)) => wmSame_c w a1 a2 c1 c2 cs h1 h2 l_cs)
    go_wp2_with fail
    refine (H4_4.out _ _ _ _ _ (Rd.own o_c) (Rd.own o_c2)).mono ?_
    rintro e w5 ⟨rfl, b5⟩
    replace o_x := own_below o_x b5
    replace o_c := own_below o_c b5
    replace o_c2 := own_below o_c2 b5
    have B5 : Below w.heap.size w w5 := B4.trans (b5.mono B4.size)
    have H4_5 := fun (w : World) (a1 : Option Addr) (c1 : Nat) (h1 : Rd w a1 (ints xs)) => specAcyclic_c w a1 c1 xs h1 (by omega)
    rw [k.out] at H4_5
    replace H4_5 := hid H4_5
    go_wp2_with fail
    refine (H4_5.out _ _ _ (Rd.own o_x)).mono ?_
    rintro e w6 ⟨rfl, b6⟩
    replace o_x := own_below o_x b6
    replace o_c := own_below o_c b6
    have B6 : Below w.heap.size w w6 := B5.trans (b6.mono B5.size)
    have H4_6 := fun (w : World) (a1 : Option Addr) (c1 : Nat) (h1 : Rd w a1 (ints xs)) => relValidI_c w a1 c1 xs h1 (by omega)
    rw [v1.out] at H4_6
    replace H4_6 := hid H4_6
    go_wp2_with fail
    refine (H4_6.out _ _ _ (Rd.own o_x)).mono ?_
    rintro e w7 ⟨rfl, b7⟩
    replace o_x := own_below o_x b7
    replace o_c := own_below o_c b7
    have B7 : Below w.heap.size w w7 := B6.trans (b7.mono B6.size)
    have H4_7 := fun (w : World) (a1 : Option Addr) (c1 : Nat) (h1 : Rd w a1 (ints xs)) => specFind_c w a1 c1 xs h1 (by omega)
    rw [← h_cs.out] at H4_7
    replace H4_7 := hid H4_7
    go_wp2_with fail
    refine (H4_7.out _ _ _ (Rd.own o_x)).mono ?_
    rintro e w8 ⟨a_c3, c_c3, rfl, o_c3, b8⟩
    replace o_c3 := own_up o_c3 B7.size
    replace o_x := own_below o_x b8
    replace o_c := own_below o_c b8
    have B8 : Below w.heap.size w w8 := B7.trans (b8.mono B7.size)
    have H4_8 := hid (fun (w : World) (a1 a2 : Option Addr) (c1 c2 : Nat) (h1 : Rd w a1 (ints cs)) (h2 : Rd w a2 (ints cs)) => wmSame_c w a1 a2 c1 c2 cs h1 h2 l_cs)
    go_wp2_with fail
    refine (H4_8.out _ _ _ _ _ (Rd.own o_c) (Rd.own o_c3)).mono ?_
    rintro e w9 ⟨rfl, b9⟩
    replace o_x := own_below o_x b9
    replace o_c := own_below o_c b9
    replace o_c3 := own_below o_c3 b9
    have B9 : Below w.heap.size w w9 := B8.trans (b9.mono B8.size)
    have H4_9 := fun (w : World) (a1 : Option Addr) (c1 : Nat) (h1 : Rd w a1 (ints xs)) => specAcyclic_c w a1 c1 xs h1 (by omega)
    rw [k.out] at H4_9
    replace H4_9 := hid H4_9
    go_wp2_with fail
    refine (H4_9.out _ _ _ (Rd.own o_x)).mono ?_
    rintro e w10 ⟨rfl, b10⟩
    replace o_x := own_below o_x b10
    replace o_c := own_below o_c b10
    have B10 : Below w.heap.size w w10 := B9.trans (b10.mono B9.size)
    go_wp2
    go_ret
    exact ⟨rfl, B10⟩

theorem walk (w : World) (a0 : Option Addr) (cap0 : Nat) (bs0 : List Int) (h0 : Rd w a0 (bytes bs0)) (f0 : ∀ n ∈ bs0, (Lit.int .u8 n).wf = true) (d0 : bs0.length ≤ cap0 ∧ cap0 ≤ 9223372036854775807) :
    Calls Try.prog 13 #[.slice a0 bs0.length cap0] w fun e w' => e = .returned (.bool true) ∧ Below w.heap.size w w' := by
  by_cases hb : 1048576 < bs0.length
  · exact walkBig w a0 cap0 bs0 h0 f0 d0 hb
  · exact walkSmall w a0 cap0 bs0 h0 f0 d0 (by omega)

set_option maxRecDepth 100000 in
theorem lifted (os : Os) (started : os.Started) (H : Type) (enc : TypeId × Value → H) :
    ReturnsInHanded {} Try.checked os 13 .any (Rows.fnFindCycleSpec.pre6 enc Try.prog Try.f13 Rows.fnFindCycleRow.domain false) (Rows.fnFindCycleSpec.post enc Try.prog Try.f13 false true false false) := by
  refine returnsInHanded_of_change (C := Try.checked) own started (by kernel_rfl) Try.func13
    (ChangeSpec.witness6 (enc := enc) (C := Try.checked) false ⟨#[], #[.slice none 0 0], []⟩ 8 (by kernel_rfl) (by kernel_rfl) (by kernel_rfl) (by kernel_rfl)) ?_
  intro W base args ds gs before hval0 hW hcnd _
  have hval : ∀ (j : Nat) t v, Try.f13.params[j]? = some t → args[j]? = some v → Value.okWide Try.prog W .any base t v := hval0
  have hW' := hW
  obtain ⟨p, q, hA0, hV, rfl, hfz, hnd⟩ := hW
  have hA : DataW.TrodAll enc Try.prog W 0 (fun _ => true) true Try.f13.params.toList args.toList ds p := hA0
  rw [Try.params13] at hA hval
  obtain ⟨v0, vs0, d0, ds0, p0, q0, hargs, rfl, rfl, h0, r0⟩ := trodAll_cons hA
  obtain ⟨rfl, rfl, rfl⟩ := trodAll_nil r0
  obtain rfl : args = #[v0] := by cases args; simp_all
  obtain ⟨rfl, rfl⟩ := trodVars_none hV
  obtain ⟨a0, len0, cap0, rfl⟩ := okWide_slice Try.underlying22 (hval 0 22 v0 rfl rfl)
  have k0 := h0
  have lt0 : ∀ x ∈ p0, x.block < W.heap.size := by obtain ⟨m, hm⟩ := k0; exact DataW.trod_lt m _ _ _ hm
  obtain ⟨z0, w0⟩ : ∃ zs, IsRow .u8 W a0 len0 cap0 zs := by
    obtain ⟨fuel, hf⟩ := h0
    rcases open_ints Try.underlying22 Try.underlying5 (by kernel_rfl) hf with ⟨hcs, _⟩ | ⟨x, l, c, zs, hcs, _, hl, hm, hz, _, hcell, hwz⟩
    · simp [Value.cells] at hcs
      obtain ⟨rfl, rfl, rfl⟩ := hcs
      exact ⟨[], .inl ⟨rfl, rfl, rfl, rfl⟩⟩
    · simp [Value.cells] at hcs
      obtain ⟨rfl, rfl, rfl⟩ := hcs
      exact ⟨zs, .inr ⟨_, rfl, hl, hm, by simpa using hz, hcell, hwz⟩⟩
  obtain ⟨x0, hx0, rd0, wf0⟩ := w0.rd
  subst hx0
  have bd0 := w0.cap
  clear hA0 hval0
  refine (walk W a0 cap0 x0 rd0 wf0 bd0).mono fun e W' ⟨he, bel⟩ => ?_
  subst he
  exact ⟨_, rfl, _, _, _, [], _, [], hW', trodAll_mk1 (shut_bool Try.underlying4 _), (trodAll_cons_mk (Below.trod laidOut (by kernel_rfl) (of_decide_eq_true (by kernel_rfl)) k0 bel lt0) trodAll_mk0), rfl, bel.frame _, fun h => by cases h⟩

theorem over : Rows.fnFindCycleRow.holds Try.pinned (OpenSpec.ofChange Rows.fnFindCycleSpec) :=
  OpenClaim.holds_of_wide 13 Try.f13 rfl rfl rfl rfl rfl rfl rfl ⟨rfl, rfl, rfl, rfl, rfl⟩ rfl rfl rfl rfl rfl (by kernel_rfl) Try.func13 (by kernel_rfl)
    (of_decide_eq_true (by kernel_rfl)) (by unfold Func.isWrapper; first | (rw [if_pos (by decide +kernel)]; kernel_rfl) | (rw [if_neg (by decide +kernel)]; exact ⟨rfl, rfl⟩))
    (fun os started H enc _ => lifted os started H enc)

theorem proved : Rows.FnFindCycleSaid := over
#print axioms proved
end Go.Proofs.Ytdppidhnlbfpmaa.fnFindCycle
