/-
  PROVED HERE: laws.FnClosureRel returns true for every input, and each argument reads behind the call as it read before. CONDITIONS: none.
-/
import Derived.Test.YtdppidhnlbfpmaaWm
import Derived.Test.YtdppidhnlbfpmaaRelH
import Derived.Test.YtdppidhnlbfpmaaRelI
import Derived.ShutString
import Derived.ChangeOld
namespace Go.Proofs.Ytdppidhnlbfpmaa.fnClosureRel
open Go.ChangeShapes Go.WideShapes Go.ChangeAt Go.RowKit
open Go.ChangeMaps (open_string shut_string)
set_option linter.unusedVariables false
open Go.Proofs.Ytdppidhnlbfpmaa
theorem own : ownKnob Try.prog.godebug = none := by kernel_rfl
theorem laidOut : laidOutB Try.prog = true := by kernel_rfl

theorem walkBig (w : World) (a0 : Option Addr) (cap0 : Nat) (bs0 : List Int) (h0 : Rd w a0 (bytes bs0)) (f0 : ∀ n ∈ bs0, (Lit.int .u8 n).wf = true) (d0 : bs0.length ≤ cap0 ∧ cap0 ≤ 9223372036854775807) (a1 : Option Addr) (cap1 : Nat) (bs1 : List Int) (h1 : Rd w a1 (bytes bs1)) (f1 : ∀ n ∈ bs1, (Lit.int .u8 n).wf = true) (d1 : bs1.length ≤ cap1 ∧ cap1 ≤ 9223372036854775807) (hb : 1048576 < bs0.length ∨ 1048576 < bs1.length) :
    Calls Try.prog 6 #[.slice a0 bs0.length cap0, .slice a1 bs1.length cap1] w fun e w' => e = .returned (.bool true) ∧ Below w.heap.size w w' := by
  clear h0 f0 d0
  clear h1 f1 d1
  by_cases hc : 1048576 < bs0.length
  · have g : (1048576 : Int) < bs0.length := by omega
    clear hb hc
    go_enter Try.func6, Try.ntmps6
    go_wp2
    go_ret
    exact ⟨rfl, Below.refl _ _⟩
  · have g : decide ((1048576 : Int) < bs0.length) = false := by simp; omega
    have g1 : (1048576 : Int) < bs1.length := by omega
    clear hb hc
    go_enter Try.func6, Try.ntmps6
    go_wp2
    go_ret
    exact ⟨rfl, Below.refl _ _⟩

set_option maxHeartbeats 1600000 in
theorem walkSmall (w : World) (a0 : Option Addr) (cap0 : Nat) (bs0 : List Int) (h0 : Rd w a0 (bytes bs0)) (f0 : ∀ n ∈ bs0, (Lit.int .u8 n).wf = true) (d0 : bs0.length ≤ cap0 ∧ cap0 ≤ 9223372036854775807) (a1 : Option Addr) (cap1 : Nat) (bs1 : List Int) (h1 : Rd w a1 (bytes bs1)) (f1 : ∀ n ∈ bs1, (Lit.int .u8 n).wf = true) (d1 : bs1.length ≤ cap1 ∧ cap1 ≤ 9223372036854775807) (s0 : bs0.length ≤ 1048576) (s1 : bs1.length ≤ 1048576) :
    Calls Try.prog 6 #[.slice a0 bs0.length cap0, .slice a1 bs1.length cap1] w fun e w' => e = .returned (.bool true) ∧ Below w.heap.size w w' := by
  have g0 : decide ((1048576 : Int) < bs0.length) = false := by simp; omega
  have g1 : decide ((1048576 : Int) < bs1.length) = false := by simp; omega
  have DA0 : DrawArgs w a0 cap0 bs0 := ⟨h0, byte_wf f0, s0, d0.1, d0.2⟩
  have CD0 := hid (fun (w1 : World) (hb : Below w.heap.size w w1) => drawClosureRel_c w1 a0 cap0 bs0 (DA0.below hb))
  have DA1 : DrawArgs w a1 cap1 bs1 := ⟨h1, byte_wf f1, s1, d1.1, d1.2⟩
  have CD1 := hid (fun (w1 : World) (hb : Below w.heap.size w w1) => drawRelValid_c w1 a1 cap1 bs1 (DA1.below hb))
  clear h0 f0 d0 s0 DA0 h1 f1 d1 s1 DA1
  have B0 : Below w.heap.size w w := Below.refl _ _
  go_enter Try.func6, Try.ntmps6
  go_wp2_with fail
  refine (CD0.out _ B0).mono ?_
  rintro e w1 ⟨xs, ⟨a_x, c_x, rfl, o_x, b1⟩, l_xs⟩
  replace o_x := own_up o_x B0.size
  have B1 : Below w.heap.size w w1 := B0.trans (b1.mono B0.size)
  obtain ⟨cs, h_cs⟩ : ∃ z, z = lift1 closureN xs := ⟨_, rfl⟩
  have l_cs : cs.length ≤ 1048576 := by rw [h_cs]; exact length_lift1 (fun us h => Nat.le_of_eq (length_closureN us)) _
  replace h_cs := hid h_cs
  have H2_1 := fun (w : World) (a1 : Option Addr) (c1 : Nat) (h1 : Rd w a1 (ints xs)) => implClosure_c w a1 c1 xs h1 (by omega)
  rw [← h_cs.out] at H2_1
  replace H2_1 := hid H2_1
  go_wp2_with fail
  refine (H2_1.out _ _ _ (Rd.own o_x)).mono ?_
  rintro e w2 ⟨a_c, c_c, rfl, o_c, b2⟩
  replace o_c := own_up o_c B1.size
  replace o_x := own_below o_x b2
  have B2 : Below w.heap.size w w2 := B1.trans (b2.mono B1.size)
  have H2_2 := fun (w : World) (a1 : Option Addr) (c1 : Nat) (h1 : Rd w a1 (ints xs)) => specClosure_c w a1 c1 xs h1 (by omega)
  rw [← h_cs.out] at H2_2
  replace H2_2 := hid H2_2
  go_wp2_with fail
  refine (H2_2.out _ _ _ (Rd.own o_x)).mono ?_
  rintro e w3 ⟨a_c2, c_c2, rfl, o_c2, b3⟩
  replace o_c2 := own_up o_c2 B2.size
  replace o_x := own_below o_x b3
  replace o_c := own_below o_c b3
  have B3 : Below w.heap.size w w3 := B2.trans (b3.mono B2.size)
  have H2_3 := hid (fun (w : World) (a1 a2 : Option Addr) (c1 c2 : Nat) (h1 : Rd w a1 (ints cs)) (h2 : Rd w a2 (ints cs)) => wmSame_c w a1 a2 c1 c2 cs h1 h2 l_cs)
  go_wp2_with fail
  refine (H2_3.out _ _ _ _ _ (Rd.own o_c) (Rd.own o_c2)).mono ?_
  rintro e w4 ⟨rfl, b4⟩
  replace o_x := own_below o_x b4
  replace o_c := own_below o_c b4
  replace o_c2 := own_below o_c2 b4
  have B4 : Below w.heap.size w w4 := B3.trans (b4.mono B3.size)
  by_cases v1 : relValid xs = true
  · replace v1 := hid v1
    have H4_4 := fun (w : World) (a1 : Option Addr) (c1 : Nat) (h1 : Rd w a1 (ints xs)) => relValidI_c w a1 c1 xs h1 (by omega)
    rw [v1.out] at H4_4
    replace H4_4 := hid H4_4
    go_wp2_with fail
    refine (H4_4.out _ _ _ (Rd.own o_x)).mono ?_
    rintro e w5 ⟨rfl, b5⟩
    replace o_x := own_below o_x b5
    replace o_c := own_below o_c b5
    have B5 : Below w.heap.size w w5 := B4.trans (b5.mono B4.size)
    go_wp2_with fail
    refine (CD1.out _ B5).mono ?_
    rintro e w6 ⟨ys, ⟨a_y, c_y, rfl, o_y, b6⟩, l_ys⟩
    replace o_y := own_up o_y B5.size
    replace o_x := own_below o_x b6
    replace o_c := own_below o_c b6
    have B6 : Below w.heap.size w w6 := B5.trans (b6.mono B5.size)
    obtain ⟨us, h_us⟩ : ∃ z, z = lift2 unionN xs ys := ⟨_, rfl⟩
    have l_us : us.length ≤ 1048576 := by rw [h_us]; exact length_lift2 (fun us vs h => Nat.le_of_eq (length_union h)) _ _
    replace h_us := hid h_us
    obtain ⟨ts, h_ts⟩ : ∃ z, z = lift1 closureN us := ⟨_, rfl⟩
    have l_ts : ts.length ≤ 1048576 := by rw [h_ts]; exact length_lift1 (fun us h => Nat.le_of_eq (length_closureN us)) _
    replace h_ts := hid h_ts
    obtain ⟨qs, h_qs⟩ : ∃ z, z = lift2 composeN cs cs := ⟨_, rfl⟩
    have l_qs : qs.length ≤ 1048576 := by rw [h_qs]; exact length_lift2 (fun us vs h => Nat.le_of_eq (length_composeN us vs)) _ _
    replace h_qs := hid h_qs
    have E1 := closure_within v1.out
    have E2 := closure_square v1.out
    have E3 := closure_twice v1.out
    rw [← h_cs.out] at E1 E2 E3
    rw [← h_qs.out] at E2
    replace E1 := hid E1
    replace E2 := hid E2
    replace E3 := hid E3
    have H4_5 := fun (w : World) (a1 a2 : Option Addr) (c1 c2 : Nat) (h1 : Rd w a1 (ints xs)) (h2 : Rd w a2 (ints ys)) => implUnion_c w a1 a2 c1 c2 xs ys h1 h2 (by omega) (by omega)
    rw [← h_us.out] at H4_5
    replace H4_5 := hid H4_5
    go_wp2_with fail
    refine (H4_5.out _ _ _ _ _ (Rd.own o_x) (Rd.own o_y)).mono ?_
    rintro e w7 ⟨a_u, c_u, rfl, o_u, b7⟩
    replace o_u := own_up o_u B6.size
    replace o_x := own_below o_x b7
    replace o_c := own_below o_c b7
    replace o_y := own_below o_y b7
    have B7 : Below w.heap.size w w7 := B6.trans (b7.mono B6.size)
    have H4_6 := fun (w : World) (a1 : Option Addr) (c1 : Nat) (h1 : Rd w a1 (ints us)) => implClosure_c w a1 c1 us h1 l_us
    rw [← h_ts.out] at H4_6
    replace H4_6 := hid H4_6
    go_wp2_with fail
    refine (H4_6.out _ _ _ (Rd.own o_u)).mono ?_
    rintro e w8 ⟨a_t, c_t, rfl, o_t, b8⟩
    replace o_t := own_up o_t B7.size
    replace o_x := own_below o_x b8
    replace o_c := own_below o_c b8
    replace o_y := own_below o_y b8
    replace o_u := own_below o_u b8
    have B8 : Below w.heap.size w w8 := B7.trans (b8.mono B7.size)
    have H4_7 := fun (w : World) (a1 a2 : Option Addr) (c1 c2 : Nat) (h1 : Rd w a1 (ints xs)) (h2 : Rd w a2 (ints cs)) => implWithin_c w a1 a2 c1 c2 xs cs h1 h2 (by omega) l_cs
    rw [E1.out] at H4_7
    replace H4_7 := hid H4_7
    go_wp2_with fail
    refine (H4_7.out _ _ _ _ _ (Rd.own o_x) (Rd.own o_c)).mono ?_
    rintro e w9 ⟨rfl, b9⟩
    replace o_x := own_below o_x b9
    replace o_c := own_below o_c b9
    replace o_t := own_below o_t b9
    have B9 : Below w.heap.size w w9 := B8.trans (b9.mono B8.size)
    have H4_8 := fun (w : World) (a1 a2 : Option Addr) (c1 c2 : Nat) (h1 : Rd w a1 (ints cs)) (h2 : Rd w a2 (ints cs)) => implCompose_c w a1 a2 c1 c2 cs cs h1 h2 l_cs l_cs
    rw [← h_qs.out] at H4_8
    replace H4_8 := hid H4_8
    go_wp2_with fail
    refine (H4_8.out _ _ _ _ _ (Rd.own o_c) (Rd.own o_c)).mono ?_
    rintro e w10 ⟨a_q, c_q, rfl, o_q, b10⟩
    replace o_q := own_up o_q B9.size
    replace o_x := own_below o_x b10
    replace o_c := own_below o_c b10
    replace o_t := own_below o_t b10
    have B10 : Below w.heap.size w w10 := B9.trans (b10.mono B9.size)
    have H4_9 := fun (w : World) (a1 a2 : Option Addr) (c1 c2 : Nat) (h1 : Rd w a1 (ints qs)) (h2 : Rd w a2 (ints cs)) => implWithin_c w a1 a2 c1 c2 qs cs h1 h2 l_qs l_cs
    rw [E2.out] at H4_9
    replace H4_9 := hid H4_9
    go_wp2_with fail
    refine (H4_9.out _ _ _ _ _ (Rd.own o_q) (Rd.own o_c)).mono ?_
    rintro e w11 ⟨rfl, b11⟩
    replace o_x := own_below o_x b11
    replace o_c := own_below o_c b11
    replace o_t := own_below o_t b11
    replace o_q := own_below o_q b11
    have B11 : Below w.heap.size w w11 := B10.trans (b11.mono B10.size)
    have H4_10 := fun (w : World) (a1 : Option Addr) (c1 : Nat) (h1 : Rd w a1 (ints cs)) => implClosure_c w a1 c1 cs h1 l_cs
    rw [E3.out] at H4_10
    replace H4_10 := hid H4_10
    go_wp2_with fail
    refine (H4_10.out _ _ _ (Rd.own o_c)).mono ?_
    rintro e w12 ⟨a_k, c_k, rfl, o_k, b12⟩
    replace o_k := own_up o_k B11.size
    replace o_x := own_below o_x b12
    replace o_c := own_below o_c b12
    replace o_t := own_below o_t b12
    have B12 : Below w.heap.size w w12 := B11.trans (b12.mono B11.size)
    have H4_11 := hid (fun (w : World) (a1 a2 : Option Addr) (c1 c2 : Nat) (h1 : Rd w a1 (ints cs)) (h2 : Rd w a2 (ints cs)) => wmSame_c w a1 a2 c1 c2 cs h1 h2 l_cs)
    go_wp2_with fail
    refine (H4_11.out _ _ _ _ _ (Rd.own o_k) (Rd.own o_c)).mono ?_
    rintro e w13 ⟨rfl, b13⟩
    replace o_x := own_below o_x b13
    replace o_c := own_below o_c b13
    replace o_t := own_below o_t b13
    replace o_k := own_below o_k b13
    have B13 : Below w.heap.size w w13 := B12.trans (b13.mono B12.size)
    by_cases v2 : ts.length = xs.length
    · have ev2 : ((ts.length : Int) != xs.length) = false := by simp [v2]
      have iv2 : ((ts.length : Int) == xs.length) = true := by simp [v2]
      replace v2 := hid v2
      have E4 := hid (closure_union_within (ys := ys) v1.out (by rw [← h_us.out, ← h_ts.out]; exact v2.out))
      have H6_12 := fun (w : World) (a1 a2 : Option Addr) (c1 c2 : Nat) (h1 : Rd w a1 (ints cs)) (h2 : Rd w a2 (ints ts)) => implWithin_c w a1 a2 c1 c2 cs ts h1 h2 l_cs l_ts
      rw [(show withinF cs ts = true by rw [h_ts.out, h_us.out, h_cs.out]; exact E4.out)] at H6_12
      replace H6_12 := hid H6_12
      go_wp2_with fail
      refine (H6_12.out _ _ _ _ _ (Rd.own o_c) (Rd.own o_t)).mono ?_
      rintro e w14 ⟨rfl, b14⟩
      replace o_x := own_below o_x b14
      replace o_c := own_below o_c b14
      replace o_t := own_below o_t b14
      have B14 : Below w.heap.size w w14 := B13.trans (b14.mono B13.size)
      go_wp2
      go_ret
      exact ⟨rfl, B14⟩
    · have ev2 : ((ts.length : Int) != xs.length) = true := by simp; omega
      have iv2 : ((ts.length : Int) == xs.length) = false := by simp; omega
      replace v2 := hid v2
      go_wp2
      go_ret
      exact ⟨rfl, B13⟩
  · replace v1 : relValid xs = false := by simpa using v1
    replace v1 := hid v1
    have H4_4 := fun (w : World) (a1 : Option Addr) (c1 : Nat) (h1 : Rd w a1 (ints xs)) => relValidI_c w a1 c1 xs h1 (by omega)
    rw [v1.out] at H4_4
    replace H4_4 := hid H4_4
    go_wp2_with fail
    refine (H4_4.out _ _ _ (Rd.own o_x)).mono ?_
    rintro e w5 ⟨rfl, b5⟩
    replace o_x := own_below o_x b5
    replace o_c := own_below o_c b5
    have B5 : Below w.heap.size w w5 := B4.trans (b5.mono B4.size)
    have H4_5 := fun (w : World) (a1 : Option Addr) (c1 : Nat) (h1 : Rd w a1 (ints xs)) => specClosure_c w a1 c1 xs h1 (by omega)
    rw [← h_cs.out] at H4_5
    replace H4_5 := hid H4_5
    go_wp2_with fail
    refine (H4_5.out _ _ _ (Rd.own o_x)).mono ?_
    rintro e w6 ⟨a_c3, c_c3, rfl, o_c3, b6⟩
    replace o_c3 := own_up o_c3 B5.size
    replace o_x := own_below o_x b6
    replace o_c := own_below o_c b6
    have B6 : Below w.heap.size w w6 := B5.trans (b6.mono B5.size)
    have H4_6 := hid (fun (w : World) (a1 a2 : Option Addr) (c1 c2 : Nat) (h1 : Rd w a1 (ints cs)) (h2 : Rd w a2 (ints cs)) => wmSame_c w a1 a2 c1 c2 cs h1 h2 l_cs)
    go_wp2_with fail
    refine (H4_6.out _ _ _ _ _ (Rd.own o_c) (Rd.own o_c3)).mono ?_
    rintro e w7 ⟨rfl, b7⟩
    replace o_x := own_below o_x b7
    replace o_c := own_below o_c b7
    replace o_c3 := own_below o_c3 b7
    have B7 : Below w.heap.size w w7 := B6.trans (b7.mono B6.size)
    have H4_7 := fun (w : World) (a1 : Option Addr) (c1 : Nat) (h1 : Rd w a1 (ints xs)) => relValidI_c w a1 c1 xs h1 (by omega)
    rw [v1.out] at H4_7
    replace H4_7 := hid H4_7
    go_wp2_with fail
    refine (H4_7.out _ _ _ (Rd.own o_x)).mono ?_
    rintro e w8 ⟨rfl, b8⟩
    replace o_x := own_below o_x b8
    replace o_c := own_below o_c b8
    replace o_c3 := own_below o_c3 b8
    have B8 : Below w.heap.size w w8 := B7.trans (b8.mono B7.size)
    have H4_8 := fun (w : World) (a1 : Option Addr) (c1 : Nat) (h1 : Rd w a1 (ints xs)) => relValidS_c w a1 c1 xs h1 (by omega)
    rw [v1.out] at H4_8
    replace H4_8 := hid H4_8
    go_wp2_with fail
    refine (H4_8.out _ _ _ (Rd.own o_x)).mono ?_
    rintro e w9 ⟨rfl, b9⟩
    replace o_x := own_below o_x b9
    replace o_c := own_below o_c b9
    replace o_c3 := own_below o_c3 b9
    have B9 : Below w.heap.size w w9 := B8.trans (b9.mono B8.size)
    go_wp2
    go_ret
    exact ⟨rfl, B9⟩

theorem walk (w : World) (a0 : Option Addr) (cap0 : Nat) (bs0 : List Int) (h0 : Rd w a0 (bytes bs0)) (f0 : ∀ n ∈ bs0, (Lit.int .u8 n).wf = true) (d0 : bs0.length ≤ cap0 ∧ cap0 ≤ 9223372036854775807) (a1 : Option Addr) (cap1 : Nat) (bs1 : List Int) (h1 : Rd w a1 (bytes bs1)) (f1 : ∀ n ∈ bs1, (Lit.int .u8 n).wf = true) (d1 : bs1.length ≤ cap1 ∧ cap1 ≤ 9223372036854775807) :
    Calls Try.prog 6 #[.slice a0 bs0.length cap0, .slice a1 bs1.length cap1] w fun e w' => e = .returned (.bool true) ∧ Below w.heap.size w w' := by
  by_cases hb : 1048576 < bs0.length ∨ 1048576 < bs1.length
  · exact walkBig w a0 cap0 bs0 h0 f0 d0 a1 cap1 bs1 h1 f1 d1 hb
  · exact walkSmall w a0 cap0 bs0 h0 f0 d0 a1 cap1 bs1 h1 f1 d1 (by omega) (by omega)

set_option maxRecDepth 100000 in
theorem lifted (os : Os) (started : os.Started) (H : Type) (enc : TypeId × Value → H) :
    ReturnsInHanded {} Try.checked os 6 .any (Rows.fnClosureRelSpec.pre6 enc Try.prog Try.f6 Rows.fnClosureRelRow.domain false) (Rows.fnClosureRelSpec.post enc Try.prog Try.f6 false true false false) := by
  refine returnsInHanded_of_change (C := Try.checked) own started (by kernel_rfl) Try.func6
    (ChangeSpec.witness6 (enc := enc) (C := Try.checked) false ⟨#[], #[.slice none 0 0, .slice none 0 0], []⟩ 8 (by kernel_rfl) (by kernel_rfl) (by kernel_rfl) (by kernel_rfl)) ?_
  intro W base args ds gs before hval0 hW hcnd _
  have hval : ∀ (j : Nat) t v, Try.f6.params[j]? = some t → args[j]? = some v → Value.okWide Try.prog W .any base t v := hval0
  have hW' := hW
  obtain ⟨p, q, hA0, hV, rfl, hfz, hnd⟩ := hW
  have hA : DataW.TrodAll enc Try.prog W 0 (fun _ => true) true Try.f6.params.toList args.toList ds p := hA0
  rw [Try.params6] at hA hval
  obtain ⟨v0, vs0, d0, ds0, p0, q0, hargs, rfl, rfl, h0, r0⟩ := trodAll_cons hA
  obtain ⟨v1, vs1, d1, ds1, p1, q1, rfl, rfl, rfl, h1, r1⟩ := trodAll_cons r0
  obtain ⟨rfl, rfl, rfl⟩ := trodAll_nil r1
  obtain rfl : args = #[v0, v1] := by cases args; simp_all
  obtain ⟨rfl, rfl⟩ := trodVars_none hV
  obtain ⟨a0, len0, cap0, rfl⟩ := okWide_slice Try.underlying22 (hval 0 22 v0 rfl rfl)
  have k0 := h0
  have lt0 : ∀ x ∈ p0, x.block < W.heap.size := by obtain ⟨m, hm⟩ := k0; exact DataW.trod_lt m _ _ _ hm
  obtain ⟨z0, w0⟩ : ∃ zs, IsRow .u8 W a0 len0 cap0 zs := by
    obtain ⟨fuel, hf⟩ := h0
    rcases open_ints Try.underlying22 Try.underlying5 (by kernel_rfl) hf with ⟨hcs, _⟩ | ⟨x, l, c, zs, hcs, _, hl, hm, hz, _, hcell, hwz⟩
    · simp [Value.cells] at hcs
      obtain ⟨rfl, rfl, rfl⟩ := hcs
      exact ⟨[], .inl ⟨rfl, rfl, rfl, rfl⟩⟩
    · simp [Value.cells] at hcs
      obtain ⟨rfl, rfl, rfl⟩ := hcs
      exact ⟨zs, .inr ⟨_, rfl, hl, hm, by simpa using hz, hcell, hwz⟩⟩
  obtain ⟨x0, hx0, rd0, wf0⟩ := w0.rd
  subst hx0
  have bd0 := w0.cap
  obtain ⟨a1, len1, cap1, rfl⟩ := okWide_slice Try.underlying22 (hval 1 22 v1 rfl rfl)
  have k1 := h1
  have lt1 : ∀ x ∈ p1, x.block < W.heap.size := by obtain ⟨m, hm⟩ := k1; exact DataW.trod_lt m _ _ _ hm
  obtain ⟨z1, w1⟩ : ∃ zs, IsRow .u8 W a1 len1 cap1 zs := by
    obtain ⟨fuel, hf⟩ := h1
    rcases open_ints Try.underlying22 Try.underlying5 (by kernel_rfl) hf with ⟨hcs, _⟩ | ⟨x, l, c, zs, hcs, _, hl, hm, hz, _, hcell, hwz⟩
    · simp [Value.cells] at hcs
      obtain ⟨rfl, rfl, rfl⟩ := hcs
      exact ⟨[], .inl ⟨rfl, rfl, rfl, rfl⟩⟩
    · simp [Value.cells] at hcs
      obtain ⟨rfl, rfl, rfl⟩ := hcs
      exact ⟨zs, .inr ⟨_, rfl, hl, hm, by simpa using hz, hcell, hwz⟩⟩
  obtain ⟨x1, hx1, rd1, wf1⟩ := w1.rd
  subst hx1
  have bd1 := w1.cap
  clear hA0 hval0
  refine (walk W a0 cap0 x0 rd0 wf0 bd0 a1 cap1 x1 rd1 wf1 bd1).mono fun e W' ⟨he, bel⟩ => ?_
  subst he
  exact ⟨_, rfl, _, _, _, [], _, [], hW', trodAll_mk1 (shut_bool Try.underlying4 _), (trodAll_cons_mk (Below.trod laidOut (by kernel_rfl) (of_decide_eq_true (by kernel_rfl)) k0 bel lt0) (trodAll_cons_mk (Below.trod laidOut (by kernel_rfl) (of_decide_eq_true (by kernel_rfl)) k1 bel lt1) trodAll_mk0)), rfl, bel.frame _, fun h => by cases h⟩

theorem over : Rows.fnClosureRelRow.holds Try.pinned (OpenSpec.ofChange Rows.fnClosureRelSpec) :=
  OpenClaim.holds_of_wide 6 Try.f6 rfl rfl rfl rfl rfl rfl rfl ⟨rfl, rfl, rfl, rfl, rfl⟩ rfl rfl rfl rfl rfl (by kernel_rfl) Try.func6 (by kernel_rfl)
    (of_decide_eq_true (by kernel_rfl)) (by unfold Func.isWrapper; first | (rw [if_pos (by decide +kernel)]; kernel_rfl) | (rw [if_neg (by decide +kernel)]; exact ⟨rfl, rfl⟩))
    (fun os started H enc _ => lifted os started H enc)

theorem proved : Rows.FnClosureRelSaid := over
#print axioms proved
end Go.Proofs.Ytdppidhnlbfpmaa.fnClosureRel
