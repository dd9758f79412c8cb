/-
  PROVED HERE: laws.FnMeetRel returns true for every input, and each argument reads behind the call as it read before. CONDITIONS: none.
-/
import Derived.Test.YtdppidhnlbfpmaaWm
import Derived.ShutString
import Derived.ChangeOld
namespace Go.Proofs.Ytdppidhnlbfpmaa.fnMeetRel
open Go.ChangeShapes Go.WideShapes Go.ChangeAt Go.RowKit
open Go.ChangeMaps (open_string shut_string)
set_option linter.unusedVariables false
open Go.Proofs.Ytdppidhnlbfpmaa
theorem own : ownKnob Try.prog.godebug = none := by kernel_rfl
theorem laidOut : laidOutB Try.prog = true := by kernel_rfl

theorem walkBig (w : World) (a0 : Option Addr) (cap0 : Nat) (bs0 : List Int) (h0 : Rd w a0 (bytes bs0)) (f0 : ∀ n ∈ bs0, (Lit.int .u8 n).wf = true) (d0 : bs0.length ≤ cap0 ∧ cap0 ≤ 9223372036854775807) (hb : 1048576 < bs0.length) :
    Calls Try.prog 4 #[.slice a0 bs0.length cap0] w fun e w' => e = .returned (.bool true) ∧ Below w.heap.size w w' := by
  clear h0 f0 d0
  have g : (1048576 : Int) < bs0.length := by omega
  go_enter Try.func4, Try.ntmps4
  go_wp2
  go_ret
  exact ⟨rfl, Below.refl _ _⟩

set_option maxHeartbeats 1600000 in
theorem walkSmall (w : World) (a0 : Option Addr) (cap0 : Nat) (bs0 : List Int) (h0 : Rd w a0 (bytes bs0)) (f0 : ∀ n ∈ bs0, (Lit.int .u8 n).wf = true) (d0 : bs0.length ≤ cap0 ∧ cap0 ≤ 9223372036854775807) (s0 : bs0.length ≤ 1048576) :
    Calls Try.prog 4 #[.slice a0 bs0.length cap0] w fun e w' => e = .returned (.bool true) ∧ Below w.heap.size w w' := by
  have g0 : decide ((1048576 : Int) < bs0.length) = false := by simp; omega
  have DA0 : DrawArgs w a0 cap0 bs0 := ⟨h0, byte_wf f0, s0, d0.1, d0.2⟩
  have CD0 := hid (fun (w1 : World) (hb : Below w.heap.size w w1) => drawMeetRel_c w1 a0 cap0 bs0 (DA0.below hb))
  clear h0 f0 d0 s0 DA0
  have B0 : Below w.heap.size w w := Below.refl _ _
  go_enter Try.func4, Try.ntmps4
  go_wp2_with fail
  refine (CD0.out _ B0).mono ?_
  rintro e w1 ⟨xs, ys, a_x, a_y, c_x, c_y, rfl, o_x, o_y, b1, l_xs, l_ys⟩
  replace o_x := own_up o_x B0.size
  replace o_y := own_up o_y B0.size
  have B1 : Below w.heap.size w w1 := B0.trans (b1.mono B0.size)
  obtain ⟨ms, h_ms⟩ : ∃ z, z = lift2 meetN xs ys := ⟨_, rfl⟩
  have l_ms : ms.length ≤ 1048576 := by rw [h_ms]; exact length_lift2 (fun us vs h => Nat.le_of_eq (length_meet h)) _ _
  replace h_ms := hid h_ms
  have H2_1 := fun (w : World) (a1 a2 : Option Addr) (c1 c2 : Nat) (h1 : Rd w a1 (ints xs)) (h2 : Rd w a2 (ints ys)) => implMeet_c w a1 a2 c1 c2 xs ys h1 h2 (by omega) (by omega)
  rw [← h_ms.out] at H2_1
  replace H2_1 := hid H2_1
  go_wp2_with fail
  refine (H2_1.out _ _ _ _ _ (Rd.own o_x) (Rd.own o_y)).mono ?_
  rintro e w2 ⟨a_m, c_m, rfl, o_m, b2⟩
  replace o_m := own_up o_m B1.size
  replace o_x := own_below o_x b2
  replace o_y := own_below o_y b2
  have B2 : Below w.heap.size w w2 := B1.trans (b2.mono B1.size)
  have H2_2 := fun (w : World) (a1 a2 : Option Addr) (c1 c2 : Nat) (h1 : Rd w a1 (ints xs)) (h2 : Rd w a2 (ints ys)) => specMeet_c w a1 a2 c1 c2 xs ys h1 h2 (by omega) (by omega)
  rw [← h_ms.out] at H2_2
  replace H2_2 := hid H2_2
  go_wp2_with fail
  refine (H2_2.out _ _ _ _ _ (Rd.own o_x) (Rd.own o_y)).mono ?_
  rintro e w3 ⟨a_m2, c_m2, rfl, o_m2, b3⟩
  replace o_m2 := own_up o_m2 B2.size
  replace o_x := own_below o_x b3
  replace o_y := own_below o_y b3
  replace o_m := own_below o_m b3
  have B3 : Below w.heap.size w w3 := B2.trans (b3.mono B2.size)
  have H2_3 := hid (fun (w : World) (a1 a2 : Option Addr) (c1 c2 : Nat) (h1 : Rd w a1 (ints ms)) (h2 : Rd w a2 (ints ms)) => wmSame_c w a1 a2 c1 c2 ms h1 h2 l_ms)
  go_wp2_with fail
  refine (H2_3.out _ _ _ _ _ (Rd.own o_m) (Rd.own o_m2)).mono ?_
  rintro e w4 ⟨rfl, b4⟩
  replace o_x := own_below o_x b4
  replace o_y := own_below o_y b4
  replace o_m := own_below o_m b4
  replace o_m2 := own_below o_m2 b4
  have B4 : Below w.heap.size w w4 := B3.trans (b4.mono B3.size)
  by_cases v1 : relValid xs = true
  · replace v1 := hid v1
    have H4_4 := fun (w : World) (a1 : Option Addr) (c1 : Nat) (h1 : Rd w a1 (ints xs)) => relValidI_c w a1 c1 xs h1 (by omega)
    rw [v1.out] at H4_4
    replace H4_4 := hid H4_4
    go_wp2_with fail
    refine (H4_4.out _ _ _ (Rd.own o_x)).mono ?_
    rintro e w5 ⟨rfl, b5⟩
    replace o_x := own_below o_x b5
    replace o_y := own_below o_y b5
    replace o_m := own_below o_m b5
    have B5 : Below w.heap.size w w5 := B4.trans (b5.mono B4.size)
    have E := sym_inverse v1.out
    have E2 := sym_within v1.out
    obtain ⟨is, h_is⟩ : ∃ z, z = lift1 inverseN xs := ⟨_, rfl⟩
    have l_is : is.length ≤ 1048576 := by rw [h_is]; exact length_lift1 (fun us h => Nat.le_of_eq (length_inverse us)) _
    replace h_is := hid h_is
    rw [← h_is.out] at E E2
    obtain ⟨ss, h_ss⟩ : ∃ z, z = lift2 meetN xs is := ⟨_, rfl⟩
    have l_ss : ss.length ≤ 1048576 := by rw [h_ss]; exact length_lift2 (fun us vs h => Nat.le_of_eq (length_meet h)) _ _
    replace h_ss := hid h_ss
    rw [← h_ss.out] at E E2
    replace E := hid E
    replace E2 := hid E2
    have H4_5 := fun (w : World) (a1 : Option Addr) (c1 : Nat) (h1 : Rd w a1 (ints xs)) => implInverse_c w a1 c1 xs h1 (by omega)
    rw [← h_is.out] at H4_5
    replace H4_5 := hid H4_5
    go_wp2_with fail
    refine (H4_5.out _ _ _ (Rd.own o_x)).mono ?_
    rintro e w6 ⟨a_i, c_i, rfl, o_i, b6⟩
    replace o_i := own_up o_i B5.size
    replace o_x := own_below o_x b6
    replace o_y := own_below o_y b6
    replace o_m := own_below o_m b6
    have B6 : Below w.heap.size w w6 := B5.trans (b6.mono B5.size)
    have H4_6 := fun (w : World) (a1 a2 : Option Addr) (c1 c2 : Nat) (h1 : Rd w a1 (ints xs)) (h2 : Rd w a2 (ints is)) => implMeet_c w a1 a2 c1 c2 xs is h1 h2 (by omega) l_is
    rw [← h_ss.out] at H4_6
    replace H4_6 := hid H4_6
    go_wp2_with fail
    refine (H4_6.out _ _ _ _ _ (Rd.own o_x) (Rd.own o_i)).mono ?_
    rintro e w7 ⟨a_s, c_s, rfl, o_s, b7⟩
    replace o_s := own_up o_s B6.size
    replace o_x := own_below o_x b7
    replace o_y := own_below o_y b7
    replace o_m := own_below o_m b7
    replace o_i := own_below o_i b7
    have B7 : Below w.heap.size w w7 := B6.trans (b7.mono B6.size)
    have H4_7 := fun (w : World) (a1 : Option Addr) (c1 : Nat) (h1 : Rd w a1 (ints ss)) => implInverse_c w a1 c1 ss h1 l_ss
    rw [E.out] at H4_7
    replace H4_7 := hid H4_7
    go_wp2_with fail
    refine (H4_7.out _ _ _ (Rd.own o_s)).mono ?_
    rintro e w8 ⟨a_t, c_t, rfl, o_t, b8⟩
    replace o_t := own_up o_t B7.size
    replace o_x := own_below o_x b8
    replace o_y := own_below o_y b8
    replace o_m := own_below o_m b8
    replace o_s := own_below o_s b8
    have B8 : Below w.heap.size w w8 := B7.trans (b8.mono B7.size)
    have H4_8 := hid (fun (w : World) (a1 a2 : Option Addr) (c1 c2 : Nat) (h1 : Rd w a1 (ints ss)) (h2 : Rd w a2 (ints ss)) => wmSame_c w a1 a2 c1 c2 ss h1 h2 l_ss)
    go_wp2_with fail
    refine (H4_8.out _ _ _ _ _ (Rd.own o_t) (Rd.own o_s)).mono ?_
    rintro e w9 ⟨rfl, b9⟩
    replace o_x := own_below o_x b9
    replace o_y := own_below o_y b9
    replace o_m := own_below o_m b9
    replace o_s := own_below o_s b9
    replace o_t := own_below o_t b9
    have B9 : Below w.heap.size w w9 := B8.trans (b9.mono B8.size)
    have H4_9 := fun (w : World) (a1 a2 : Option Addr) (c1 c2 : Nat) (h1 : Rd w a1 (ints ss)) (h2 : Rd w a2 (ints xs)) => implWithin_c w a1 a2 c1 c2 ss xs h1 h2 l_ss (by omega)
    rw [E2.out] at H4_9
    replace H4_9 := hid H4_9
    go_wp2_with fail
    refine (H4_9.out _ _ _ _ _ (Rd.own o_s) (Rd.own o_x)).mono ?_
    rintro e w10 ⟨rfl, b10⟩
    replace o_x := own_below o_x b10
    replace o_y := own_below o_y b10
    replace o_m := own_below o_m b10
    replace o_s := own_below o_s b10
    have B10 : Below w.heap.size w w10 := B9.trans (b10.mono B9.size)
    by_cases v2 : ms.length = xs.length
    · have ev2 : ((ms.length : Int) != xs.length) = false := by simp [v2]
      have iv2 : ((ms.length : Int) == xs.length) = true := by simp [v2]
      replace v2 := hid v2
      have E3 := hid (meet_within (ys := ys) v1.out (by rw [← h_ms.out]; exact v2.out))
      have H6_10 := fun (w : World) (a1 a2 : Option Addr) (c1 c2 : Nat) (h1 : Rd w a1 (ints ms)) (h2 : Rd w a2 (ints xs)) => implWithin_c w a1 a2 c1 c2 ms xs h1 h2 l_ms (by omega)
      rw [(show withinF ms xs = true by rw [h_ms.out]; exact E3.out)] at H6_10
      replace H6_10 := hid H6_10
      go_wp2_with fail
      refine (H6_10.out _ _ _ _ _ (Rd.own o_m) (Rd.own o_x)).mono ?_
      rintro e w11 ⟨rfl, b11⟩
      replace o_x := own_below o_x b11
      replace o_y := own_below o_y b11
      replace o_m := own_below o_m b11
      replace o_s := own_below o_s b11
      have B11 : Below w.heap.size w w11 := B10.trans (b11.mono B10.size)
      go_wp2
      go_ret
      exact ⟨rfl, B11⟩
    · have ev2 : ((ms.length : Int) != xs.length) = true := by simp; omega
      have iv2 : ((ms.length : Int) == xs.length) = false := by simp; omega
      replace v2 := hid v2
      go_wp2
      go_ret
      exact ⟨rfl, B10⟩
  · replace v1 : relValid xs = false := by simpa using v1
    replace v1 := hid v1
    have H4_4 := fun (w : World) (a1 : Option Addr) (c1 : Nat) (h1 : Rd w a1 (ints xs)) => relValidI_c w a1 c1 xs h1 (by omega)
    rw [v1.out] at H4_4
    replace H4_4 := hid H4_4
    go_wp2_with fail
    refine (H4_4.out _ _ _ (Rd.own o_x)).mono ?_
    rintro e w5 ⟨rfl, b5⟩
    replace o_x := own_below o_x b5
    replace o_y := own_below o_y b5
    replace o_m := own_below o_m b5
    have B5 : Below w.heap.size w w5 := B4.trans (b5.mono B4.size)
    have H4_5 := fun (w : World) (a1 a2 : Option Addr) (c1 c2 : Nat) (h1 : Rd w a1 (ints xs)) (h2 : Rd w a2 (ints ys)) => specMeet_c w a1 a2 c1 c2 xs ys h1 h2 (by omega) (by omega)
    rw [← h_ms.out] at H4_5
    replace H4_5 := hid H4_5
    go_wp2_with fail
    refine (H4_5.out _ _ _ _ _ (Rd.own o_x) (Rd.own o_y)).mono ?_
    rintro e w6 ⟨a_m3, c_m3, rfl, o_m3, b6⟩
    replace o_m3 := own_up o_m3 B5.size
    replace o_x := own_below o_x b6
    replace o_y := own_below o_y b6
    replace o_m := own_below o_m b6
    have B6 : Below w.heap.size w w6 := B5.trans (b6.mono B5.size)
    have H4_6 := hid (fun (w : World) (a1 a2 : Option Addr) (c1 c2 : Nat) (h1 : Rd w a1 (ints ms)) (h2 : Rd w a2 (ints ms)) => wmSame_c w a1 a2 c1 c2 ms h1 h2 l_ms)
    go_wp2_with fail
    refine (H4_6.out _ _ _ _ _ (Rd.own o_m) (Rd.own o_m3)).mono ?_
    rintro e w7 ⟨rfl, b7⟩
    replace o_x := own_below o_x b7
    replace o_y := own_below o_y b7
    replace o_m := own_below o_m b7
    replace o_m3 := own_below o_m3 b7
    have B7 : Below w.heap.size w w7 := B6.trans (b7.mono B6.size)
    go_wp2
    go_ret
    exact ⟨rfl, B7⟩

theorem walk (w : World) (a0 : Option Addr) (cap0 : Nat) (bs0 : List Int) (h0 : Rd w a0 (bytes bs0)) (f0 : ∀ n ∈ bs0, (Lit.int .u8 n).wf = true) (d0 : bs0.length ≤ cap0 ∧ cap0 ≤ 9223372036854775807) :
    Calls Try.prog 4 #[.slice a0 bs0.length cap0] w fun e w' => e = .returned (.bool true) ∧ Below w.heap.size w w' := by
  by_cases hb : 1048576 < bs0.length
  · exact walkBig w a0 cap0 bs0 h0 f0 d0 hb
  · exact walkSmall w a0 cap0 bs0 h0 f0 d0 (by omega)

set_option maxRecDepth 100000 in
theorem lifted (os : Os) (started : os.Started) (H : Type) (enc : TypeId × Value → H) :
    ReturnsInHanded {} Try.checked os 4 .any (Rows.fnMeetRelSpec.pre6 enc Try.prog Try.f4 Rows.fnMeetRelRow.domain false) (Rows.fnMeetRelSpec.post enc Try.prog Try.f4 false true false false) := by
  refine returnsInHanded_of_change (C := Try.checked) own started (by kernel_rfl) Try.func4
    (ChangeSpec.witness6 (enc := enc) (C := Try.checked) false ⟨#[], #[.slice none 0 0], []⟩ 8 (by kernel_rfl) (by kernel_rfl) (by kernel_rfl) (by kernel_rfl)) ?_
  intro W base args ds gs before hval0 hW hcnd _
  have hval : ∀ (j : Nat) t v, Try.f4.params[j]? = some t → args[j]? = some v → Value.okWide Try.prog W .any base t v := hval0
  have hW' := hW
  obtain ⟨p, q, hA0, hV, rfl, hfz, hnd⟩ := hW
  have hA : DataW.TrodAll enc Try.prog W 0 (fun _ => true) true Try.f4.params.toList args.toList ds p := hA0
  rw [Try.params4] at hA hval
  obtain ⟨v0, vs0, d0, ds0, p0, q0, hargs, rfl, rfl, h0, r0⟩ := trodAll_cons hA
  obtain ⟨rfl, rfl, rfl⟩ := trodAll_nil r0
  obtain rfl : args = #[v0] := by cases args; simp_all
  obtain ⟨rfl, rfl⟩ := trodVars_none hV
  obtain ⟨a0, len0, cap0, rfl⟩ := okWide_slice Try.underlying22 (hval 0 22 v0 rfl rfl)
  have k0 := h0
  have lt0 : ∀ x ∈ p0, x.block < W.heap.size := by obtain ⟨m, hm⟩ := k0; exact DataW.trod_lt m _ _ _ hm
  obtain ⟨z0, w0⟩ : ∃ zs, IsRow .u8 W a0 len0 cap0 zs := by
    obtain ⟨fuel, hf⟩ := h0
    rcases open_ints Try.underlying22 Try.underlying5 (by kernel_rfl) hf with ⟨hcs, _⟩ | ⟨x, l, c, zs, hcs, _, hl, hm, hz, _, hcell, hwz⟩
    · simp [Value.cells] at hcs
      obtain ⟨rfl, rfl, rfl⟩ := hcs
      exact ⟨[], .inl ⟨rfl, rfl, rfl, rfl⟩⟩
    · simp [Value.cells] at hcs
      obtain ⟨rfl, rfl, rfl⟩ := hcs
      exact ⟨zs, .inr ⟨_, rfl, hl, hm, by simpa using hz, hcell, hwz⟩⟩
  obtain ⟨x0, hx0, rd0, wf0⟩ := w0.rd
  subst hx0
  have bd0 := w0.cap
  clear hA0 hval0
  refine (walk W a0 cap0 x0 rd0 wf0 bd0).mono fun e W' ⟨he, bel⟩ => ?_
  subst he
  exact ⟨_, rfl, _, _, _, [], _, [], hW', trodAll_mk1 (shut_bool Try.underlying4 _), (trodAll_cons_mk (Below.trod laidOut (by kernel_rfl) (of_decide_eq_true (by kernel_rfl)) k0 bel lt0) trodAll_mk0), rfl, bel.frame _, fun h => by cases h⟩

theorem over : Rows.fnMeetRelRow.holds Try.pinned (OpenSpec.ofChange Rows.fnMeetRelSpec) :=
  OpenClaim.holds_of_wide 4 Try.f4 rfl rfl rfl rfl rfl rfl rfl ⟨rfl, rfl, rfl, rfl, rfl⟩ rfl rfl rfl rfl rfl (by kernel_rfl) Try.func4 (by kernel_rfl)
    (of_decide_eq_true (by kernel_rfl)) (by unfold Func.isWrapper; first | (rw [if_pos (by decide +kernel)]; kernel_rfl) | (rw [if_neg (by decide +kernel)]; exact ⟨rfl, rfl⟩))
    (fun os started H enc _ => lifted os started H enc)

theorem proved : Rows.FnMeetRelSaid := over
#print axioms proved
end Go.Proofs.Ytdppidhnlbfpmaa.fnMeetRel
