/-
  PROVED HERE: laws.FnInverseRel returns true for every input, and each argument reads behind the call as it read before. CONDITIONS: none.
-/
import Derived.Test.YtdppidhnlbfpmaaWm
import Derived.Test.YtdppidhnlbfpmaaRelG
import Derived.Test.YtdppidhnlbfpmaaRelI
import Derived.Test.YtdppidhnlbfpmaaRelK
import Derived.ShutString
import Derived.ChangeOld
namespace Go.Proofs.Ytdppidhnlbfpmaa.fnInverseRel
open Go.ChangeShapes Go.WideShapes Go.ChangeAt Go.RowKit
open Go.ChangeMaps (open_string shut_string)
set_option linter.unusedVariables false
open Go.Proofs.Ytdppidhnlbfpmaa
theorem own : ownKnob Try.prog.godebug = none := by kernel_rfl
theorem laidOut : laidOutB Try.prog = true := by kernel_rfl

theorem walkBig (w : World) (a0 : Option Addr) (cap0 : Nat) (bs0 : List Int) (h0 : Rd w a0 (bytes bs0)) (f0 : ∀ n ∈ bs0, (Lit.int .u8 n).wf = true) (d0 : bs0.length ≤ cap0 ∧ cap0 ≤ 9223372036854775807) (hb : 1048576 < bs0.length) :
    Calls Try.prog 10 #[.slice a0 bs0.length cap0] w fun e w' => e = .returned (.bool true) ∧ Below w.heap.size w w' := by
  clear h0 f0 d0
  have g : (1048576 : Int) < bs0.length := by omega
  go_enter Try.func10, Try.ntmps10
  go_wp2
  go_ret
  exact ⟨rfl, Below.refl _ _⟩

set_option maxHeartbeats 1600000 in
theorem walkSmall (w : World) (a0 : Option Addr) (cap0 : Nat) (bs0 : List Int) (h0 : Rd w a0 (bytes bs0)) (f0 : ∀ n ∈ bs0, (Lit.int .u8 n).wf = true) (d0 : bs0.length ≤ cap0 ∧ cap0 ≤ 9223372036854775807) (s0 : bs0.length ≤ 1048576) :
    Calls Try.prog 10 #[.slice a0 bs0.length cap0] w fun e w' => e = .returned (.bool true) ∧ Below w.heap.size w w' := by
  have g0 : decide ((1048576 : Int) < bs0.length) = false := by simp; omega
  have DA0 : DrawArgs w a0 cap0 bs0 := ⟨h0, byte_wf f0, s0, d0.1, d0.2⟩
  have CD0 := hid (fun (w1 : World) (hb : Below w.heap.size w w1) => drawInverseRel_c w1 a0 cap0 bs0 (DA0.below hb))
  clear h0 f0 d0 s0 DA0
  have B0 : Below w.heap.size w w := Below.refl _ _
  go_enter Try.func10, Try.ntmps10
  go_wp2_with fail
  refine (CD0.out _ B0).mono ?_
  rintro e w1 ⟨xs, ⟨a_x, c_x, rfl, o_x, b1⟩, l_xs⟩
  replace o_x := own_up o_x B0.size
  have B1 : Below w.heap.size w w1 := B0.trans (b1.mono B0.size)
  obtain ⟨is, h_is⟩ : ∃ z, z = lift1 inverseN xs := ⟨_, rfl⟩
  have l_is : is.length ≤ 1048576 := by rw [h_is]; exact length_lift1 (fun us h => Nat.le_of_eq (length_inverse us)) _
  replace h_is := hid h_is
  have H2_1 := fun (w : World) (a1 : Option Addr) (c1 : Nat) (h1 : Rd w a1 (ints xs)) => implInverse_c w a1 c1 xs h1 (by omega)
  rw [← h_is.out] at H2_1
  replace H2_1 := hid H2_1
  go_wp2_with fail
  refine (H2_1.out _ _ _ (Rd.own o_x)).mono ?_
  rintro e w2 ⟨a_i, c_i, rfl, o_i, b2⟩
  replace o_i := own_up o_i B1.size
  replace o_x := own_below o_x b2
  have B2 : Below w.heap.size w w2 := B1.trans (b2.mono B1.size)
  have H2_2 := fun (w : World) (a1 : Option Addr) (c1 : Nat) (h1 : Rd w a1 (ints xs)) => specInverse_c w a1 c1 xs h1 (by omega)
  rw [← h_is.out] at H2_2
  replace H2_2 := hid H2_2
  go_wp2_with fail
  refine (H2_2.out _ _ _ (Rd.own o_x)).mono ?_
  rintro e w3 ⟨a_i2, c_i2, rfl, o_i2, b3⟩
  replace o_i2 := own_up o_i2 B2.size
  replace o_x := own_below o_x b3
  replace o_i := own_below o_i b3
  have B3 : Below w.heap.size w w3 := B2.trans (b3.mono B2.size)
  have H2_3 := hid (fun (w : World) (a1 a2 : Option Addr) (c1 c2 : Nat) (h1 : Rd w a1 (ints is)) (h2 : Rd w a2 (ints is)) => wmSame_c w a1 a2 c1 c2 is h1 h2 l_is)
  go_wp2_with fail
  refine (H2_3.out _ _ _ _ _ (Rd.own o_i) (Rd.own o_i2)).mono ?_
  rintro e w4 ⟨rfl, b4⟩
  replace o_x := own_below o_x b4
  replace o_i := own_below o_i b4
  replace o_i2 := own_below o_i2 b4
  have B4 : Below w.heap.size w w4 := B3.trans (b4.mono B3.size)
  by_cases v1 : relValid xs = true
  · replace v1 := hid v1
    have H4_4 := fun (w : World) (a1 : Option Addr) (c1 : Nat) (h1 : Rd w a1 (ints xs)) => relValidI_c w a1 c1 xs h1 (by omega)
    rw [v1.out] at H4_4
    replace H4_4 := hid H4_4
    go_wp2_with fail
    refine (H4_4.out _ _ _ (Rd.own o_x)).mono ?_
    rintro e w5 ⟨rfl, b5⟩
    replace o_x := own_below o_x b5
    replace o_i := own_below o_i b5
    have B5 : Below w.heap.size w w5 := B4.trans (b5.mono B4.size)
    have E1 := inverse_twice v1.out
    have E2 := inverse_count v1.out
    have E3 := inverse_closure v1.out
    rw [← h_is.out] at E1 E2 E3
    obtain ⟨ks, h_ks⟩ : ∃ z, z = lift1 closureN is := ⟨_, rfl⟩
    have l_ks : ks.length ≤ 1048576 := by rw [h_ks]; exact length_lift1 (fun us h => Nat.le_of_eq (length_closureN us)) _
    replace h_ks := hid h_ks
    obtain ⟨cs, h_cs⟩ : ∃ z, z = lift1 closureN xs := ⟨_, rfl⟩
    have l_cs : cs.length ≤ 1048576 := by rw [h_cs]; exact length_lift1 (fun us h => Nat.le_of_eq (length_closureN us)) _
    replace h_cs := hid h_cs
    rw [← h_ks.out, ← h_cs.out] at E3
    obtain ⟨n, h_n⟩ : ∃ z, z = countF xs := ⟨_, rfl⟩
    have l_n : n ≤ 256 := by rw [h_n]; exact countF_le _
    replace h_n := hid h_n
    rw [← h_n.out] at E2
    replace E1 := hid E1
    replace E2 := hid E2
    replace E3 := hid E3.symm
    have H4_5 := fun (w : World) (a1 : Option Addr) (c1 : Nat) (h1 : Rd w a1 (ints is)) => implInverse_c w a1 c1 is h1 l_is
    rw [E1.out] at H4_5
    replace H4_5 := hid H4_5
    go_wp2_with fail
    refine (H4_5.out _ _ _ (Rd.own o_i)).mono ?_
    rintro e w6 ⟨a_j, c_j, rfl, o_j, b6⟩
    replace o_j := own_up o_j B5.size
    replace o_x := own_below o_x b6
    replace o_i := own_below o_i b6
    have B6 : Below w.heap.size w w6 := B5.trans (b6.mono B5.size)
    have H4_6 := hid (fun (w : World) (a1 a2 : Option Addr) (c1 c2 : Nat) (h1 : Rd w a1 (ints xs)) (h2 : Rd w a2 (ints xs)) => wmSame_c w a1 a2 c1 c2 xs h1 h2 (by omega))
    go_wp2_with fail
    refine (H4_6.out _ _ _ _ _ (Rd.own o_j) (Rd.own o_x)).mono ?_
    rintro e w7 ⟨rfl, b7⟩
    replace o_x := own_below o_x b7
    replace o_i := own_below o_i b7
    replace o_j := own_below o_j b7
    have B7 : Below w.heap.size w w7 := B6.trans (b7.mono B6.size)
    have H4_7 := fun (w : World) (a1 : Option Addr) (c1 : Nat) (h1 : Rd w a1 (ints is)) => implCount_c w a1 c1 is h1 l_is
    rw [E2.out] at H4_7
    replace H4_7 := hid H4_7
    go_wp2_with fail
    refine (H4_7.out _ _ _ (Rd.own o_i)).mono ?_
    rintro e w8 ⟨rfl, b8⟩
    replace o_x := own_below o_x b8
    replace o_i := own_below o_i b8
    have B8 : Below w.heap.size w w8 := B7.trans (b8.mono B7.size)
    have H4_8 := fun (w : World) (a1 : Option Addr) (c1 : Nat) (h1 : Rd w a1 (ints xs)) => implCount_c w a1 c1 xs h1 (by omega)
    rw [← h_n.out] at H4_8
    replace H4_8 := hid H4_8
    go_wp2_with fail
    refine (H4_8.out _ _ _ (Rd.own o_x)).mono ?_
    rintro e w9 ⟨rfl, b9⟩
    replace o_x := own_below o_x b9
    replace o_i := own_below o_i b9
    have B9 : Below w.heap.size w w9 := B8.trans (b9.mono B8.size)
    have H4_9 := fun (w : World) (a1 : Option Addr) (c1 : Nat) (h1 : Rd w a1 (ints is)) => implClosure_c w a1 c1 is h1 l_is
    rw [← h_ks.out] at H4_9
    replace H4_9 := hid H4_9
    go_wp2_with fail
    refine (H4_9.out _ _ _ (Rd.own o_i)).mono ?_
    rintro e w10 ⟨a_k, c_k, rfl, o_k, b10⟩
    replace o_k := own_up o_k B9.size
    replace o_x := own_below o_x b10
    replace o_i := own_below o_i b10
    have B10 : Below w.heap.size w w10 := B9.trans (b10.mono B9.size)
    have H4_10 := fun (w : World) (a1 : Option Addr) (c1 : Nat) (h1 : Rd w a1 (ints xs)) => implClosure_c w a1 c1 xs h1 (by omega)
    rw [← h_cs.out] at H4_10
    replace H4_10 := hid H4_10
    go_wp2_with fail
    refine (H4_10.out _ _ _ (Rd.own o_x)).mono ?_
    rintro e w11 ⟨a_c, c_c, rfl, o_c, b11⟩
    replace o_c := own_up o_c B10.size
    replace o_x := own_below o_x b11
    replace o_i := own_below o_i b11
    replace o_k := own_below o_k b11
    have B11 : Below w.heap.size w w11 := B10.trans (b11.mono B10.size)
    have H4_11 := fun (w : World) (a1 : Option Addr) (c1 : Nat) (h1 : Rd w a1 (ints cs)) => implInverse_c w a1 c1 cs h1 l_cs
    rw [E3.out] at H4_11
    replace H4_11 := hid H4_11
    go_wp2_with fail
    refine (H4_11.out _ _ _ (Rd.own o_c)).mono ?_
    rintro e w12 ⟨a_k2, c_k2, rfl, o_k2, b12⟩
    replace o_k2 := own_up o_k2 B11.size
    replace o_x := own_below o_x b12
    replace o_i := own_below o_i b12
    replace o_k := own_below o_k b12
    replace o_c := own_below o_c b12
    have B12 : Below w.heap.size w w12 := B11.trans (b12.mono B11.size)
    have H4_12 := hid (fun (w : World) (a1 a2 : Option Addr) (c1 c2 : Nat) (h1 : Rd w a1 (ints ks)) (h2 : Rd w a2 (ints ks)) => wmSame_c w a1 a2 c1 c2 ks h1 h2 l_ks)
    go_wp2_with fail
    refine (H4_12.out _ _ _ _ _ (Rd.own o_k) (Rd.own o_k2)).mono ?_
    rintro e w13 ⟨rfl, b13⟩
    replace o_x := own_below o_x b13
    replace o_i := own_below o_i b13
    replace o_k := own_below o_k b13
    replace o_c := own_below o_c b13
    replace o_k2 := own_below o_k2 b13
    have B13 : Below w.heap.size w w13 := B12.trans (b13.mono B12.size)
    go_wp2
    go_ret
    exact ⟨rfl, B13⟩
  · replace v1 : relValid xs = false := by simpa using v1
    replace v1 := hid v1
    have H4_4 := fun (w : World) (a1 : Option Addr) (c1 : Nat) (h1 : Rd w a1 (ints xs)) => relValidI_c w a1 c1 xs h1 (by omega)
    rw [v1.out] at H4_4
    replace H4_4 := hid H4_4
    go_wp2_with fail
    refine (H4_4.out _ _ _ (Rd.own o_x)).mono ?_
    rintro e w5 ⟨rfl, b5⟩
    replace o_x := own_below o_x b5
    replace o_i := own_below o_i b5
    have B5 : Below w.heap.size w w5 := B4.trans (b5.mono B4.size)
    have z0 : ((is.length : Int) == 0) = true := by rw [h_is.out, lift1_no v1.out]; rfl
    have H4_5 := fun (w : World) (a1 : Option Addr) (c1 : Nat) (h1 : Rd w a1 (ints xs)) => specInverse_c w a1 c1 xs h1 (by omega)
    rw [← h_is.out] at H4_5
    replace H4_5 := hid H4_5
    go_wp2_with fail
    refine (H4_5.out _ _ _ (Rd.own o_x)).mono ?_
    rintro e w6 ⟨a_i3, c_i3, rfl, o_i3, b6⟩
    replace o_i3 := own_up o_i3 B5.size
    replace o_x := own_below o_x b6
    replace o_i := own_below o_i b6
    have B6 : Below w.heap.size w w6 := B5.trans (b6.mono B5.size)
    have H4_6 := hid (fun (w : World) (a1 a2 : Option Addr) (c1 c2 : Nat) (h1 : Rd w a1 (ints is)) (h2 : Rd w a2 (ints is)) => wmSame_c w a1 a2 c1 c2 is h1 h2 l_is)
    go_wp2_with fail
    refine (H4_6.out _ _ _ _ _ (Rd.own o_i) (Rd.own o_i3)).mono ?_
    rintro e w7 ⟨rfl, b7⟩
    replace o_x := own_below o_x b7
    replace o_i := own_below o_i b7
    replace o_i3 := own_below o_i3 b7
    have B7 : Below w.heap.size w w7 := B6.trans (b7.mono B6.size)
    go_wp2
    go_ret
    exact ⟨rfl, B7⟩

theorem walk (w : World) (a0 : Option Addr) (cap0 : Nat) (bs0 : List Int) (h0 : Rd w a0 (bytes bs0)) (f0 : ∀ n ∈ bs0, (Lit.int .u8 n).wf = true) (d0 : bs0.length ≤ cap0 ∧ cap0 ≤ 9223372036854775807) :
    Calls Try.prog 10 #[.slice a0 bs0.length cap0] w fun e w' => e = .returned (.bool true) ∧ Below w.heap.size w w' := by
  by_cases hb : 1048576 < bs0.length
  · exact walkBig w a0 cap0 bs0 h0 f0 d0 hb
  · exact walkSmall w a0 cap0 bs0 h0 f0 d0 (by omega)

set_option maxRecDepth 100000 in
theorem lifted (os : Os) (started : os.Started) (H : Type) (enc : TypeId × Value → H) :
    ReturnsInHanded {} Try.checked os 10 .any (Rows.fnInverseRelSpec.pre6 enc Try.prog Try.f10 Rows.fnInverseRelRow.domain false) (Rows.fnInverseRelSpec.post enc Try.prog Try.f10 false true false false) := by
  refine returnsInHanded_of_change (C := Try.checked) own started (by kernel_rfl) Try.func10
    (ChangeSpec.witness6 (enc := enc) (C := Try.checked) false ⟨#[], #[.slice none 0 0], []⟩ 8 (by kernel_rfl) (by kernel_rfl) (by kernel_rfl) (by kernel_rfl)) ?_
  intro W base args ds gs before hval0 hW hcnd _
  have hval : ∀ (j : Nat) t v, Try.f10.params[j]? = some t → args[j]? = some v → Value.okWide Try.prog W .any base t v := hval0
  have hW' := hW
  obtain ⟨p, q, hA0, hV, rfl, hfz, hnd⟩ := hW
  have hA : DataW.TrodAll enc Try.prog W 0 (fun _ => true) true Try.f10.params.toList args.toList ds p := hA0
  rw [Try.params10] at hA hval
  obtain ⟨v0, vs0, d0, ds0, p0, q0, hargs, rfl, rfl, h0, r0⟩ := trodAll_cons hA
  obtain ⟨rfl, rfl, rfl⟩ := trodAll_nil r0
  obtain rfl : args = #[v0] := by cases args; simp_all
  obtain ⟨rfl, rfl⟩ := trodVars_none hV
  obtain ⟨a0, len0, cap0, rfl⟩ := okWide_slice Try.underlying22 (hval 0 22 v0 rfl rfl)
  have k0 := h0
  have lt0 : ∀ x ∈ p0, x.block < W.heap.size := by obtain ⟨m, hm⟩ := k0; exact DataW.trod_lt m _ _ _ hm
  obtain ⟨z0, w0⟩ : ∃ zs, IsRow .u8 W a0 len0 cap0 zs := by
    obtain ⟨fuel, hf⟩ := h0
    rcases open_ints Try.underlying22 Try.underlying5 (by kernel_rfl) hf with ⟨hcs, _⟩ | ⟨x, l, c, zs, hcs, _, hl, hm, hz, _, hcell, hwz⟩
    · simp [Value.cells] at hcs
      obtain ⟨rfl, rfl, rfl⟩ := hcs
      exact ⟨[], .inl ⟨rfl, rfl, rfl, rfl⟩⟩
    · simp [Value.cells] at hcs
      obtain ⟨rfl, rfl, rfl⟩ := hcs
      exact ⟨zs, .inr ⟨_, rfl, hl, hm, by simpa using hz, hcell, hwz⟩⟩
  obtain ⟨x0, hx0, rd0, wf0⟩ := w0.rd
  subst hx0
  have bd0 := w0.cap
  clear hA0 hval0
  refine (walk W a0 cap0 x0 rd0 wf0 bd0).mono fun e W' ⟨he, bel⟩ => ?_
  subst he
  exact ⟨_, rfl, _, _, _, [], _, [], hW', trodAll_mk1 (shut_bool Try.underlying4 _), (trodAll_cons_mk (Below.trod laidOut (by kernel_rfl) (of_decide_eq_true (by kernel_rfl)) k0 bel lt0) trodAll_mk0), rfl, bel.frame _, fun h => by cases h⟩

theorem over : Rows.fnInverseRelRow.holds Try.pinned (OpenSpec.ofChange Rows.fnInverseRelSpec) :=
  OpenClaim.holds_of_wide 10 Try.f10 rfl rfl rfl rfl rfl rfl rfl ⟨rfl, rfl, rfl, rfl, rfl⟩ rfl rfl rfl rfl rfl (by kernel_rfl) Try.func10 (by kernel_rfl)
    (of_decide_eq_true (by kernel_rfl)) (by unfold Func.isWrapper; first | (rw [if_pos (by decide +kernel)]; kernel_rfl) | (rw [if_neg (by decide +kernel)]; exact ⟨rfl, rfl⟩))
    (fun os started H enc _ => lifted os started H enc)

theorem proved : Rows.FnInverseRelSaid := over
#print axioms proved
end Go.Proofs.Ytdppidhnlbfpmaa.fnInverseRel
