/-
  PROVED HERE: laws.FnChoicesLong returns true for every input, and each argument reads behind the call as it read before. CONDITIONS: none.
-/
import Derived.Test.YthlmfjoiicnomaaVr
import Derived.Test.YthlmfjoiicnomaaVg
import Derived.Test.YthlmfjoiicnomaaWw
import Derived.Test.YthlmfjoiicnomaaWm
import Derived.Test.YthlmfjoiicnomaaWy
import Derived.ShutString
import Derived.ChangeOld
namespace Go.Proofs.Ythlmfjoiicnomaa.fnChoicesLong
open Go.ChangeShapes Go.WideShapes Go.ChangeAt Go.RowKit
open Go.ChangeMaps (open_string shut_string)
set_option linter.unusedVariables false
open Go.Proofs.Ythlmfjoiicnomaa
theorem own : ownKnob Try.prog.godebug = none := by kernel_rfl
theorem laidOut : laidOutB Try.prog = true := by kernel_rfl

theorem walkBig (w : World) (a0 : Option Addr) (cap0 : Nat) (bs0 : List Int) (h0 : Rd w a0 (u8s bs0)) (f0 : ∀ n ∈ bs0, (Lit.int .u8 n).wf = true) (d0 : bs0.length ≤ cap0 ∧ cap0 ≤ 9223372036854775807) (hb : 1048576 < bs0.length) :
    Calls Try.prog 3 #[.slice a0 bs0.length cap0] w fun e w' => e = .returned (.bool true) ∧ Below w.heap.size w w' := by
  clear h0 f0 d0
  have g : (1048576 : Int) < bs0.length := by omega
  go_enter Try.func3, Try.ntmps3
  go_wp2
  go_ret
  exact ⟨rfl, Below.refl _ _⟩

set_option maxRecDepth 100000 in
set_option maxHeartbeats 3200000 in
theorem walkSmall (w : World) (a0 : Option Addr) (cap0 : Nat) (bs0 : List Int) (h0 : Rd w a0 (u8s bs0)) (f0 : ∀ n ∈ bs0, (Lit.int .u8 n).wf = true) (d0 : bs0.length ≤ cap0 ∧ cap0 ≤ 9223372036854775807) (s0 : bs0.length ≤ 1048576) :
    Calls Try.prog 3 #[.slice a0 bs0.length cap0] w fun e w' => e = .returned (.bool true) ∧ Below w.heap.size w w' := by
  have g0 : decide ((1048576 : Int) < bs0.length) = false := by simp; omega
  have CD0 := hid (fun (w1 : World) (hb : Below w.heap.size w w1) => drawRC_c w1 a0 cap0 bs0 (h0.below hb) (byte_wf f0) s0 d0.1 d0.2)
  clear h0 f0 d0 s0
  go_enter Try.func3, Try.ntmps3
  go_wp2_with fail
  refine (CD0.out _ (Below.refl _ _)).mono ?_
  rintro e w1 ⟨p, ms, a1, c1, a2, c2, rfl, hr1, ho1, hz1, hl1, hlc1, hx1, hb1⟩
  have hpl := sizeP_len p
  have HR1 := hid hr1
  have HO1 := hid ho1
  have HB1 := hid hb1
  have hs1 := hb1.size
  have HRI := hid (fun w h h' => rcI_c w a1 c1 p a2 c2 ms h h' (by omega) (by omega))
  have HRS := hid (fun w h h' => rcS_c w a1 c1 p a2 c2 ms h h' (by omega) (by omega) (fun m hm => by have := hx1 m hm; omega))
  have HWM := hid (fun w a a' c c' xs ys h h' hl hl' => wmInts_c w a a' c c' xs ys h h' hl hl')
  have HLEN := hid (runCho_len p ms)
  have HCT := hid (fun (h : (runCho p ms).2 = true) => show (ms.length : Int) = (sumTo p.length p : Nat) from by rw [sumTo_all]; exact cho_count h)
  have HST := hid (fun k => Nat.le_trans (sumTo_le p k) (show (p.map List.length).sum ≤ 100 by unfold sizeP at hz1; omega))
  have HSS := hid (fun k xs (hx : p[k]? = some xs) => sumTo_succ hx)
  obtain ⟨R, hR⟩ : ∃ R, R = runCho p ms := ⟨_, rfl⟩
  rw [← hR] at HRI HRS HLEN HCT
  obtain ⟨n, hn⟩ : ∃ n, n = p.length := ⟨_, rfl⟩
  have HN := hid hn
  obtain ⟨m, hm⟩ : ∃ m, m = ms.length := ⟨_, rfl⟩
  rw [← hn] at hpl HRI HRS HCT ⊢
  rw [← hm] at hl1 HRI HRS HCT ⊢
  clear hr1 ho1 hb1 hn hm hR
  go_wp2_with fail
  refine (HRI.out _ HR1.out HO1.out).mono ?_
  rintro e w2 ⟨a3, c3, rfl, ho2, hb2⟩
  have HX2 := hid (Rd.own ho2)
  have HR2 := hid (HR1.out.below hb2)
  have HO2 := hid (HO1.out.below hb2)
  have HB2 := hid (HB1.out.trans (hb2.mono HB1.out.size))
  clear ho2 hb2
  go_wp2_with fail
  refine (HRS.out _ HR2.out HO2.out).mono ?_
  rintro e w3 ⟨a4, c4, rfl, ho3, hb3⟩
  have HY3 := hid (Rd.own ho3)
  have HX3 := hid (HX2.out.below hb3)
  have HR3 := hid (HR2.out.below hb3)
  have HB3 := hid (HB2.out.trans (hb3.mono HB2.out.size))
  have hs3 := HB3.out.size
  clear ho3 hb3
  have HW3 := hid (HWM.out w3 a3 a4 c3 c4 R.1 R.1 HX3.out HY3.out HLEN.out HLEN.out)
  rw [decide_eq_true rfl] at HW3
  obtain ⟨L, hL⟩ : ∃ L, L = R.1.length := ⟨_, rfl⟩
  rw [← hL] at HW3 ⊢
  have HLR := hid hL
  obtain ⟨B, hB⟩ : ∃ B, B = R.2 := ⟨_, rfl⟩
  rw [← hB] at HCT ⊢
  have e0 : (B != B) = false := by simp
  clear hL hB
  cases B
  · go_wp2_with fail
    refine HW3.out.mono ?_
    rintro e w4 ⟨rfl, hb4⟩
    have HB4 := hid (HB3.out.trans (hb4.mono hs3))
    have HY4 := hid (HY3.out.below hb4)
    have HX4 := hid (HX3.out.below hb4)
    have HW4 := hid (HWM.out w4 a3 a4 c3 c4 R.1 R.1 HX4.out HY4.out HLEN.out HLEN.out)
    rw [decide_eq_true rfl, ← HLR.out] at HW4
    clear hb4
    go_wp2_with fail
    refine HW4.out.mono ?_
    rintro e w5 ⟨rfl, hb5⟩
    have HB5 := hid (HB4.out.trans (hb5.mono HB4.out.size))
    clear hb5
    go_wp2_with fail
    go_ret
    exact ⟨rfl, HB5.out⟩
  · have HTOT := hid (HCT.out rfl)
    go_wp2_with fail
    refine HW3.out.mono ?_
    rintro e w4 ⟨rfl, hb4⟩
    have HB4 := hid (HB3.out.trans (hb4.mono hs3))
    have HR4 := hid (HR3.out.below hb4)
    clear hb4
    go_wp2_with fail
    go_loop [9, 10] (fun v i => ∃ k : Nat, k ≤ n ∧ i = .int .i64 k ∧ v = .int .i64 ((sumTo k p : Nat) : Int)) (fun v i => n - (intOf i).toNat)
    case atStart => exact ⟨0, Nat.zero_le _, rfl, by rw [sumTo_zero]; rfl⟩
    case round =>
      obtain ⟨k, hk, rfl, rfl⟩ := hrel
      have hsk := HST.out k
      by_cases hkn : k < n
      · obtain ⟨pb, po, r, rc, xs, hpa, hplt, hpx, hpc, hpr, hpl'⟩ := HR4.out.at' k (by rw [← HN.out]; exact hkn)
        subst hpa
        have HS := hid (HSS.out k xs hpx)
        have hsk1 := HST.out (k + 1)
        obtain ⟨z, hz⟩ : ∃ z, z = xs.length := ⟨_, rfl⟩
        rw [← hz] at HS hpc hpl'
        have hz2 : z ≤ 100 := by have := HS.out; omega
        obtain ⟨s, hs⟩ : ∃ s, s = sumTo k p := ⟨_, rfl⟩
        rw [← hs] at HS hsk ⊢
        clear hpx hpr hz hs
        go_wp2_with fail
        go_round
        case rel => exact ⟨k + 1, by omega, by go_num, by rw [HS.out]; congr 1⟩
        case measure => simp [intOf]; omega
      · obtain rfl : k = n := by omega
        have HT := hid (show ((m : Int) == ((sumTo k p : Nat) : Int)) = true by rw [HTOT.out]; simp)
        obtain ⟨s, hs⟩ : ∃ s, s = sumTo k p := ⟨_, rfl⟩
        rw [← hs] at HT hsk ⊢
        clear hs
        have ht := HT.out
        go_wp2_with fail
        go_ret
        exact ⟨rfl, HB4.out⟩
theorem walk (w : World) (a0 : Option Addr) (cap0 : Nat) (bs0 : List Int) (h0 : Rd w a0 (u8s bs0)) (f0 : ∀ n ∈ bs0, (Lit.int .u8 n).wf = true) (d0 : bs0.length ≤ cap0 ∧ cap0 ≤ 9223372036854775807) :
    Calls Try.prog 3 #[.slice a0 bs0.length cap0] w fun e w' => e = .returned (.bool true) ∧ Below w.heap.size w w' := by
  by_cases hb : 1048576 < bs0.length
  · exact walkBig w a0 cap0 bs0 h0 f0 d0 hb
  · exact walkSmall w a0 cap0 bs0 h0 f0 d0 (by omega)

set_option maxRecDepth 100000 in
theorem lifted (os : Os) (started : os.Started) (H : Type) (enc : TypeId × Value → H) :
    ReturnsInHanded {} Try.checked os 3 .any (Rows.fnChoicesLongSpec.pre6 enc Try.prog Try.f3 Rows.fnChoicesLongRow.domain false) (Rows.fnChoicesLongSpec.post enc Try.prog Try.f3 false true false false) := by
  refine returnsInHanded_of_change (C := Try.checked) own started (by kernel_rfl) Try.func3
    (ChangeSpec.witness6 (enc := enc) (C := Try.checked) false ⟨#[], #[.slice none 0 0], []⟩ 8 (by kernel_rfl) (by kernel_rfl) (by kernel_rfl) (by kernel_rfl)) ?_
  intro W base args ds gs before hval0 hW hcnd _
  have hval : ∀ (j : Nat) t v, Try.f3.params[j]? = some t → args[j]? = some v → Value.okWide Try.prog W .any base t v := hval0
  have hW' := hW
  obtain ⟨p, q, hA0, hV, rfl, hfz, hnd⟩ := hW
  have hA : DataW.TrodAll enc Try.prog W 0 (fun _ => true) true Try.f3.params.toList args.toList ds p := hA0
  rw [Try.params3] at hA hval
  obtain ⟨v0, vs0, d0, ds0, p0, q0, hargs, rfl, rfl, h0, r0⟩ := trodAll_cons hA
  obtain ⟨rfl, rfl, rfl⟩ := trodAll_nil r0
  obtain rfl : args = #[v0] := by cases args; simp_all
  obtain ⟨rfl, rfl⟩ := trodVars_none hV
  obtain ⟨a0, len0, cap0, rfl⟩ := okWide_slice Try.underlying22 (hval 0 22 v0 rfl rfl)
  have k0 := h0
  have lt0 : ∀ x ∈ p0, x.block < W.heap.size := by obtain ⟨m, hm⟩ := k0; exact DataW.trod_lt m _ _ _ hm
  obtain ⟨z0, w0⟩ : ∃ zs, IsRow .u8 W a0 len0 cap0 zs := by
    obtain ⟨fuel, hf⟩ := h0
    rcases open_ints Try.underlying22 Try.underlying5 (by kernel_rfl) hf with ⟨hcs, _⟩ | ⟨x, l, c, zs, hcs, _, hl, hm, hz, _, hcell, hwz⟩
    · simp [Value.cells] at hcs
      obtain ⟨rfl, rfl, rfl⟩ := hcs
      exact ⟨[], .inl ⟨rfl, rfl, rfl, rfl⟩⟩
    · simp [Value.cells] at hcs
      obtain ⟨rfl, rfl, rfl⟩ := hcs
      exact ⟨zs, .inr ⟨_, rfl, hl, hm, by simpa using hz, hcell, hwz⟩⟩
  obtain ⟨x0, hx0, rd0, wf0⟩ := w0.rd
  subst hx0
  have bd0 := w0.cap
  clear hA0 hval0
  refine (walk W a0 cap0 x0 rd0 wf0 bd0).mono fun e W' ⟨he, bel⟩ => ?_
  subst he
  exact ⟨_, rfl, _, _, _, [], _, [], hW', trodAll_mk1 (shut_bool Try.underlying4 _), (trodAll_cons_mk (Below.trod laidOut (by kernel_rfl) (of_decide_eq_true (by kernel_rfl)) k0 bel lt0) trodAll_mk0), rfl, bel.frame _, fun h => by cases h⟩

theorem over : Rows.fnChoicesLongRow.holds Try.pinned (OpenSpec.ofChange Rows.fnChoicesLongSpec) :=
  OpenClaim.holds_of_wide 3 Try.f3 rfl rfl rfl rfl rfl rfl rfl ⟨rfl, rfl, rfl, rfl, rfl⟩ rfl rfl rfl rfl rfl (by kernel_rfl) Try.func3 (by kernel_rfl)
    (of_decide_eq_true (by kernel_rfl)) (by unfold Func.isWrapper; first | (rw [if_pos (by decide +kernel)]; kernel_rfl) | (rw [if_neg (by decide +kernel)]; exact ⟨rfl, rfl⟩))
    (fun os started H enc _ => lifted os started H enc)

theorem proved : Rows.FnChoicesLongSaid := over
#print axioms proved
end Go.Proofs.Ythlmfjoiicnomaa.fnChoicesLong
