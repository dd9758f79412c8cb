/-
  PROVED HERE: laws.FnLocsOf returns true for every input, and each argument reads behind the call as it read before. CONDITIONS: none.
-/
import Derived.Test.YtciplfdgjbehgaaRdp
import Derived.Test.YtciplfdgjbehgaaWm
import Derived.ShutString
import Derived.ChangeOld
namespace Go.Proofs.Ytciplfdgjbehgaa.fnLocsOf
open Go.ChangeShapes Go.WideShapes Go.ChangeAt Go.RowKit
open Go.ChangeMaps (open_string shut_string)
set_option linter.unusedVariables false
open Go.Proofs.Ytciplfdgjbehgaa
theorem own : ownKnob Try.prog.godebug = none := by kernel_rfl
theorem laidOut : laidOutB Try.prog = true := by kernel_rfl

theorem walkBig (w : World) (a0 : Option Addr) (cap0 : Nat) (bs0 : List Int) (h0 : Rd w a0 (u8s bs0)) (f0 : ∀ n ∈ bs0, (Lit.int .u8 n).wf = true) (d0 : bs0.length ≤ cap0 ∧ cap0 ≤ 9223372036854775807) (hb : 1048576 < bs0.length) :
    Calls Try.prog 11 #[.slice a0 bs0.length cap0] w fun e w' => e = .returned (.bool true) ∧ Below w.heap.size w w' := by
  clear h0 f0 d0
  have g : (1048576 : Int) < bs0.length := by omega
  go_enter Try.func11, Try.ntmps11
  go_wp2
  go_ret
  exact ⟨rfl, Below.refl _ _⟩

set_option maxHeartbeats 3200000 in
theorem walkSmall (w : World) (a0 : Option Addr) (cap0 : Nat) (bs0 : List Int) (h0 : Rd w a0 (u8s bs0)) (f0 : ∀ n ∈ bs0, (Lit.int .u8 n).wf = true) (d0 : bs0.length ≤ cap0 ∧ cap0 ≤ 9223372036854775807) (s0 : bs0.length ≤ 1048576) :
    Calls Try.prog 11 #[.slice a0 bs0.length cap0] w fun e w' => e = .returned (.bool true) ∧ Below w.heap.size w w' := by
  have g0 : decide ((1048576 : Int) < bs0.length) = false := by simp; omega
  have CD0 := hid (fun (w1 : World) (hb : Below w.heap.size w w1) => drawLocsOf_c w1 a0 cap0 bs0 (h0.below hb) (byte_wf f0) s0 d0.1 d0.2)
  clear h0 f0 d0 s0
  go_enter Try.func11, Try.ntmps11
  go_wp2_with fail
  refine (CD0.out _ (Below.refl _ _)).mono ?_
  rintro e w1 ⟨p, a1, c1, rfl, hc1, hr1, hz1, hb1⟩
  have hpl := sizeP_len p
  have HR1 := hid hr1
  have HB1 := hid hb1
  have hs1 := hb1.size
  have HLI := hid (fun w h => loI_c w a1 c1 p h (by omega))
  have HLS := hid (fun w h => loS_c w a1 c1 p h (by omega))
  have HPV := hid (fun w h => pvI_c w a1 c1 p h (by omega))
  obtain ⟨V, hV⟩ : ∃ V, V = progValid p := ⟨_, rfl⟩
  rw [← hV] at HPV
  have HV := hid hV
  clear hV
  obtain ⟨n, hn⟩ : ∃ n, n = p.length := ⟨_, rfl⟩
  have HN := hid hn
  rw [← hn] at hc1 hpl HLI HLS HPV ⊢
  clear hr1 hb1 hn
  obtain ⟨L, hL⟩ : ∃ L, L = locsP p := ⟨_, rfl⟩
  have hL3 : L.length ≤ 3 := by rw [hL]; exact (locs_up p).1
  have HUP := hid (show ∀ k, (hk : k + 1 < L.length) → L[k]'(by omega) < L[k + 1] by rw [hL]; exact (locs_up p).2)
  obtain ⟨l, hl⟩ : ∃ l, l = L.length := ⟨_, rfl⟩
  have HL1 := hid hl
  have HLL := hid hL
  have hl3 : l ≤ 3 := by omega
  rw [← hL, ← hl] at HLI HLS
  clear hL hl
  go_wp2_with fail
  refine (HLI.out _ HR1.out).mono ?_
  rintro e w2 ⟨a2, c2, rfl, ho2, hb2⟩
  have HR2 := hid (HR1.out.below hb2)
  have HL2 := hid ho2
  have HB2 := hid (HB1.out.trans (hb2.mono HB1.out.size))
  have hs2 := hb2.size
  clear ho2 hb2
  go_wp2_with fail
  refine (HLS.out _ HR2.out).mono ?_
  rintro e w3 ⟨a3, c3, rfl, ho3, hb3⟩
  have HR3 := hid (HR2.out.below hb3)
  have HL3 := hid (own_below HL2.out hb3)
  have HS3 := hid (Rd.own ho3)
  have HB3 := hid (HB2.out.trans (hb3.mono HB2.out.size))
  have hs3 := hb3.size
  have HW3 := hid (wmInts_c w3 a2 a3 c2 c3 L L (Rd.own HL3.out) HS3.out (by omega) (by omega))
  rw [show decide (L = L) = true by simp] at HW3
  rw [← HL1.out] at HW3
  clear ho3 hb3
  go_wp2_with fail
  refine HW3.out.mono ?_
  rintro e w4 ⟨rfl, hb4⟩
  have HR4 := hid (HR3.out.below hb4)
  have HL4 := hid (own_below HL3.out hb4)
  have HB4 := hid (HB3.out.trans (hb4.mono HB3.out.size))
  have hs4 := hb4.size
  clear hb4
  go_wp2_with fail
  refine (HPV.out _ HR4.out).mono ?_
  rintro e w5 ⟨rfl, hb5⟩
  have HR5 := hid (HR4.out.below hb5)
  have HB5 := hid (HB4.out.trans (hb5.mono HB4.out.size))
  have hs5 := hb5.size
  have HQ5 := hid hb5
  clear hb5
  have HL5 := hid (own_below HL4.out (show Below w4.heap.size w4 w5 from HQ5.out))
  cases V
  · skip
    go_wp2_with fail
    refine (HLS.out _ HR5.out).mono ?_
    rintro e w6 ⟨a6, c6, rfl, ho6, hb6⟩
    have HR6 := hid (HR5.out.below hb6)
    have HL6 := hid (own_below HL5.out hb6)
    have HS6 := hid (Rd.own ho6)
    have HB6 := hid (HB5.out.trans (hb6.mono HB5.out.size))
    have hs6 := hb6.size
    have HW6 := hid (wmInts_c w6 a2 a6 c2 c6 L L (Rd.own HL6.out) HS6.out (by omega) (by omega))
    rw [show decide (L = L) = true by simp] at HW6
    rw [← HL1.out] at HW6
    clear ho6 hb6
    go_wp2_with fail
    refine HW6.out.mono ?_
    rintro e w7 ⟨rfl, hb7⟩
    have HR7 := hid (HR6.out.below hb7)
    have HL7 := hid (own_below HL6.out hb7)
    have HB7 := hid (HB6.out.trans (hb7.mono HB6.out.size))
    have hs7 := hb7.size
    clear hb7
    go_wp2_with fail
    go_ret
    exact ⟨rfl, HB7.out⟩
  · have HIN := hid (fun (k : Nat) (xs : List Ins) (x : Ins) (hx : p[k]? = some xs) (hm : x ∈ xs) (ho : x.op ≠ 4) => (show x.loc ∈ L by rw [HLL.out]; exact locs_has HV.out.symm (List.mem_of_getElem? hx) hm ho))
    have HWI := hid (fun (x : Int) (hx : x ∈ L) => wmInYes_c w5 a2 c2 L x (Rd.own HL5.out) (by omega) hx)
    rw [← HL1.out] at HWI
    go_wp2_with fail
    go_loop [5] (fun i => ∃ k : Nat, k ≤ n ∧ i = .int .i64 k) (fun i => n - (intOf i).toNat)
    case atStart => exact ⟨0, Nat.zero_le _, rfl⟩
    case round =>
      obtain ⟨k, hk, rfl⟩ := hrel
      by_cases hlt : k < n
      · obtain ⟨b, off, r, rc, xs, hab, hb, hx, hcell, hrd⟩ := HR5.out.at k (by rw [← HN.out]; exact hlt)
        subst hab
        have HX := hid hx
        have HRD := hid hrd
        have hml : xs.length ≤ 100 := by have := sizeP_row hx; omega
        obtain ⟨m, hm⟩ : ∃ m, m = xs.length := ⟨_, rfl⟩
        have HM := hid hm
        rw [← hm] at hcell hml
        clear hx hrd hm
        go_wp2_with fail
        go_loop [6] (fun i => ∃ j : Nat, j ≤ m ∧ i = .int .i64 j) (fun i => m - (intOf i).toNat)
        case atStart => exact ⟨0, Nat.zero_le _, rfl⟩
        case round =>
          obtain ⟨j, hj, rfl⟩ := hrel
          by_cases hjm : j < m
          · obtain ⟨bx, ox, x, hax, hbx, hxx, hat⟩ := HRD.out.ins j (by rw [← HM.out]; exact hjm)
            subst hax
            obtain ⟨q0, q1, q2, q3⟩ := hat
            have HXX := hid hxx
            clear hxx
            by_cases hop : x.op = 4
            · have hop' : (x.op != 4) = false := by rw [hop]; rfl
              clear hop
              go_wp2_with fail
              go_round
              case rel => exact ⟨j + 1, by omega, by go_num⟩
              case measure => simp [intOf]; omega
            · have hop' : (x.op != 4) = true := by simpa using hop
              have HWX := hid (HWI.out x.loc (HIN.out k xs x HX.out (List.mem_of_getElem? HXX.out) hop))
              clear hop
              go_wp2_with fail
              refine HWX.out.mono ?_
              rintro e w6 ⟨rfl, rfl⟩
              go_wp2_with fail
              go_round
              case rel => exact ⟨j + 1, by omega, by go_num⟩
              case measure => simp [intOf]; omega
          · have hjm' : decide ((j : Int) < (m : Int)) = false := by simp; omega
            have hjm'' : decide (j < m) = false := by simp; omega
            clear hjm
            go_wp2_with fail
            go_round
            case rel => exact ⟨k + 1, by omega, by go_num⟩
            case measure => simp [intOf]; omega
      · have hlt' : decide ((k : Int) < (n : Int)) = false := by simp; omega
        have hlt'' : decide (k < n) = false := by simp; omega
        clear hlt
        go_wp2_with fail
        go_loopw [7] (fun i wr => ∃ t : Nat, 1 ≤ t ∧ t ≤ 4 ∧ i = .int .i64 t ∧ Hid (wr.ownsRow w1.heap.size 3 1 (.slice a2 l c2) l (ints L)) ∧ Hid (Below w.heap.size w wr)) (fun i _ => 4 - (intOf i).toNat)
        case atStart => exact ⟨1, by omega, by omega, rfl, hid (by rw [HL1.out]; exact HL5.out), HB5⟩
        case round =>
          obtain ⟨t, ht1, ht, rfl, HLt, HBt⟩ := hrel
          obtain ⟨wo, rfl⟩ : ∃ wo : World, wo = wr := ⟨_, rfl⟩
          by_cases htl : t < l
          · obtain ⟨g, rfl, _, hg⟩ := own_some HLt.out (by omega)
            have hlen : (ints L).length = l := by simp [HL1.out]
            have g1 : wo.cell? ⟨g, t - 1, none⟩ = some (.int .i64 (L[t - 1]'(by rw [← HL1.out]; omega))) := (HLt.out.cellAt (t - 1) (by omega)).trans (by simp [show t - 1 < L.length by rw [← HL1.out]; omega])
            have g2 : wo.cell? ⟨g, t, none⟩ = some (.int .i64 (L[t]'(by rw [← HL1.out]; omega))) := (HLt.out.cellAt t (by omega)).trans (by simp [show t < L.length by rw [← HL1.out]; omega])
            have hup := HUP.out (t - 1) (by rw [← HL1.out]; omega)
            have et : t - 1 + 1 = t := by omega
            simp only [et] at hup
            obtain ⟨y, hy⟩ : ∃ y, y = L[t - 1]'(by rw [← HL1.out]; omega) := ⟨_, rfl⟩
            obtain ⟨z, hz⟩ : ∃ z, z = L[t]'(by rw [← HL1.out]; omega) := ⟨_, rfl⟩
            rw [← hy] at g1 hup
            rw [← hz] at g2 hup
            have hd : decide (z ≤ y) = false := by simp; omega
            have ht0 : (0 : Int) ≤ (t : Int) - 1 := by omega
            have htI : (1 : Int) ≤ (t : Int) := by omega
            have htt : ((t : Int) - 1).toNat = t - 1 := by omega
            have htl' : (t : Int) < (l : Int) := by omega
            have htl2 : (t : Int) - 1 < (l : Int) := by omega
            clear hlen et hy hz hup
            go_wp2_with fail
            go_quiet (fail)
            go_wp2_with fail
            go_roundw
            case rel => exact ⟨t + 1, by omega, by omega, by go_num, hid HLt.out, hid (below_drewN _ HBt.out)⟩
            case measure => simp [intOf]; omega
          · have htl' : decide ((t : Int) < (l : Int)) = false := by simp; omega
            have htl'' : decide (t < l) = false := by simp; omega
            have hl3' : (l : Int) ≤ 3 := by omega
            clear htl
            go_wp2_with fail
            go_ret
            exact ⟨rfl, HBt.out⟩
theorem walk (w : World) (a0 : Option Addr) (cap0 : Nat) (bs0 : List Int) (h0 : Rd w a0 (u8s bs0)) (f0 : ∀ n ∈ bs0, (Lit.int .u8 n).wf = true) (d0 : bs0.length ≤ cap0 ∧ cap0 ≤ 9223372036854775807) :
    Calls Try.prog 11 #[.slice a0 bs0.length cap0] w fun e w' => e = .returned (.bool true) ∧ Below w.heap.size w w' := by
  by_cases hb : 1048576 < bs0.length
  · exact walkBig w a0 cap0 bs0 h0 f0 d0 hb
  · exact walkSmall w a0 cap0 bs0 h0 f0 d0 (by omega)

set_option maxRecDepth 100000 in
theorem lifted (os : Os) (started : os.Started) (H : Type) (enc : TypeId × Value → H) :
    ReturnsInHanded {} Try.checked os 11 .any (Rows.fnLocsOfSpec.pre6 enc Try.prog Try.f11 Rows.fnLocsOfRow.domain false) (Rows.fnLocsOfSpec.post enc Try.prog Try.f11 false true false false) := by
  refine returnsInHanded_of_change (C := Try.checked) own started (by kernel_rfl) Try.func11
    (ChangeSpec.witness6 (enc := enc) (C := Try.checked) false ⟨#[], #[.slice none 0 0], []⟩ 8 (by kernel_rfl) (by kernel_rfl) (by kernel_rfl) (by kernel_rfl)) ?_
  intro W base args ds gs before hval0 hW hcnd _
  have hval : ∀ (j : Nat) t v, Try.f11.params[j]? = some t → args[j]? = some v → Value.okWide Try.prog W .any base t v := hval0
  have hW' := hW
  obtain ⟨p, q, hA0, hV, rfl, hfz, hnd⟩ := hW
  have hA : DataW.TrodAll enc Try.prog W 0 (fun _ => true) true Try.f11.params.toList args.toList ds p := hA0
  rw [Try.params11] at hA hval
  obtain ⟨v0, vs0, d0, ds0, p0, q0, hargs, rfl, rfl, h0, r0⟩ := trodAll_cons hA
  obtain ⟨rfl, rfl, rfl⟩ := trodAll_nil r0
  obtain rfl : args = #[v0] := by cases args; simp_all
  obtain ⟨rfl, rfl⟩ := trodVars_none hV
  obtain ⟨a0, len0, cap0, rfl⟩ := okWide_slice Try.underlying22 (hval 0 22 v0 rfl rfl)
  have k0 := h0
  have lt0 : ∀ x ∈ p0, x.block < W.heap.size := by obtain ⟨m, hm⟩ := k0; exact DataW.trod_lt m _ _ _ hm
  obtain ⟨z0, w0⟩ : ∃ zs, IsRow .u8 W a0 len0 cap0 zs := by
    obtain ⟨fuel, hf⟩ := h0
    rcases open_ints Try.underlying22 Try.underlying5 (by kernel_rfl) hf with ⟨hcs, _⟩ | ⟨x, l, c, zs, hcs, _, hl, hm, hz, _, hcell, hwz⟩
    · simp [Value.cells] at hcs
      obtain ⟨rfl, rfl, rfl⟩ := hcs
      exact ⟨[], .inl ⟨rfl, rfl, rfl, rfl⟩⟩
    · simp [Value.cells] at hcs
      obtain ⟨rfl, rfl, rfl⟩ := hcs
      exact ⟨zs, .inr ⟨_, rfl, hl, hm, by simpa using hz, hcell, hwz⟩⟩
  obtain ⟨x0, hx0, rd0, wf0⟩ := w0.rd
  subst hx0
  have bd0 := w0.cap
  clear hA0 hval0
  refine (walk W a0 cap0 x0 rd0 wf0 bd0).mono fun e W' ⟨he, bel⟩ => ?_
  subst he
  exact ⟨_, rfl, _, _, _, [], _, [], hW', trodAll_mk1 (shut_bool Try.underlying4 _), (trodAll_cons_mk (Below.trod laidOut (by kernel_rfl) (of_decide_eq_true (by kernel_rfl)) k0 bel lt0) trodAll_mk0), rfl, bel.frame _, fun h => by cases h⟩

theorem over : Rows.fnLocsOfRow.holds Try.pinned (OpenSpec.ofChange Rows.fnLocsOfSpec) :=
  OpenClaim.holds_of_wide 11 Try.f11 rfl rfl rfl rfl rfl rfl rfl ⟨rfl, rfl, rfl, rfl, rfl⟩ rfl rfl rfl rfl rfl (by kernel_rfl) Try.func11 (by kernel_rfl)
    (of_decide_eq_true (by kernel_rfl)) (by unfold Func.isWrapper; first | (rw [if_pos (by decide +kernel)]; kernel_rfl) | (rw [if_neg (by decide +kernel)]; exact ⟨rfl, rfl⟩))
    (fun os started H enc _ => lifted os started H enc)

theorem proved : Rows.FnLocsOfSaid := over
#print axioms proved
end Go.Proofs.Ytciplfdgjbehgaa.fnLocsOf
