/-
  PROVED HERE: laws.FnOutcomeText returns true for every input, and each argument reads behind the call as it read before. CONDITIONS: none.
-/
import Derived.Test.YthlmfjoiicnomaaOcp
import Derived.ShutString
import Derived.ChangeOld
namespace Go.Proofs.Ythlmfjoiicnomaa.fnOutcomeText
open Go.ChangeShapes Go.WideShapes Go.ChangeAt Go.RowKit
open Go.ChangeMaps (open_string shut_string)
set_option linter.unusedVariables false
open Go.Proofs.Ythlmfjoiicnomaa
theorem own : ownKnob Try.prog.godebug = none := by kernel_rfl
theorem laidOut : laidOutB Try.prog = true := by kernel_rfl

theorem walkBig (w : World) (a0 : Option Addr) (cap0 : Nat) (bs0 : List Int) (h0 : Rd w a0 (u8s bs0)) (f0 : ∀ n ∈ bs0, (Lit.int .u8 n).wf = true) (d0 : bs0.length ≤ cap0 ∧ cap0 ≤ 9223372036854775807) (a1 : Option Addr) (cap1 : Nat) (bs1 : List Int) (h1 : Rd w a1 (u8s bs1)) (f1 : ∀ n ∈ bs1, (Lit.int .u8 n).wf = true) (d1 : bs1.length ≤ cap1 ∧ cap1 ≤ 9223372036854775807) (hb : 1048576 < bs0.length ∨ 1048576 < bs1.length) :
    Calls Try.prog 7 #[.slice a0 bs0.length cap0, .slice a1 bs1.length cap1] w fun e w' => e = .returned (.bool true) ∧ Below w.heap.size w w' := by
  clear h0 f0 d0
  clear h1 f1 d1
  by_cases hc : 1048576 < bs0.length
  · have g : (1048576 : Int) < bs0.length := by omega
    clear hb hc
    go_enter Try.func7, Try.ntmps7
    go_wp2
    go_ret
    exact ⟨rfl, Below.refl _ _⟩
  · have g : decide ((1048576 : Int) < bs0.length) = false := by simp; omega
    have g1 : (1048576 : Int) < bs1.length := by omega
    clear hb hc
    go_enter Try.func7, Try.ntmps7
    go_wp2
    go_ret
    exact ⟨rfl, Below.refl _ _⟩

set_option maxRecDepth 100000 in
set_option maxHeartbeats 3200000 in
theorem walkSmall (w : World) (a0 : Option Addr) (cap0 : Nat) (bs0 : List Int) (h0 : Rd w a0 (u8s bs0)) (f0 : ∀ n ∈ bs0, (Lit.int .u8 n).wf = true) (d0 : bs0.length ≤ cap0 ∧ cap0 ≤ 9223372036854775807) (a1 : Option Addr) (cap1 : Nat) (bs1 : List Int) (h1 : Rd w a1 (u8s bs1)) (f1 : ∀ n ∈ bs1, (Lit.int .u8 n).wf = true) (d1 : bs1.length ≤ cap1 ∧ cap1 ≤ 9223372036854775807) (s0 : bs0.length ≤ 1048576) (s1 : bs1.length ≤ 1048576) :
    Calls Try.prog 7 #[.slice a0 bs0.length cap0, .slice a1 bs1.length cap1] w fun e w' => e = .returned (.bool true) ∧ Below w.heap.size w w' := by
  have g0 : decide ((1048576 : Int) < bs0.length) = false := by simp; omega
  have g1 : decide ((1048576 : Int) < bs1.length) = false := by simp; omega
  have CD0 := hid (fun (w1 : World) (hb : Below w.heap.size w w1) => drawFO_c w1 a0 cap0 bs0 (h0.below hb) (byte_wf f0) s0 d0.1 d0.2)
  have CD1 := hid (fun (w1 : World) (hb : Below w.heap.size w w1) => drawPO_c w1 a1 cap1 bs1 (h1.below hb) (byte_wf f1) s1 d1.1 d1.2)
  have HB0 := hid (Below.refl w.heap.size w)
  clear h0 f0 d0 s0 h1 f1 d1 s1
  go_enter Try.func7, Try.ntmps7
  go_wp2_with fail
  refine (CD0.out _ (Below.refl _ _)).mono ?_
  rintro e w1 ⟨P, os, a1, c1, a2, c2, rfl, hr1, ho1, hz1, hl1, hlc1, hb1⟩
  have HR1 := hid hr1
  have HO1 := hid ho1
  have HB1 := hid hb1
  have HFI := hid (fun w h h' => foI_c w a1 c1 P a2 c2 os h h' (by omega) (by omega))
  have HFS := hid (fun w h h' => foS_c w a1 c1 P a2 c2 os h h' (by omega) (by omega))
  have HPO := hid (fun w h => poI_c w a1 c1 P (fmtOut P os) h (by omega) (by have := fmtOut_size (p := P) (o := os); omega))
  have HWO := hid (fun w a c h h' => wmInts_c w a a2 c c2 os os h h' (by omega) (by omega))
  rw [show decide (os = os) = true by simp] at HWO
  by_cases hv : outValid P os = true
  · have hpo := out_parse hv
    have hne := out_ne hv
    rw [hpo] at HPO
    obtain ⟨T, hT⟩ : ∃ T, T = fmtOut P os := ⟨_, rfl⟩
    rw [← hT] at HFI HFS HPO hne
    obtain ⟨n, hn⟩ : ∃ n, n = P.length := ⟨_, rfl⟩
    rw [← hn] at HFI HFS HPO ⊢
    have HPO' := hid (show ∀ w, RdP w a1 P → Calls Try.prog 26 #[.slice a1 n c1, .string T] w fun e w' => ∃ a cap, e = .returned (.tuple #[.slice a os.length cap, .bool true]) ∧ OwI w' w.heap.size a cap os ∧ Below w.heap.size w w' from HPO.out)
    obtain ⟨l, hl⟩ : ∃ l, l = os.length := ⟨_, rfl⟩
    rw [← hl] at HFI HFS HPO' HWO hl1 hlc1 ⊢
    have HL := hid hl
    clear hv hpo hT hn hl hr1 ho1 hb1 HPO
    go_wp2_with fail
    refine (HFI.out _ HR1.out HO1.out).mono ?_
    rintro e w2 ⟨rfl, hb2⟩
    have HB2 := hid (HB1.out.trans (hb2.mono HB1.out.size))
    have HR2 := hid (HR1.out.below hb2)
    have HO2 := hid (HO1.out.below hb2)
    clear hb2
    go_wp2_with fail
    refine (HPO'.out _ HR2.out).mono ?_
    rintro e w3 ⟨a3, c3, rfl, ho3, hb3⟩
    have HX3 := hid (Rd.own ho3)
    have HB3 := hid (HB2.out.trans (hb3.mono HB2.out.size))
    have HR3 := hid (HR2.out.below hb3)
    have HO3 := hid (HO2.out.below hb3)
    clear ho3 hb3
    go_wp2_with fail
    refine (HFS.out _ HR3.out HO3.out).mono ?_
    rintro e w4 ⟨rfl, hb4⟩
    have HB4 := hid (HB3.out.trans (hb4.mono HB3.out.size))
    have HO4 := hid (HO3.out.below hb4)
    have HX4 := hid (HX3.out.below hb4)
    clear hb4
    go_wp2_with fail
    refine (HWO.out _ _ _ HX4.out HO4.out).mono ?_
    rintro e w5 ⟨rfl, hb5⟩
    have HB5 := hid (HB4.out.trans (hb5.mono HB4.out.size))
    clear hb5
    go_wp2_with fail
    refine (CD1.out _ HB5.out).mono ?_
    rintro e w20 ⟨P2, a20, c20, t, rfl, hr20, hz20, ht20, hb20⟩
    have HB20 := hid (HB5.out.trans (hb20.mono HB5.out.size))
    have HR20 := hid hr20
    have HPA := hid (fun w h => poI_c w a20 c20 P2 t h (by omega) (by omega))
    have HPB := hid (fun w h => poS_c w a20 c20 P2 t h (by omega) (by omega))
    have HFM := hid (fun o (h : parseOut P2 t = (o, true)) => parse_fmt h)
    have HLN := hid (parse_len P2 t)
    obtain ⟨R, hR⟩ : ∃ R, R = parseOut P2 t := ⟨_, rfl⟩
    rw [← hR] at HPA HPB HFM HLN
    obtain ⟨v, b⟩ := R
    have HFV := hid (fun w a' c' h h' => foI_c w a20 c20 P2 a' c' v h h' (by omega) HLN.out)
    have HWV := hid (fun w a a' c c' h h' => wmInts_c w a a' c c' v v h h' HLN.out HLN.out)
    rw [show decide (v = v) = true by simp] at HWV
    have HFE := hid (fun (h : b = true) => HFM.out v (by rw [h]))
    obtain ⟨m2, hm2⟩ : ∃ m2, m2 = P2.length := ⟨_, rfl⟩
    rw [← hm2] at HPA HPB HFV ⊢
    have HPA' := hid (show ∀ w, RdP w a20 P2 → Calls Try.prog 26 #[.slice a20 m2 c20, .string t] w fun e w' => ∃ a cap, e = .returned (.tuple #[.slice a v.length cap, .bool b]) ∧ OwI w' w.heap.size a cap v ∧ Below w.heap.size w w' from HPA.out)
    have HPB' := hid (show ∀ w, RdP w a20 P2 → Calls Try.prog 29 #[.slice a20 m2 c20, .string t] w fun e w' => ∃ a cap, e = .returned (.tuple #[.slice a v.length cap, .bool b]) ∧ OwI w' w.heap.size a cap v ∧ Below w.heap.size w w' from HPB.out)
    obtain ⟨nv, hnv⟩ : ∃ nv, nv = v.length := ⟨_, rfl⟩
    rw [← hnv] at HPA' HPB' HFV HWV
    have HNV := hid hnv
    clear hR hm2 hnv hr20 hb20 HPA HPB HFM
    go_wp2_with fail
    refine (HPA'.out _ HR20.out).mono ?_
    rintro e w21 ⟨a21, c21, rfl, ho21, hb21⟩
    have HO21 := hid (Rd.own ho21)
    have HR21 := hid (HR20.out.below hb21)
    have HB21 := hid (HB20.out.trans (hb21.mono HB20.out.size))
    clear ho21 hb21
    go_wp2_with fail
    refine (HPB'.out _ HR21.out).mono ?_
    rintro e w22 ⟨a22, c22, rfl, ho22, hb22⟩
    have HO22 := hid (Rd.own ho22)
    have HQ22 := hid (HO21.out.below hb22)
    have HR22 := hid (HR21.out.below hb22)
    have HB22 := hid (HB21.out.trans (hb22.mono HB21.out.size))
    clear ho22 hb22
    cases b
    · go_wp2_with fail
      refine (HWV.out _ _ _ _ _ HQ22.out HO22.out).mono ?_
      rintro e w23 ⟨rfl, hb23⟩
      have HB23 := hid (HB22.out.trans (hb23.mono HB22.out.size))
      clear hb23
      go_wp2_with fail
      go_ret
      exact ⟨rfl, HB23.out⟩
    · have HFF := hid (HFE.out rfl)
      rw [HFF.out] at HFV
      go_wp2_with fail
      refine (HWV.out _ _ _ _ _ HQ22.out HO22.out).mono ?_
      rintro e w23 ⟨rfl, hb23⟩
      have HB23 := hid (HB22.out.trans (hb23.mono HB22.out.size))
      have HQ23 := hid (HQ22.out.below hb23)
      have HR23 := hid (HR22.out.below hb23)
      clear hb23
      go_wp2_with fail
      refine (HFV.out _ _ _ HR23.out HQ23.out).mono ?_
      rintro e w24 ⟨rfl, hb24⟩
      have HB24 := hid (HB23.out.trans (hb24.mono HB23.out.size))
      clear hb24
      go_wp2_with fail
      go_ret
      exact ⟨rfl, HB24.out⟩
  · have hv : outValid P os = false := by simpa using hv
    have hpo := fmtOut_no hv
    rw [hpo] at HFI HFS HPO
    obtain ⟨R0, hR0⟩ : ∃ R0, R0 = parseOut P ⟨#[]⟩ := ⟨_, rfl⟩
    rw [← hR0] at HPO
    obtain ⟨v0, b0⟩ := R0
    obtain ⟨n, hn⟩ : ∃ n, n = P.length := ⟨_, rfl⟩
    rw [← hn] at HFI HFS HPO ⊢
    have HPO' := hid (show ∀ w, RdP w a1 P → Calls Try.prog 26 #[.slice a1 n c1, .string ⟨#[]⟩] w fun e w' => ∃ a cap, e = .returned (.tuple #[.slice a v0.length cap, .bool b0]) ∧ OwI w' w.heap.size a cap v0 ∧ Below w.heap.size w w' from HPO.out)
    obtain ⟨l, hl⟩ : ∃ l, l = os.length := ⟨_, rfl⟩
    rw [← hl] at HFI HFS hl1 hlc1 ⊢
    have HL := hid hl
    clear hv hpo hR0 hn hl hr1 ho1 hb1 HPO
    go_wp2_with fail
    refine (HFI.out _ HR1.out HO1.out).mono ?_
    rintro e w2 ⟨rfl, hb2⟩
    have HB2 := hid (HB1.out.trans (hb2.mono HB1.out.size))
    have HR2 := hid (HR1.out.below hb2)
    have HO2 := hid (HO1.out.below hb2)
    clear hb2
    go_wp2_with fail
    refine (HPO'.out _ HR2.out).mono ?_
    rintro e w3 ⟨a3, c3, rfl, ho3, hb3⟩
    have HB3 := hid (HB2.out.trans (hb3.mono HB2.out.size))
    have HR3 := hid (HR2.out.below hb3)
    have HO3 := hid (HO2.out.below hb3)
    clear ho3 hb3
    go_wp2_with fail
    refine (HFS.out _ HR3.out HO3.out).mono ?_
    rintro e w4 ⟨rfl, hb4⟩
    have HB4 := hid (HB3.out.trans (hb4.mono HB3.out.size))
    clear hb4
    go_wp2_with fail
    refine (CD1.out _ HB4.out).mono ?_
    rintro e w20 ⟨P2, a20, c20, t, rfl, hr20, hz20, ht20, hb20⟩
    have HB20 := hid (HB4.out.trans (hb20.mono HB4.out.size))
    have HR20 := hid hr20
    have HPA := hid (fun w h => poI_c w a20 c20 P2 t h (by omega) (by omega))
    have HPB := hid (fun w h => poS_c w a20 c20 P2 t h (by omega) (by omega))
    have HFM := hid (fun o (h : parseOut P2 t = (o, true)) => parse_fmt h)
    have HLN := hid (parse_len P2 t)
    obtain ⟨R, hR⟩ : ∃ R, R = parseOut P2 t := ⟨_, rfl⟩
    rw [← hR] at HPA HPB HFM HLN
    obtain ⟨v, b⟩ := R
    have HFV := hid (fun w a' c' h h' => foI_c w a20 c20 P2 a' c' v h h' (by omega) HLN.out)
    have HWV := hid (fun w a a' c c' h h' => wmInts_c w a a' c c' v v h h' HLN.out HLN.out)
    rw [show decide (v = v) = true by simp] at HWV
    have HFE := hid (fun (h : b = true) => HFM.out v (by rw [h]))
    obtain ⟨m2, hm2⟩ : ∃ m2, m2 = P2.length := ⟨_, rfl⟩
    rw [← hm2] at HPA HPB HFV ⊢
    have HPA' := hid (show ∀ w, RdP w a20 P2 → Calls Try.prog 26 #[.slice a20 m2 c20, .string t] w fun e w' => ∃ a cap, e = .returned (.tuple #[.slice a v.length cap, .bool b]) ∧ OwI w' w.heap.size a cap v ∧ Below w.heap.size w w' from HPA.out)
    have HPB' := hid (show ∀ w, RdP w a20 P2 → Calls Try.prog 29 #[.slice a20 m2 c20, .string t] w fun e w' => ∃ a cap, e = .returned (.tuple #[.slice a v.length cap, .bool b]) ∧ OwI w' w.heap.size a cap v ∧ Below w.heap.size w w' from HPB.out)
    obtain ⟨nv, hnv⟩ : ∃ nv, nv = v.length := ⟨_, rfl⟩
    rw [← hnv] at HPA' HPB' HFV HWV
    have HNV := hid hnv
    clear hR hm2 hnv hr20 hb20 HPA HPB HFM
    go_wp2_with fail
    refine (HPA'.out _ HR20.out).mono ?_
    rintro e w21 ⟨a21, c21, rfl, ho21, hb21⟩
    have HO21 := hid (Rd.own ho21)
    have HR21 := hid (HR20.out.below hb21)
    have HB21 := hid (HB20.out.trans (hb21.mono HB20.out.size))
    clear ho21 hb21
    go_wp2_with fail
    refine (HPB'.out _ HR21.out).mono ?_
    rintro e w22 ⟨a22, c22, rfl, ho22, hb22⟩
    have HO22 := hid (Rd.own ho22)
    have HQ22 := hid (HO21.out.below hb22)
    have HR22 := hid (HR21.out.below hb22)
    have HB22 := hid (HB21.out.trans (hb22.mono HB21.out.size))
    clear ho22 hb22
    cases b
    · go_wp2_with fail
      refine (HWV.out _ _ _ _ _ HQ22.out HO22.out).mono ?_
      rintro e w23 ⟨rfl, hb23⟩
      have HB23 := hid (HB22.out.trans (hb23.mono HB22.out.size))
      clear hb23
      go_wp2_with fail
      go_ret
      exact ⟨rfl, HB23.out⟩
    · have HFF := hid (HFE.out rfl)
      rw [HFF.out] at HFV
      go_wp2_with fail
      refine (HWV.out _ _ _ _ _ HQ22.out HO22.out).mono ?_
      rintro e w23 ⟨rfl, hb23⟩
      have HB23 := hid (HB22.out.trans (hb23.mono HB22.out.size))
      have HQ23 := hid (HQ22.out.below hb23)
      have HR23 := hid (HR22.out.below hb23)
      clear hb23
      go_wp2_with fail
      refine (HFV.out _ _ _ HR23.out HQ23.out).mono ?_
      rintro e w24 ⟨rfl, hb24⟩
      have HB24 := hid (HB23.out.trans (hb24.mono HB23.out.size))
      clear hb24
      go_wp2_with fail
      go_ret
      exact ⟨rfl, HB24.out⟩
theorem walk (w : World) (a0 : Option Addr) (cap0 : Nat) (bs0 : List Int) (h0 : Rd w a0 (u8s bs0)) (f0 : ∀ n ∈ bs0, (Lit.int .u8 n).wf = true) (d0 : bs0.length ≤ cap0 ∧ cap0 ≤ 9223372036854775807) (a1 : Option Addr) (cap1 : Nat) (bs1 : List Int) (h1 : Rd w a1 (u8s bs1)) (f1 : ∀ n ∈ bs1, (Lit.int .u8 n).wf = true) (d1 : bs1.length ≤ cap1 ∧ cap1 ≤ 9223372036854775807) :
    Calls Try.prog 7 #[.slice a0 bs0.length cap0, .slice a1 bs1.length cap1] w fun e w' => e = .returned (.bool true) ∧ Below w.heap.size w w' := by
  by_cases hb : 1048576 < bs0.length ∨ 1048576 < bs1.length
  · exact walkBig w a0 cap0 bs0 h0 f0 d0 a1 cap1 bs1 h1 f1 d1 hb
  · exact walkSmall w a0 cap0 bs0 h0 f0 d0 a1 cap1 bs1 h1 f1 d1 (by omega) (by omega)

set_option maxRecDepth 100000 in
theorem lifted (os : Os) (started : os.Started) (H : Type) (enc : TypeId × Value → H) :
    ReturnsInHanded {} Try.checked os 7 .any (Rows.fnOutcomeTextSpec.pre6 enc Try.prog Try.f7 Rows.fnOutcomeTextRow.domain false) (Rows.fnOutcomeTextSpec.post enc Try.prog Try.f7 false true false false) := by
  refine returnsInHanded_of_change (C := Try.checked) own started (by kernel_rfl) Try.func7
    (ChangeSpec.witness6 (enc := enc) (C := Try.checked) false ⟨#[], #[.slice none 0 0, .slice none 0 0], []⟩ 8 (by kernel_rfl) (by kernel_rfl) (by kernel_rfl) (by kernel_rfl)) ?_
  intro W base args ds gs before hval0 hW hcnd _
  have hval : ∀ (j : Nat) t v, Try.f7.params[j]? = some t → args[j]? = some v → Value.okWide Try.prog W .any base t v := hval0
  have hW' := hW
  obtain ⟨p, q, hA0, hV, rfl, hfz, hnd⟩ := hW
  have hA : DataW.TrodAll enc Try.prog W 0 (fun _ => true) true Try.f7.params.toList args.toList ds p := hA0
  rw [Try.params7] at hA hval
  obtain ⟨v0, vs0, d0, ds0, p0, q0, hargs, rfl, rfl, h0, r0⟩ := trodAll_cons hA
  obtain ⟨v1, vs1, d1, ds1, p1, q1, rfl, rfl, rfl, h1, r1⟩ := trodAll_cons r0
  obtain ⟨rfl, rfl, rfl⟩ := trodAll_nil r1
  obtain rfl : args = #[v0, v1] := by cases args; simp_all
  obtain ⟨rfl, rfl⟩ := trodVars_none hV
  obtain ⟨a0, len0, cap0, rfl⟩ := okWide_slice Try.underlying22 (hval 0 22 v0 rfl rfl)
  have k0 := h0
  have lt0 : ∀ x ∈ p0, x.block < W.heap.size := by obtain ⟨m, hm⟩ := k0; exact DataW.trod_lt m _ _ _ hm
  obtain ⟨z0, w0⟩ : ∃ zs, IsRow .u8 W a0 len0 cap0 zs := by
    obtain ⟨fuel, hf⟩ := h0
    rcases open_ints Try.underlying22 Try.underlying5 (by kernel_rfl) hf with ⟨hcs, _⟩ | ⟨x, l, c, zs, hcs, _, hl, hm, hz, _, hcell, hwz⟩
    · simp [Value.cells] at hcs
      obtain ⟨rfl, rfl, rfl⟩ := hcs
      exact ⟨[], .inl ⟨rfl, rfl, rfl, rfl⟩⟩
    · simp [Value.cells] at hcs
      obtain ⟨rfl, rfl, rfl⟩ := hcs
      exact ⟨zs, .inr ⟨_, rfl, hl, hm, by simpa using hz, hcell, hwz⟩⟩
  obtain ⟨x0, hx0, rd0, wf0⟩ := w0.rd
  subst hx0
  have bd0 := w0.cap
  obtain ⟨a1, len1, cap1, rfl⟩ := okWide_slice Try.underlying22 (hval 1 22 v1 rfl rfl)
  have k1 := h1
  have lt1 : ∀ x ∈ p1, x.block < W.heap.size := by obtain ⟨m, hm⟩ := k1; exact DataW.trod_lt m _ _ _ hm
  obtain ⟨z1, w1⟩ : ∃ zs, IsRow .u8 W a1 len1 cap1 zs := by
    obtain ⟨fuel, hf⟩ := h1
    rcases open_ints Try.underlying22 Try.underlying5 (by kernel_rfl) hf with ⟨hcs, _⟩ | ⟨x, l, c, zs, hcs, _, hl, hm, hz, _, hcell, hwz⟩
    · simp [Value.cells] at hcs
      obtain ⟨rfl, rfl, rfl⟩ := hcs
      exact ⟨[], .inl ⟨rfl, rfl, rfl, rfl⟩⟩
    · simp [Value.cells] at hcs
      obtain ⟨rfl, rfl, rfl⟩ := hcs
      exact ⟨zs, .inr ⟨_, rfl, hl, hm, by simpa using hz, hcell, hwz⟩⟩
  obtain ⟨x1, hx1, rd1, wf1⟩ := w1.rd
  subst hx1
  have bd1 := w1.cap
  clear hA0 hval0
  refine (walk W a0 cap0 x0 rd0 wf0 bd0 a1 cap1 x1 rd1 wf1 bd1).mono fun e W' ⟨he, bel⟩ => ?_
  subst he
  exact ⟨_, rfl, _, _, _, [], _, [], hW', trodAll_mk1 (shut_bool Try.underlying4 _), (trodAll_cons_mk (Below.trod laidOut (by kernel_rfl) (of_decide_eq_true (by kernel_rfl)) k0 bel lt0) (trodAll_cons_mk (Below.trod laidOut (by kernel_rfl) (of_decide_eq_true (by kernel_rfl)) k1 bel lt1) trodAll_mk0)), rfl, bel.frame _, fun h => by cases h⟩

theorem over : Rows.fnOutcomeTextRow.holds Try.pinned (OpenSpec.ofChange Rows.fnOutcomeTextSpec) :=
  OpenClaim.holds_of_wide 7 Try.f7 rfl rfl rfl rfl rfl rfl rfl ⟨rfl, rfl, rfl, rfl, rfl⟩ rfl rfl rfl rfl rfl (by kernel_rfl) Try.func7 (by kernel_rfl)
    (of_decide_eq_true (by kernel_rfl)) (by unfold Func.isWrapper; first | (rw [if_pos (by decide +kernel)]; kernel_rfl) | (rw [if_neg (by decide +kernel)]; exact ⟨rfl, rfl⟩))
    (fun os started H enc _ => lifted os started H enc)

theorem proved : Rows.FnOutcomeTextSaid := over
#print axioms proved
end Go.Proofs.Ythlmfjoiicnomaa.fnOutcomeText
