/-
  PROVED HERE: laws.FnProgramText returns true for every input, and each argument reads behind the call as it read before. CONDITIONS: none.
-/
import Derived.Test.YtmeoclkngjboiaaDoorPt2
import Derived.ShutString
import Derived.ProofKit
import Derived.LaidMore
import Derived.Lay
import Derived.Stop.Joined
import Derived.SevenTiedAt
import Derived.Test.YtmeoclkngjboiaaDoorTie
import Derived.Test.YtmeoclkngjboiaaDoorCards
import Derived.ChangeOld
namespace Go.Proofs.YtmeoclkngjboiaaDoor.fnProgramText
open Go.ChangeShapes Go.WideShapes Go.ChangeAt Go.RowKit
open Go.ChangeMaps (open_string shut_string)
set_option linter.unusedVariables false
open Go.Proofs.YtmeoclkngjboiaaDoor
theorem own : ownKnob Tryd.prog.godebug = none := by kernel_rfl
theorem laidOut : laidOutB Tryd.prog = true := by kernel_rfl

theorem walkBig (w : World) (a0 : Option Addr) (cap0 : Nat) (bs0 : List Int) (h0 : Rd w a0 (u8s bs0)) (f0 : ∀ n ∈ bs0, (Lit.int .u8 n).wf = true) (d0 : bs0.length ≤ cap0 ∧ cap0 ≤ 9223372036854775807) (a1 : Option Addr) (cap1 : Nat) (bs1 : List Int) (h1 : Rd w a1 (u8s bs1)) (f1 : ∀ n ∈ bs1, (Lit.int .u8 n).wf = true) (d1 : bs1.length ≤ cap1 ∧ cap1 ≤ 9223372036854775807) (hb : 1048576 < bs0.length ∨ 1048576 < bs1.length) :
    Calls Tryd.prog 4 #[.slice a0 bs0.length cap0, .slice a1 bs1.length cap1] w fun e w' => e = .returned (.bool true) ∧ Below w.heap.size w w' := by
  clear h0 f0 d0
  clear h1 f1 d1
  by_cases hc : 1048576 < bs0.length
  · have g : (1048576 : Int) < bs0.length := by omega
    clear hb hc
    go_enter Tryd.func4, Tryd.ntmps4
    go_wp2
    go_ret
    exact ⟨rfl, Below.refl _ _⟩
  · have g : decide ((1048576 : Int) < bs0.length) = false := by simp; omega
    have g1 : (1048576 : Int) < bs1.length := by omega
    clear hb hc
    go_enter Tryd.func4, Tryd.ntmps4
    go_wp2
    go_ret
    exact ⟨rfl, Below.refl _ _⟩

set_option maxRecDepth 100000 in
set_option maxHeartbeats 3200000 in
theorem walkSmall (w : World) (mg : Int) (hmg : w.cell? ⟨0, 0, none⟩ = some (.int .i64 mg)) (a0 : Option Addr) (cap0 : Nat) (bs0 : List Int) (h0 : Rd w a0 (u8s bs0)) (f0 : ∀ n ∈ bs0, (Lit.int .u8 n).wf = true) (d0 : bs0.length ≤ cap0 ∧ cap0 ≤ 9223372036854775807) (a1 : Option Addr) (cap1 : Nat) (bs1 : List Int) (h1 : Rd w a1 (u8s bs1)) (f1 : ∀ n ∈ bs1, (Lit.int .u8 n).wf = true) (d1 : bs1.length ≤ cap1 ∧ cap1 ≤ 9223372036854775807) (s0 : bs0.length ≤ 1048576) (s1 : bs1.length ≤ 1048576) :
    Calls Tryd.prog 4 #[.slice a0 bs0.length cap0, .slice a1 bs1.length cap1] w fun e w' => e = .returned (.bool true) ∧ Below w.heap.size w w' := by
  have g0 : decide ((1048576 : Int) < bs0.length) = false := by simp; omega
  have g1 : decide ((1048576 : Int) < bs1.length) = false := by simp; omega
  have h00 := pos_of_cell hmg
  have CD0 := hid (fun (w1 : World) (hb : Below w.heap.size w w1) => drawFormatProgram_c w1 a0 cap0 bs0 (h0.below hb) (byte_wf f0) s0 d0.1 d0.2)
  have CD1 := hid (fun (w1 : World) (hb : Below w.heap.size w w1) => drawPP_c w1 a1 cap1 bs1 (h1.below hb) (byte_wf f1) s1 d1.1 d1.2)
  have HPI := hid (fun (w' : World) (hb : Below w.heap.size w w') (s : ByteArray) (hs : s.size ≤ 1048576) => ppI_x w' s mg hs ((hb.cell (p := ⟨0, 0, none⟩) h00).trans hmg))
  have HPS := hid (fun (w' : World) (s : ByteArray) (hs : s.size ≤ 1048576) => ppS_c w' s hs)
  have HB0 := hid (Below.refl w.heap.size w)
  clear h0 f0 d0 s0 h1 f1 d1 s1 hmg h00
  go_enter Tryd.func4, Tryd.ntmps4
  go_wp2_with fail
  refine (CD0.out _ (Below.refl _ _)).mono ?_
  rintro e w1 ⟨P, p1, c1, rfl, hc1, hr1, hz1, hb1⟩
  have HR1 := hid hr1
  have HB1 := hid hb1
  have HFI := hid (fun w h => fpI_c w p1 c1 P h (by omega))
  have HFS := hid (fun w h => fpS_c w p1 c1 P h (by omega))
  have HVI := hid (fun w h => pvI_c w p1 c1 P h (by omega))
  have HVS := hid (fun w h => pvS_c w p1 c1 P h (by omega))
  have HSA := hid (fun (w' : World) (a : Option Addr) (cap : Nat) (h : RdP w' a P) (h' : RdP w' p1 P) => sameI_c w' a cap P p1 c1 P h h' (by omega) (by omega))
  rw [show decide (P = P) = true by simp] at HSA
  have hts := fmt_size P
  have HPT := hid (fun (w' : World) hb => HPI.out w' hb (fmtPrg P) (by omega))
  by_cases hv : progValid P = true
  · have hpf := par_fmt hv
    rw [hpf] at HPT
    rw [hv] at HVI HVS
    have HPT' := hid (show ∀ (w' : World) (hb : Below w.heap.size w w'), Calls Tryd.prog 8 #[.string (fmtPrg P)] w' fun e w'' => ∃ a cap, e = .returned (.tuple #[.slice a P.length cap, .bool true]) ∧ OwP w'' w'.heap.size w''.heap.size a cap P ∧ Below w'.heap.size w' w'' from HPT.out)
    obtain ⟨T, hT⟩ : ∃ T, T = fmtPrg P := ⟨_, rfl⟩
    rw [← hT] at HFI HFS HPT' hts
    obtain ⟨n, hn⟩ : ∃ n, n = P.length := ⟨_, rfl⟩
    rw [← hn] at HFI HFS HVI HVS HSA HPT' hc1 ⊢
    have HTS := hid hts
    clear hv hpf hT hn hr1 hb1 hz1 hts HPT hc1
    go_wp2_with fail
    refine (HFI.out _ HR1.out).mono ?_
    rintro e w2 ⟨rfl, hb2⟩
    have HB2 := hid (HB1.out.trans (hb2.mono HB1.out.size))
    have HR2 := hid (HR1.out.below hb2)
    clear hb2
    go_wp2_with fail
    refine (HPT'.out _ HB2.out).mono ?_
    rintro e w3 ⟨a3, c3, rfl, ho3, hb3⟩
    have HB3 := hid (HB2.out.trans (hb3.mono HB2.out.size))
    have HR3 := hid (HR2.out.below hb3)
    have HQ3 := hid ho3.rd
    clear ho3 hb3
    go_wp2_with fail
    refine (HFS.out _ HR3.out).mono ?_
    rintro e w4 ⟨rfl, hb4⟩
    have HB4 := hid (HB3.out.trans (hb4.mono HB3.out.size))
    have HR4 := hid (HR3.out.below hb4)
    have HQ4 := hid (HQ3.out.below hb4)
    clear hb4
    go_wp2_with fail
    refine (HVI.out _ HR4.out).mono ?_
    rintro e w5 ⟨rfl, hb5⟩
    have HB5 := hid (HB4.out.trans (hb5.mono HB4.out.size))
    have HR5 := hid (HR4.out.below hb5)
    have HQ5 := hid (HQ4.out.below hb5)
    clear hb5
    go_wp2_with fail
    refine (HVS.out _ HR5.out).mono ?_
    rintro e w6 ⟨rfl, hb6⟩
    have HB6 := hid (HB5.out.trans (hb6.mono HB5.out.size))
    have HR6 := hid (HR5.out.below hb6)
    have HQ6 := hid (HQ5.out.below hb6)
    clear hb6
    go_wp2_with fail
    refine (HVI.out _ HR6.out).mono ?_
    rintro e w7 ⟨rfl, hb7⟩
    have HB7 := hid (HB6.out.trans (hb7.mono HB6.out.size))
    have HR7 := hid (HR6.out.below hb7)
    have HQ7 := hid (HQ6.out.below hb7)
    clear hb7
    go_wp2_with fail
    refine (HSA.out _ _ _ HQ7.out HR7.out).mono ?_
    rintro e w8 ⟨rfl, hb8⟩
    have HB8 := hid (HB7.out.trans (hb8.mono HB7.out.size))
    clear hb8
    go_wp2_with fail
    refine (CD1.out _ HB8.out).mono ?_
    rintro e w9 ⟨s, rfl, hsz, hb9⟩
    have HB9 := hid (HB8.out.trans (hb9.mono HB8.out.size))
    clear hb9
    have HPA := hid (HPI.out _ HB9.out s (by omega))
    have HPB := hid (fun w' => HPS.out w' s (by omega))
    have hfm := fun p (h : parRes s = (p, true)) => fmt_par h
    have hps := par_size s
    obtain ⟨R, hR⟩ : ∃ R, R = parRes s := ⟨_, rfl⟩
    rw [← hR] at HPA HPB hfm hps
    clear hR
    obtain ⟨v, b⟩ := R
    have HPA' := hid (show Calls Tryd.prog 8 #[.string s] w9 fun e w'' => ∃ a cap, e = .returned (.tuple #[.slice a v.length cap, .bool b]) ∧ OwP w'' w9.heap.size w''.heap.size a cap v ∧ Below w9.heap.size w9 w'' from HPA.out)
    have HPB' := hid (show ∀ w', Calls Tryd.prog 7 #[.string s] w' fun e w'' => ∃ a cap, e = .returned (.tuple #[.slice a v.length cap, .bool b]) ∧ OwP w'' w'.heap.size w''.heap.size a cap v ∧ Below w'.heap.size w' w'' from HPB.out)
    have HPZ := hid (show sizeP v ≤ 1048576 from hps)
    have HFV := hid (fun (w' : World) (a : Option Addr) (cap : Nat) (h : RdP w' a v) => fpI_c w' a cap v h HPZ.out)
    have HSV := hid (fun (w' : World) (a a' : Option Addr) (cap cap' : Nat) (h : RdP w' a v) (h' : RdP w' a' v) => sameI_c w' a cap v a' cap' v h h' HPZ.out HPZ.out)
    rw [show decide (v = v) = true by simp] at HSV
    have HFM := hid (fun (h : b = true) => hfm v (by rw [h]))
    obtain ⟨m, hm⟩ : ∃ m, m = v.length := ⟨_, rfl⟩
    rw [← hm] at HPA' HPB' HFV HSV
    clear hfm hps hm HPA HPB
    have HSZ := hid hsz
    clear hsz
    cases b
    · skip
      go_wp2_with fail
      refine (HPA'.out).mono ?_
      rintro e w10 ⟨a10, c10, rfl, hoA, hb10⟩
      have HB10 := hid (HB9.out.trans (hb10.mono HB9.out.size))
      clear hb10
      have HA10 := hid hoA.rd
      clear hoA
      go_wp2_with fail
      refine (HPB'.out _).mono ?_
      rintro e w11 ⟨a11, c11, rfl, hoB, hb11⟩
      have HB11 := hid (HB10.out.trans (hb11.mono HB10.out.size))
      have HA11 := hid (HA10.out.below hb11)
      have HC11 := hid hoB.rd
      clear hoB hb11
      go_wp2_with fail
      refine (HSV.out _ _ _ _ _ HA11.out HC11.out).mono ?_
      rintro e w12 ⟨rfl, hb12⟩
      have HB12 := hid (HB11.out.trans (hb12.mono HB11.out.size))
      have HA12 := hid (HA11.out.below hb12)
      clear hb12
      go_wp2
      go_ret
      exact ⟨rfl, HB12.out⟩
    · rw [HFM.out rfl] at HFV
      go_wp2_with fail
      refine (HPA'.out).mono ?_
      rintro e w10 ⟨a10, c10, rfl, hoA, hb10⟩
      have HB10 := hid (HB9.out.trans (hb10.mono HB9.out.size))
      clear hb10
      have HA10 := hid hoA.rd
      clear hoA
      go_wp2_with fail
      refine (HPB'.out _).mono ?_
      rintro e w11 ⟨a11, c11, rfl, hoB, hb11⟩
      have HB11 := hid (HB10.out.trans (hb11.mono HB10.out.size))
      have HA11 := hid (HA10.out.below hb11)
      have HC11 := hid hoB.rd
      clear hoB hb11
      go_wp2_with fail
      refine (HSV.out _ _ _ _ _ HA11.out HC11.out).mono ?_
      rintro e w12 ⟨rfl, hb12⟩
      have HB12 := hid (HB11.out.trans (hb12.mono HB11.out.size))
      have HA12 := hid (HA11.out.below hb12)
      clear hb12
      go_wp2_with fail
      refine (HFV.out _ _ _ HA12.out).mono ?_
      rintro e w13 ⟨rfl, hb13⟩
      have HB13 := hid (HB12.out.trans (hb13.mono HB12.out.size))
      clear hb13
      go_wp2
      go_ret
      exact ⟨rfl, HB13.out⟩
  · have hv : progValid P = false := by simpa using hv
    rw [hv] at HVI HVS
    have hps := par_size (fmtPrg P)
    obtain ⟨T, hT⟩ : ∃ T, T = fmtPrg P := ⟨_, rfl⟩
    rw [← hT] at HFI HFS HPT hts hps
    obtain ⟨Q, hQ⟩ : ∃ Q, Q = parRes T := ⟨_, rfl⟩
    rw [← hQ] at HPT
    obtain ⟨n, hn⟩ : ∃ n, n = P.length := ⟨_, rfl⟩
    rw [← hn] at HFI HFS HVI HVS hc1 ⊢
    clear hv hT hn hr1 hb1 hz1 hts hps hQ HSA hc1
    go_wp2_with fail
    refine (HFI.out _ HR1.out).mono ?_
    rintro e w2 ⟨rfl, hb2⟩
    have HB2 := hid (HB1.out.trans (hb2.mono HB1.out.size))
    have HR2 := hid (HR1.out.below hb2)
    clear hb2
    go_wp2_with fail
    refine (HPT.out _ HB2.out).mono ?_
    rintro e w3 ⟨a3, c3, rfl, ho3, hb3⟩
    have HB3 := hid (HB2.out.trans (hb3.mono HB2.out.size))
    have HR3 := hid (HR2.out.below hb3)
    clear ho3 hb3
    go_wp2_with fail
    refine (HFS.out _ HR3.out).mono ?_
    rintro e w4 ⟨rfl, hb4⟩
    have HB4 := hid (HB3.out.trans (hb4.mono HB3.out.size))
    have HR4 := hid (HR3.out.below hb4)
    clear hb4
    go_wp2_with fail
    refine (HVI.out _ HR4.out).mono ?_
    rintro e w5 ⟨rfl, hb5⟩
    have HB5 := hid (HB4.out.trans (hb5.mono HB4.out.size))
    have HR5 := hid (HR4.out.below hb5)
    clear hb5
    go_wp2_with fail
    refine (HVS.out _ HR5.out).mono ?_
    rintro e w6 ⟨rfl, hb6⟩
    have HB6 := hid (HB5.out.trans (hb6.mono HB5.out.size))
    have HR6 := hid (HR5.out.below hb6)
    clear hb6
    go_wp2_with fail
    refine (HVI.out _ HR6.out).mono ?_
    rintro e w7 ⟨rfl, hb7⟩
    have HB7 := hid (HB6.out.trans (hb7.mono HB6.out.size))
    clear hb7
    go_wp2_with fail
    refine (CD1.out _ HB7.out).mono ?_
    rintro e w8 ⟨s, rfl, hsz, hb8⟩
    have HB8 := hid (HB7.out.trans (hb8.mono HB7.out.size))
    clear hb8
    have HPA := hid (HPI.out _ HB8.out s (by omega))
    have HPB := hid (fun w' => HPS.out w' s (by omega))
    have hfm := fun p (h : parRes s = (p, true)) => fmt_par h
    have hps := par_size s
    obtain ⟨R, hR⟩ : ∃ R, R = parRes s := ⟨_, rfl⟩
    rw [← hR] at HPA HPB hfm hps
    clear hR
    obtain ⟨v, b⟩ := R
    have HPA' := hid (show Calls Tryd.prog 8 #[.string s] w8 fun e w'' => ∃ a cap, e = .returned (.tuple #[.slice a v.length cap, .bool b]) ∧ OwP w'' w8.heap.size w''.heap.size a cap v ∧ Below w8.heap.size w8 w'' from HPA.out)
    have HPB' := hid (show ∀ w', Calls Tryd.prog 7 #[.string s] w' fun e w'' => ∃ a cap, e = .returned (.tuple #[.slice a v.length cap, .bool b]) ∧ OwP w'' w'.heap.size w''.heap.size a cap v ∧ Below w'.heap.size w' w'' from HPB.out)
    have HPZ := hid (show sizeP v ≤ 1048576 from hps)
    have HFV := hid (fun (w' : World) (a : Option Addr) (cap : Nat) (h : RdP w' a v) => fpI_c w' a cap v h HPZ.out)
    have HSV := hid (fun (w' : World) (a a' : Option Addr) (cap cap' : Nat) (h : RdP w' a v) (h' : RdP w' a' v) => sameI_c w' a cap v a' cap' v h h' HPZ.out HPZ.out)
    rw [show decide (v = v) = true by simp] at HSV
    have HFM := hid (fun (h : b = true) => hfm v (by rw [h]))
    obtain ⟨m, hm⟩ : ∃ m, m = v.length := ⟨_, rfl⟩
    rw [← hm] at HPA' HPB' HFV HSV
    clear hfm hps hm HPA HPB
    have HSZ := hid hsz
    clear hsz
    cases b
    · skip
      go_wp2_with fail
      refine (HPA'.out).mono ?_
      rintro e w9 ⟨a9, c9, rfl, hoA, hb9⟩
      have HB9 := hid (HB8.out.trans (hb9.mono HB8.out.size))
      clear hb9
      have HA9 := hid hoA.rd
      clear hoA
      go_wp2_with fail
      refine (HPB'.out _).mono ?_
      rintro e w10 ⟨a10, c10, rfl, hoB, hb10⟩
      have HB10 := hid (HB9.out.trans (hb10.mono HB9.out.size))
      have HA10 := hid (HA9.out.below hb10)
      have HC10 := hid hoB.rd
      clear hoB hb10
      go_wp2_with fail
      refine (HSV.out _ _ _ _ _ HA10.out HC10.out).mono ?_
      rintro e w11 ⟨rfl, hb11⟩
      have HB11 := hid (HB10.out.trans (hb11.mono HB10.out.size))
      have HA11 := hid (HA10.out.below hb11)
      clear hb11
      go_wp2
      go_ret
      exact ⟨rfl, HB11.out⟩
    · rw [HFM.out rfl] at HFV
      go_wp2_with fail
      refine (HPA'.out).mono ?_
      rintro e w9 ⟨a9, c9, rfl, hoA, hb9⟩
      have HB9 := hid (HB8.out.trans (hb9.mono HB8.out.size))
      clear hb9
      have HA9 := hid hoA.rd
      clear hoA
      go_wp2_with fail
      refine (HPB'.out _).mono ?_
      rintro e w10 ⟨a10, c10, rfl, hoB, hb10⟩
      have HB10 := hid (HB9.out.trans (hb10.mono HB9.out.size))
      have HA10 := hid (HA9.out.below hb10)
      have HC10 := hid hoB.rd
      clear hoB hb10
      go_wp2_with fail
      refine (HSV.out _ _ _ _ _ HA10.out HC10.out).mono ?_
      rintro e w11 ⟨rfl, hb11⟩
      have HB11 := hid (HB10.out.trans (hb11.mono HB10.out.size))
      have HA11 := hid (HA10.out.below hb11)
      clear hb11
      go_wp2_with fail
      refine (HFV.out _ _ _ HA11.out).mono ?_
      rintro e w12 ⟨rfl, hb12⟩
      have HB12 := hid (HB11.out.trans (hb12.mono HB11.out.size))
      clear hb12
      go_wp2
      go_ret
      exact ⟨rfl, HB12.out⟩

theorem walk (w : World) (mg : Int) (hmg : w.cell? ⟨0, 0, none⟩ = some (.int .i64 mg)) (a0 : Option Addr) (cap0 : Nat) (bs0 : List Int) (h0 : Rd w a0 (u8s bs0)) (f0 : ∀ n ∈ bs0, (Lit.int .u8 n).wf = true) (d0 : bs0.length ≤ cap0 ∧ cap0 ≤ 9223372036854775807) (a1 : Option Addr) (cap1 : Nat) (bs1 : List Int) (h1 : Rd w a1 (u8s bs1)) (f1 : ∀ n ∈ bs1, (Lit.int .u8 n).wf = true) (d1 : bs1.length ≤ cap1 ∧ cap1 ≤ 9223372036854775807) :
    Calls Tryd.prog 4 #[.slice a0 bs0.length cap0, .slice a1 bs1.length cap1] w fun e w' => e = .returned (.bool true) ∧ Below w.heap.size w w' := by
  by_cases hb : 1048576 < bs0.length ∨ 1048576 < bs1.length
  · exact walkBig w a0 cap0 bs0 h0 f0 d0 a1 cap1 bs1 h1 f1 d1 hb
  · exact walkSmall w mg hmg a0 cap0 bs0 h0 f0 d0 a1 cap1 bs1 h1 f1 d1 (by omega) (by omega)

set_option maxRecDepth 100000 in
theorem lifted (os : Os) (started : os.Started) (H : Type) (enc : TypeId × Value → H) :
    ReturnsInHanded {} Tryd.checked os 4 .any (fun w args => (Rows.fnProgramTextSpec.pre enc Tryd.prog Tryd.f4 [] false w args ∧ laidMetH Tryd.prog Rows.fnProgramTextRow.laid w) ∧ sizedMet enc Tryd.prog Tryd.f4 (OpenSpec.ofChange Rows.fnProgramTextSpec) false w args)
      (Rows.fnProgramTextSpec.post enc Tryd.prog Tryd.f4 false true false false) := by
  refine ret_and_shaped (C := Tryd.checked) (X := fun w _ => laidMetH Tryd.prog Rows.fnProgramTextRow.laid w) (fun _ _ _ hh h => h.of_heap hh) own started (by kernel_rfl) Tryd.func4
    (ChangeSpec.witness_shaped (enc := enc) (C := Tryd.checked) (os := os) (X := fun w _ => laidMetH Tryd.prog Rows.fnProgramTextRow.laid w) false (World.laidAll Tryd.prog os Rows.fnProgramTextRow.laid) #[.slice none 0 0, .slice none 0 0] 8 (World.laidAll_os _ _ _) (World.shaped_of_ZipB (by kernel_rfl) (by kernel_rfl)) (by kernel_rfl) (by kernel_rfl) (by kernel_rfl) (by rw [MakeChecks.laidMetH_plain _ _ _ (by kernel_rfl)]; exact laidMet_laidAll _ (by kernel_rfl) (by kernel_rfl))) ?_
  intro W base args ds gs before hval0 hW hsh
  have hval : ∀ (j : Nat) t v, Tryd.f4.params[j]? = some t → args[j]? = some v → Value.okWide Tryd.prog W .any base t v := hval0
  have hW' := hW
  obtain ⟨p, q, hA0, hV, rfl, hfz, hnd⟩ := hW
  have hA : DataW.TrodAll enc Tryd.prog W 0 (fun _ => true) true Tryd.f4.params.toList args.toList ds p := hA0
  rw [Tryd.params4] at hA hval
  obtain ⟨v0, vs0, d0, ds0, p0, q0, hargs, rfl, rfl, h0, r0⟩ := trodAll_cons hA
  obtain ⟨v1, vs1, d1, ds1, p1, q1, rfl, rfl, rfl, h1, r1⟩ := trodAll_cons r0
  obtain ⟨rfl, rfl, rfl⟩ := trodAll_nil r1
  obtain rfl : args = #[v0, v1] := by cases args; simp_all
  obtain ⟨rfl, rfl⟩ := trodVars_none hV
  obtain ⟨a0, len0, cap0, rfl⟩ := okWide_slice Tryd.underlying28 (hval 0 28 v0 rfl rfl)
  have k0 := h0
  have lt0 : ∀ x ∈ p0, x.block < W.heap.size := by obtain ⟨m, hm⟩ := k0; exact DataW.trod_lt m _ _ _ hm
  obtain ⟨z0, w0⟩ : ∃ zs, IsRow .u8 W a0 len0 cap0 zs := by
    obtain ⟨fuel, hf⟩ := h0
    rcases open_ints Tryd.underlying28 Tryd.underlying5 (by kernel_rfl) hf with ⟨hcs, _⟩ | ⟨x, l, c, zs, hcs, _, hl, hm, hz, _, hcell, hwz⟩
    · simp [Value.cells] at hcs
      obtain ⟨rfl, rfl, rfl⟩ := hcs
      exact ⟨[], .inl ⟨rfl, rfl, rfl, rfl⟩⟩
    · simp [Value.cells] at hcs
      obtain ⟨rfl, rfl, rfl⟩ := hcs
      exact ⟨zs, .inr ⟨_, rfl, hl, hm, by simpa using hz, hcell, hwz⟩⟩
  obtain ⟨x0, hx0, rd0, wf0⟩ := w0.rd
  subst hx0
  have bd0 := w0.cap
  obtain ⟨a1, len1, cap1, rfl⟩ := okWide_slice Tryd.underlying28 (hval 1 28 v1 rfl rfl)
  have k1 := h1
  have lt1 : ∀ x ∈ p1, x.block < W.heap.size := by obtain ⟨m, hm⟩ := k1; exact DataW.trod_lt m _ _ _ hm
  obtain ⟨z1, w1⟩ : ∃ zs, IsRow .u8 W a1 len1 cap1 zs := by
    obtain ⟨fuel, hf⟩ := h1
    rcases open_ints Tryd.underlying28 Tryd.underlying5 (by kernel_rfl) hf with ⟨hcs, _⟩ | ⟨x, l, c, zs, hcs, _, hl, hm, hz, _, hcell, hwz⟩
    · simp [Value.cells] at hcs
      obtain ⟨rfl, rfl, rfl⟩ := hcs
      exact ⟨[], .inl ⟨rfl, rfl, rfl, rfl⟩⟩
    · simp [Value.cells] at hcs
      obtain ⟨rfl, rfl, rfl⟩ := hcs
      exact ⟨zs, .inr ⟨_, rfl, hl, hm, by simpa using hz, hcell, hwz⟩⟩
  obtain ⟨x1, hx1, rd1, wf1⟩ := w1.rd
  subst hx1
  have bd1 := w1.cap
  clear hA0 hval0
  obtain ⟨mg, hmg⟩ := maxLen_cell hsh
  refine (walk W mg hmg a0 cap0 x0 rd0 wf0 bd0 a1 cap1 x1 rd1 wf1 bd1).mono fun e W' ⟨he, bel⟩ => ?_
  subst he
  exact ⟨_, rfl, _, _, _, [], _, [], hW', trodAll_mk1 (shut_bool Tryd.underlying4 _), (trodAll_cons_mk (Below.trod laidOut (by kernel_rfl) (of_decide_eq_true (by kernel_rfl)) k0 bel lt0) (trodAll_cons_mk (Below.trod laidOut (by kernel_rfl) (of_decide_eq_true (by kernel_rfl)) k1 bel lt1) trodAll_mk0)), rfl, bel.frame _, fun h => by cases h⟩

theorem over : Rows.fnProgramTextRow.holds Tryd.pinned (OpenSpec.ofChange Rows.fnProgramTextSpec) :=
  OpenClaim.holds_of_wide 4 Tryd.f4 rfl rfl rfl rfl rfl rfl rfl ⟨rfl, rfl, rfl, rfl, rfl⟩ rfl rfl rfl rfl rfl (by kernel_rfl) Tryd.func4 (by kernel_rfl)
    (of_decide_eq_true (by kernel_rfl)) (by unfold Func.isWrapper; first | (rw [if_pos (by decide +kernel)]; kernel_rfl) | (rw [if_neg (by decide +kernel)]; exact ⟨rfl, rfl⟩))
    (fun os started H enc _ => lifted os started H enc)

theorem proved : Rows.FnProgramTextCardSaid :=
  Claim7.holds_tied_plain_at .later [] [.data, .pinned] true (true, "b3c79b555e40f8c38fcabaf181c69505ac1baa10c30cdb9882d47fc87dc10240") false
    over (fun _ h => by cases h) (by kernel_rfl) (fun _ h => by cases h) fnProgramText_row_tie rfl ⟨rfl, rfl⟩ (by kernel_rfl) rfl
    (fun f fn hf hfn => by
      obtain rfl : f = 4 := Option.some.inj ((show Tryd.prog.funcNamed "loop.example/weakmemory/laws.FnProgramText" = some 4 by kernel_rfl).symm.trans hf) |>.symm
      obtain rfl : fn = Tryd.f4 := (Option.some.inj (Tryd.func4.symm.trans hfn)).symm
      exact ⟨by kernel_rfl, fun j t ht => by
        rw [Tryd.params4] at ht
        have hm : t ∈ [28, 28] := by simpa using Array.mem_of_getElem? ht
        have hall : ([28, 28].all fun u => !Tryd.prog.wantsStandIn u) = true := by kernel_rfl
        exact (show Tryd.prog.wantsStandIn t = false by simpa using List.all_eq_true.1 hall t hm)⟩)
    (by kernel_rfl)
#print axioms proved
end Go.Proofs.YtmeoclkngjboiaaDoor.fnProgramText
