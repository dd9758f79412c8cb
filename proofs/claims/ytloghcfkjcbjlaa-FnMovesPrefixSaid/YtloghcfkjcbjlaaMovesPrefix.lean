/-
  PROVED HERE: laws.FnMovesPrefix returns true for every input, and each argument reads behind the call as it read before. CONDITIONS: none.
-/
import Derived.Test.YtloghcfkjcbjlaaMvb
import Derived.Test.YtloghcfkjcbjlaaIbg
import Derived.ShutString
import Derived.ChangeOld
namespace Go.Proofs.Ytloghcfkjcbjlaa.fnMovesPrefix
open Go.ChangeShapes Go.WideShapes Go.ChangeAt Go.RowKit
open Go.ChangeMaps (open_string shut_string)
set_option linter.unusedVariables false
open Go.Proofs.Ytloghcfkjcbjlaa
theorem own : ownKnob Try.prog.godebug = none := by kernel_rfl
theorem laidOut : laidOutB Try.prog = true := by kernel_rfl

theorem walkBig (w : World) (a0 : Option Addr) (cap0 : Nat) (bs0 : List Int) (h0 : Rd w a0 (u8s bs0)) (f0 : ∀ n ∈ bs0, (Lit.int .u8 n).wf = true) (d0 : bs0.length ≤ cap0 ∧ cap0 ≤ 9223372036854775807) (a1 : Option Addr) (cap1 : Nat) (bs1 : List Int) (h1 : Rd w a1 (u8s bs1)) (f1 : ∀ n ∈ bs1, (Lit.int .u8 n).wf = true) (d1 : bs1.length ≤ cap1 ∧ cap1 ≤ 9223372036854775807) (hb : 1048576 < bs0.length ∨ 1048576 < bs1.length) :
    Calls Try.prog 4 #[.slice a0 bs0.length cap0, .slice a1 bs1.length cap1] w fun e w' => e = .returned (.bool true) ∧ Below w.heap.size w w' := by
  clear h0 f0 d0
  clear h1 f1 d1
  by_cases hc : 1048576 < bs0.length
  · have g : (1048576 : Int) < bs0.length := by omega
    clear hb hc
    go_enter Try.func4, Try.ntmps4
    go_wp2
    go_ret
    exact ⟨rfl, Below.refl _ _⟩
  · have g : decide ((1048576 : Int) < bs0.length) = false := by simp; omega
    have g1 : (1048576 : Int) < bs1.length := by omega
    clear hb hc
    go_enter Try.func4, Try.ntmps4
    go_wp2
    go_ret
    exact ⟨rfl, Below.refl _ _⟩

set_option maxRecDepth 100000 in
set_option maxHeartbeats 3200000 in
theorem walkSmall (w : World) (a0 : Option Addr) (cap0 : Nat) (bs0 : List Int) (h0 : Rd w a0 (u8s bs0)) (f0 : ∀ n ∈ bs0, (Lit.int .u8 n).wf = true) (d0 : bs0.length ≤ cap0 ∧ cap0 ≤ 9223372036854775807) (a1 : Option Addr) (cap1 : Nat) (bs1 : List Int) (h1 : Rd w a1 (u8s bs1)) (f1 : ∀ n ∈ bs1, (Lit.int .u8 n).wf = true) (d1 : bs1.length ≤ cap1 ∧ cap1 ≤ 9223372036854775807) (s0 : bs0.length ≤ 1048576) (s1 : bs1.length ≤ 1048576) :
    Calls Try.prog 4 #[.slice a0 bs0.length cap0, .slice a1 bs1.length cap1] w fun e w' => e = .returned (.bool true) ∧ Below w.heap.size w w' := by
  have g0 : decide ((1048576 : Int) < bs0.length) = false := by simp; omega
  have g1 : decide ((1048576 : Int) < bs1.length) = false := by simp; omega
  have CD0 := hid (fun (w1 : World) (hb : Below w.heap.size w w1) => drawMA_c w1 a0 cap0 bs0 (h0.below hb) (byte_wf f0) s0 d0.1 d0.2)
  have hml : bs1.length ≤ 1048576 := s1
  obtain ⟨lm, hlm⟩ : ∃ lm, lm = bs1.length := ⟨_, rfl⟩
  rw [← hlm] at hml g1 ⊢
  clear hlm h1 f1 d1 s1 h0 f0 d0 s0
  go_enter Try.func4, Try.ntmps4
  go_wp2_with fail
  refine (CD0.out _ (Below.refl _ _)).mono ?_
  rintro e w1 ⟨p, sp, ms, pa, pc, ma, mc, rfl, hr1, ho1, hz1, hl1, hlc1, hb1⟩
  have hpl := sizeP_len p
  have HR1 := hid hr1
  have HO1 := hid ho1
  have HB1 := hid hb1
  have hs1 := hb1.size
  have HMI := hid (fun w h h' => maI_c w pa pc p sp ma mc ms h h' (by omega) (by omega))
  have HMS := hid (fun w h h' => maS_c w pa pc p sp ma mc ms h h' (by omega) (by omega))
  have HRI := hid (fun w h h' => rmI_c w pa pc p sp ma mc ms h h' (by omega) (by omega))
  have HMK := hid (fun w (k : Nat) (hk : k ≤ ms.length) (h : RdP w pa p) (h' : Rd w ma (ints (ms.take k))) => show Calls Try.prog 14 #[.slice pa p.length pc, .bool sp, .slice ma k mc] w (RetL w (movAft p sp (ms.take k))) from by
    have e : (ms.take k).length = k := by rw [List.length_take]; omega
    have := maI_c w pa pc p sp ma mc (ms.take k) h h' (by omega) (by omega)
    rw [e] at this
    exact this)
  have HWM := hid (fun w a a' c c' xs ys h h' hl hl' => wmInts_c w a a' c c' xs ys h h' hl hl')
  have HLA := hid (movAft_len p sp ms)
  have HLT := hid (fun k => movAft_len p sp (ms.take k))
  have HTK := hid (fun k x (h : (runMov p sp ms).2 = true ∨ movAft p sp ms ≠ []) (hx : ms[k]? = some x) => movAft_take h hx)
  obtain ⟨T, hT⟩ : ∃ T : Nat → List Int, T = fun k => movAft p sp (ms.take k) := ⟨_, rfl⟩
  have hTk : ∀ k, movAft p sp (ms.take k) = T k := fun k => by rw [hT]
  simp only [hTk] at HMK HLT HTK
  clear hT hTk
  obtain ⟨A, hA⟩ : ∃ A, A = movAft p sp ms := ⟨_, rfl⟩
  rw [← hA] at HMI HMS HLA HTK
  obtain ⟨R, hR⟩ : ∃ R, R = runMov p sp ms := ⟨_, rfl⟩
  rw [← hR] at HRI HTK
  obtain ⟨n, hn⟩ : ∃ n, n = p.length := ⟨_, rfl⟩
  have HN := hid hn
  obtain ⟨m, hm⟩ : ∃ m, m = ms.length := ⟨_, rfl⟩
  have HM := hid hm
  rw [← hn] at hpl HMI HMS HRI HMK ⊢
  rw [← hm] at hl1 hlc1 HMI HMS HRI HMK ⊢
  clear hr1 ho1 hb1 hn hm hR hA
  go_wp2_with fail
  refine (HMI.out _ HR1.out HO1.out).mono ?_
  rintro e w2 ⟨a3, c3, rfl, ho2, hb2⟩
  have HX2 := hid (Rd.own ho2)
  have HR2 := hid (HR1.out.below hb2)
  have HO2 := hid (HO1.out.below hb2)
  have HB2 := hid (HB1.out.trans (hb2.mono HB1.out.size))
  clear ho2 hb2
  go_wp2_with fail
  refine (HRI.out _ HR2.out HO2.out).mono ?_
  rintro e w3 ⟨a4, c4, rfl, ho3, hb3⟩
  have HX3 := hid (HX2.out.below hb3)
  have HR3 := hid (HR2.out.below hb3)
  have HO3 := hid (HO2.out.below hb3)
  have HB3 := hid (HB2.out.trans (hb3.mono HB2.out.size))
  clear ho3 hb3
  obtain ⟨L, hL⟩ : ∃ L, L = A.length := ⟨_, rfl⟩
  rw [← hL]
  have HLR := hid hL
  obtain ⟨B, hB⟩ : ∃ B, B = R.2 := ⟨_, rfl⟩
  rw [← hB] at HTK ⊢
  clear hL hB
  go_wp2_with fail
  refine (HMS.out _ HR3.out HO3.out).mono ?_
  rintro e w4 ⟨a5, c5, rfl, ho4, hb4⟩
  rw [← HLR.out]
  have HY4 := hid (Rd.own ho4)
  have HX4 := hid (HX3.out.below hb4)
  have HR4 := hid (HR3.out.below hb4)
  have HO4 := hid (HO3.out.below hb4)
  have HB4 := hid (HB3.out.trans (hb4.mono HB3.out.size))
  have HW4 := hid (HWM.out w4 a3 a5 c3 c5 A A HX4.out HY4.out HLA.out HLA.out)
  rw [decide_eq_true rfl, ← HLR.out] at HW4
  clear ho4 hb4
  go_wp2_with fail
  refine HW4.out.mono ?_
  rintro e w5 ⟨rfl, hb5⟩
  have HX5 := hid (HX4.out.below hb5)
  have HR5 := hid (HR4.out.below hb5)
  have HO5 := hid (HO4.out.below hb5)
  have HB5 := hid (HB4.out.trans (hb5.mono HB4.out.size))
  have hs5 := HB5.out.size
  clear hb5
  by_cases hm0 : m = 0
  · have m0 : ((m : Int) == 0) = true := by simp [hm0]
    clear hm0
    by_cases hl0 : L = 0
    · have l0 : ((L : Int) == 0) = true := by simp [hl0]
      clear hl0
      cases B
      · skip
        go_wp2_with fail
        refine (HMS.out _ HR5.out HO5.out).mono ?_
        rintro e w6 ⟨a6, c6, rfl, ho6, hb6⟩
        rw [← HLR.out]
        have HY6 := hid (Rd.own ho6)
        have HX6 := hid (HX5.out.below hb6)
        have HB6 := hid (HB5.out.trans (hb6.mono HB5.out.size))
        have HW6 := hid (HWM.out w6 a3 a6 c3 c6 A A HX6.out HY6.out HLA.out HLA.out)
        rw [decide_eq_true rfl, ← HLR.out] at HW6
        clear ho6 hb6
        go_wp2_with fail
        refine HW6.out.mono ?_
        rintro e w7 ⟨rfl, hb7⟩
        have HB7 := hid (HB6.out.trans (hb7.mono HB6.out.size))
        clear hb7
        go_wp2_with fail
        go_ret
        exact ⟨rfl, HB7.out⟩
      · skip
        go_wp2_with fail
        refine (HMS.out _ HR5.out HO5.out).mono ?_
        rintro e w6 ⟨a6, c6, rfl, ho6, hb6⟩
        rw [← HLR.out]
        have HY6 := hid (Rd.own ho6)
        have HX6 := hid (HX5.out.below hb6)
        have HB6 := hid (HB5.out.trans (hb6.mono HB5.out.size))
        have HW6 := hid (HWM.out w6 a3 a6 c3 c6 A A HX6.out HY6.out HLA.out HLA.out)
        rw [decide_eq_true rfl, ← HLR.out] at HW6
        clear ho6 hb6
        go_wp2_with fail
        refine HW6.out.mono ?_
        rintro e w7 ⟨rfl, hb7⟩
        have HB7 := hid (HB6.out.trans (hb7.mono HB6.out.size))
        clear hb7
        go_wp2_with fail
        go_ret
        exact ⟨rfl, HB7.out⟩
    · have l0 : ((L : Int) == 0) = false := by simp; omega
      clear hl0
      cases B
      · skip
        go_wp2_with fail
        refine (HMS.out _ HR5.out HO5.out).mono ?_
        rintro e w6 ⟨a6, c6, rfl, ho6, hb6⟩
        rw [← HLR.out]
        have HY6 := hid (Rd.own ho6)
        have HX6 := hid (HX5.out.below hb6)
        have HB6 := hid (HB5.out.trans (hb6.mono HB5.out.size))
        have HW6 := hid (HWM.out w6 a3 a6 c3 c6 A A HX6.out HY6.out HLA.out HLA.out)
        rw [decide_eq_true rfl, ← HLR.out] at HW6
        clear ho6 hb6
        go_wp2_with fail
        refine HW6.out.mono ?_
        rintro e w7 ⟨rfl, hb7⟩
        have HB7 := hid (HB6.out.trans (hb7.mono HB6.out.size))
        clear hb7
        go_wp2_with fail
        go_ret
        exact ⟨rfl, HB7.out⟩
      · skip
        go_wp2_with fail
        refine (HMS.out _ HR5.out HO5.out).mono ?_
        rintro e w6 ⟨a6, c6, rfl, ho6, hb6⟩
        rw [← HLR.out]
        have HY6 := hid (Rd.own ho6)
        have HX6 := hid (HX5.out.below hb6)
        have HB6 := hid (HB5.out.trans (hb6.mono HB5.out.size))
        have HW6 := hid (HWM.out w6 a3 a6 c3 c6 A A HX6.out HY6.out HLA.out HLA.out)
        rw [decide_eq_true rfl, ← HLR.out] at HW6
        clear ho6 hb6
        go_wp2_with fail
        refine HW6.out.mono ?_
        rintro e w7 ⟨rfl, hb7⟩
        have HB7 := hid (HB6.out.trans (hb7.mono HB6.out.size))
        clear hb7
        go_wp2_with fail
        go_ret
        exact ⟨rfl, HB7.out⟩
  · have m0 : ((m : Int) == 0) = false := by simp; omega
    by_cases hcnd : B = false ∧ L = 0
    · obtain ⟨rfl, hl0⟩ := hcnd
      have l0 : ((L : Int) == 0) = true := by simp [hl0]
      clear hl0
      go_wp2_with fail
      refine (HMS.out _ HR5.out HO5.out).mono ?_
      rintro e w6 ⟨a6, c6, rfl, ho6, hb6⟩
      rw [← HLR.out]
      have HY6 := hid (Rd.own ho6)
      have HX6 := hid (HX5.out.below hb6)
      have HB6 := hid (HB5.out.trans (hb6.mono HB5.out.size))
      have HW6 := hid (HWM.out w6 a3 a6 c3 c6 A A HX6.out HY6.out HLA.out HLA.out)
      rw [decide_eq_true rfl, ← HLR.out] at HW6
      clear ho6 hb6
      go_wp2_with fail
      refine HW6.out.mono ?_
      rintro e w7 ⟨rfl, hb7⟩
      have HB7 := hid (HB6.out.trans (hb7.mono HB6.out.size))
      clear hb7
      go_wp2_with fail
      go_ret
      exact ⟨rfl, HB7.out⟩
    · have HC := hid (show B = true ∨ A ≠ [] from by
        cases B
        · right
          intro e
          have := HLR.out
          rw [e] at this
          exact hcnd ⟨rfl, this⟩
        · left; rfl)
      obtain ⟨k, hk⟩ : ∃ k : Nat, k = lm % m := ⟨_, rfl⟩
      have hke : (lm : Int) % (m : Int) = (k : Int) := by rw [hk]; exact (Int.natCast_emod lm m).symm
      have hkm : k < m := by rw [hk]; exact Nat.mod_lt _ (by omega)
      have mz : ¬ ((m : Int) = 0) := by omega
      clear hk hm0
      obtain ⟨ob, oo, hoa, hob, hoc⟩ := HO5.out.int k (by rw [← HM.out]; exact hkm)
      subst hoa
      obtain ⟨x, hx⟩ : ∃ x, x = ms[k]'(by rw [← HM.out]; exact hkm) := ⟨_, rfl⟩
      have HIN := hid (show decide (x ∈ T k) = true from decide_eq_true (HTK.out k x HC.out (by rw [hx]; exact List.getElem?_eq_getElem _)))
      rw [← hx] at hoc
      have HCX := hid hoc
      have HTR := hid (rd_take HO5.out k)
      have HMT := hid (fun w h h' => HMK.out w k (by have := HM.out; omega) h h')
      have HLK := hid (HLT.out k)
      obtain ⟨t, ht⟩ : ∃ t, t = T k := ⟨_, rfl⟩
      rw [← ht] at HIN HMT HLK
      have HIC := hid (fun w a c (h : Rd w a (ints t)) => wmIn_c w a c t x h HLK.out)
      rw [HIN.out] at HIC
      have hkc : (k : Int) ≤ (mc : Int) := by omega
      have HKM := hid hkm
      clear hx hoc ht
      cases B
      · have l0 : ((L : Int) == 0) = false := by
          have : L ≠ 0 := fun e => hcnd ⟨rfl, e⟩
          simp; omega
        clear hcnd
        go_wp2_with fail
        refine FR.wp_region_free 10 (PfI w5 t) (by kernel_rfl) (by kernel_rfl) (by kernel_rfl) (fun _ => undef) ⟨below_drewN 1 (Below.refl _ _), fun h => (by cases h)⟩ fun V => ?_
        (refine FR.frGo_pure _ rfl (fun K hK => ?_); go_simp; (first | refine hK _ ?_ | refine ⟨_, fun W hW => rfl, hK _ ?_⟩ | refine ⟨_, fun W hW => ⟨rfl, rfl⟩, hK _ ?_⟩); clear hK K)
        (refine FR.frGo_pure _ rfl (fun K hK => ?_); go_simp; (first | refine hK _ ?_ | refine ⟨_, fun W hW => rfl, hK _ ?_⟩ | refine ⟨_, fun W hW => ⟨rfl, rfl⟩, hK _ ?_⟩); clear hK K)
        (refine FR.frGo_pure _ rfl (fun K hK => ?_); go_simp; (first | refine hK _ ?_ | refine ⟨_, fun W hW => rfl, hK _ ?_⟩ | refine ⟨_, fun W hW => ⟨rfl, rfl⟩, hK _ ?_⟩); clear hK K)
        (refine FR.frGo_pure _ rfl (fun K hK => ?_); go_simp; (first | refine hK _ ?_ | refine ⟨_, fun W hW => rfl, hK _ ?_⟩ | refine ⟨_, fun W hW => ⟨rfl, rfl⟩, hK _ ?_⟩); clear hK K)
        (refine FR.frGo_pure _ rfl (fun K hK => ?_); go_simp; (first | refine hK _ ?_ | refine ⟨_, fun W hW => rfl, hK _ ?_⟩ | refine ⟨_, fun W hW => ⟨rfl, rfl⟩, hK _ ?_⟩); clear hK K)
        refine FR.frGo_act (k := 5) _ rfl (fun S ρ w' hI hS hp K hK => ?_) ?_
        · have HCM := hid (HMT.out w' (HR5.out.below hI.1) (HTR.out.below hI.1))
          go_simp
          refine HCM.out.mono ?_
          rintro e w'' ⟨a6, c6, rfl, ho6, hb6⟩
          exact hK _ _ ⟨hI.1.trans (hb6.mono hI.1.size), fun _ => ⟨a6, c6, by rw [FR.upd_same], Rd.own ho6⟩⟩
        (refine FR.frGo_pure _ rfl (fun K hK => ?_); go_simp; (first | refine hK _ ?_ | refine ⟨_, fun W hW => rfl, hK _ ?_⟩ | refine ⟨_, fun W hW => ⟨rfl, rfl⟩, hK _ ?_⟩); clear hK K)
        (refine FR.frGo_pure _ rfl (fun K hK => ?_); go_simp; (first | refine hK _ ?_ | refine ⟨_, fun W hW => rfl, hK _ ?_⟩ | refine ⟨_, fun W hW => ⟨rfl, rfl⟩, hK _ ?_⟩); clear hK K)
        (refine FR.frGo_pure _ rfl (fun K hK => ?_); go_simp; (first | refine hK _ ?_ | refine ⟨_, fun W hW => rfl, hK _ ?_⟩ | refine ⟨_, fun W hW => ⟨rfl, rfl⟩, hK _ ?_⟩); clear hK K)
        refine FR.frGo_held _ rfl (fun w' => w'.cell? ⟨ob, oo + k, none⟩ = some (.int .i64 x)) (fun S ρ w' h _ => (h.1.cell (p := ⟨ob, oo + k, none⟩) hob).trans HCX.out) (fun K hK => ?_)
        go_simp
        refine ⟨.int .i64 x, fun W hW => ?_, hK _ ?_⟩
        · go_simp
        clear hK K
        refine FR.frGo_nil _ ?_
        intro S ρ w6 hI hS
        have z5 := hS 5 (by decide) (by kernel_rfl)
        obtain ⟨a6, c6, hv6, hr6⟩ := hI.2 z5.1
        rw [z5.2] at hv6
        rw [hv6]
        have HI6 := hid (HIC.out w6 a6 c6 hr6)
        have HB6 := hid (HB5.out.trans (hI.1.mono hs5))
        clear hI hS z5 hv6 hr6
        refine wpMix_act rfl rfl (fun K hK => ?_)
        go_simp
        refine HI6.out.mono ?_
        rintro e w7 ⟨rfl, hb7⟩
        have HB7 := hid (HB6.out.trans (hb7.mono HB6.out.size))
        clear hb7
        refine hK _ _ ?_
        clear hK K
        (with_reducible refine wpMix_rd rfl rfl (fun K hK => ?_); go_simp; (try go_bits); refine hK _ ?_; clear hK K)
        (with_reducible refine wpMix_nil ?_)
        go_wp2_with fail
        go_ret
        exact ⟨rfl, HB7.out⟩
      · clear hcnd
        go_wp2_with fail
        refine FR.wp_region_free 10 (PfI w5 t) (by kernel_rfl) (by kernel_rfl) (by kernel_rfl) (fun _ => undef) ⟨below_drewN 1 (Below.refl _ _), fun h => (by cases h)⟩ fun V => ?_
        (refine FR.frGo_pure _ rfl (fun K hK => ?_); go_simp; (first | refine hK _ ?_ | refine ⟨_, fun W hW => rfl, hK _ ?_⟩ | refine ⟨_, fun W hW => ⟨rfl, rfl⟩, hK _ ?_⟩); clear hK K)
        (refine FR.frGo_pure _ rfl (fun K hK => ?_); go_simp; (first | refine hK _ ?_ | refine ⟨_, fun W hW => rfl, hK _ ?_⟩ | refine ⟨_, fun W hW => ⟨rfl, rfl⟩, hK _ ?_⟩); clear hK K)
        (refine FR.frGo_pure _ rfl (fun K hK => ?_); go_simp; (first | refine hK _ ?_ | refine ⟨_, fun W hW => rfl, hK _ ?_⟩ | refine ⟨_, fun W hW => ⟨rfl, rfl⟩, hK _ ?_⟩); clear hK K)
        (refine FR.frGo_pure _ rfl (fun K hK => ?_); go_simp; (first | refine hK _ ?_ | refine ⟨_, fun W hW => rfl, hK _ ?_⟩ | refine ⟨_, fun W hW => ⟨rfl, rfl⟩, hK _ ?_⟩); clear hK K)
        (refine FR.frGo_pure _ rfl (fun K hK => ?_); go_simp; (first | refine hK _ ?_ | refine ⟨_, fun W hW => rfl, hK _ ?_⟩ | refine ⟨_, fun W hW => ⟨rfl, rfl⟩, hK _ ?_⟩); clear hK K)
        refine FR.frGo_act (k := 5) _ rfl (fun S ρ w' hI hS hp K hK => ?_) ?_
        · have HCM := hid (HMT.out w' (HR5.out.below hI.1) (HTR.out.below hI.1))
          go_simp
          refine HCM.out.mono ?_
          rintro e w'' ⟨a6, c6, rfl, ho6, hb6⟩
          exact hK _ _ ⟨hI.1.trans (hb6.mono hI.1.size), fun _ => ⟨a6, c6, by rw [FR.upd_same], Rd.own ho6⟩⟩
        (refine FR.frGo_pure _ rfl (fun K hK => ?_); go_simp; (first | refine hK _ ?_ | refine ⟨_, fun W hW => rfl, hK _ ?_⟩ | refine ⟨_, fun W hW => ⟨rfl, rfl⟩, hK _ ?_⟩); clear hK K)
        (refine FR.frGo_pure _ rfl (fun K hK => ?_); go_simp; (first | refine hK _ ?_ | refine ⟨_, fun W hW => rfl, hK _ ?_⟩ | refine ⟨_, fun W hW => ⟨rfl, rfl⟩, hK _ ?_⟩); clear hK K)
        (refine FR.frGo_pure _ rfl (fun K hK => ?_); go_simp; (first | refine hK _ ?_ | refine ⟨_, fun W hW => rfl, hK _ ?_⟩ | refine ⟨_, fun W hW => ⟨rfl, rfl⟩, hK _ ?_⟩); clear hK K)
        refine FR.frGo_held _ rfl (fun w' => w'.cell? ⟨ob, oo + k, none⟩ = some (.int .i64 x)) (fun S ρ w' h _ => (h.1.cell (p := ⟨ob, oo + k, none⟩) hob).trans HCX.out) (fun K hK => ?_)
        go_simp
        refine ⟨.int .i64 x, fun W hW => ?_, hK _ ?_⟩
        · go_simp
        clear hK K
        refine FR.frGo_nil _ ?_
        intro S ρ w6 hI hS
        have z5 := hS 5 (by decide) (by kernel_rfl)
        obtain ⟨a6, c6, hv6, hr6⟩ := hI.2 z5.1
        rw [z5.2] at hv6
        rw [hv6]
        have HI6 := hid (HIC.out w6 a6 c6 hr6)
        have HB6 := hid (HB5.out.trans (hI.1.mono hs5))
        clear hI hS z5 hv6 hr6
        refine wpMix_act rfl rfl (fun K hK => ?_)
        go_simp
        refine HI6.out.mono ?_
        rintro e w7 ⟨rfl, hb7⟩
        have HB7 := hid (HB6.out.trans (hb7.mono HB6.out.size))
        clear hb7
        refine hK _ _ ?_
        clear hK K
        (with_reducible refine wpMix_rd rfl rfl (fun K hK => ?_); go_simp; (try go_bits); refine hK _ ?_; clear hK K)
        (with_reducible refine wpMix_nil ?_)
        go_wp2_with fail
        go_ret
        exact ⟨rfl, HB7.out⟩
theorem walk (w : World) (a0 : Option Addr) (cap0 : Nat) (bs0 : List Int) (h0 : Rd w a0 (u8s bs0)) (f0 : ∀ n ∈ bs0, (Lit.int .u8 n).wf = true) (d0 : bs0.length ≤ cap0 ∧ cap0 ≤ 9223372036854775807) (a1 : Option Addr) (cap1 : Nat) (bs1 : List Int) (h1 : Rd w a1 (u8s bs1)) (f1 : ∀ n ∈ bs1, (Lit.int .u8 n).wf = true) (d1 : bs1.length ≤ cap1 ∧ cap1 ≤ 9223372036854775807) :
    Calls Try.prog 4 #[.slice a0 bs0.length cap0, .slice a1 bs1.length cap1] w fun e w' => e = .returned (.bool true) ∧ Below w.heap.size w w' := by
  by_cases hb : 1048576 < bs0.length ∨ 1048576 < bs1.length
  · exact walkBig w a0 cap0 bs0 h0 f0 d0 a1 cap1 bs1 h1 f1 d1 hb
  · exact walkSmall w a0 cap0 bs0 h0 f0 d0 a1 cap1 bs1 h1 f1 d1 (by omega) (by omega)

set_option maxRecDepth 100000 in
theorem lifted (os : Os) (started : os.Started) (H : Type) (enc : TypeId × Value → H) :
    ReturnsInHanded {} Try.checked os 4 .any (Rows.fnMovesPrefixSpec.pre6 enc Try.prog Try.f4 Rows.fnMovesPrefixRow.domain false) (Rows.fnMovesPrefixSpec.post enc Try.prog Try.f4 false true false false) := by
  refine returnsInHanded_of_change (C := Try.checked) own started (by kernel_rfl) Try.func4
    (ChangeSpec.witness6 (enc := enc) (C := Try.checked) false ⟨#[], #[.slice none 0 0, .slice none 0 0], []⟩ 8 (by kernel_rfl) (by kernel_rfl) (by kernel_rfl) (by kernel_rfl)) ?_
  intro W base args ds gs before hval0 hW hcnd _
  have hval : ∀ (j : Nat) t v, Try.f4.params[j]? = some t → args[j]? = some v → Value.okWide Try.prog W .any base t v := hval0
  have hW' := hW
  obtain ⟨p, q, hA0, hV, rfl, hfz, hnd⟩ := hW
  have hA : DataW.TrodAll enc Try.prog W 0 (fun _ => true) true Try.f4.params.toList args.toList ds p := hA0
  rw [Try.params4] at hA hval
  obtain ⟨v0, vs0, d0, ds0, p0, q0, hargs, rfl, rfl, h0, r0⟩ := trodAll_cons hA
  obtain ⟨v1, vs1, d1, ds1, p1, q1, rfl, rfl, rfl, h1, r1⟩ := trodAll_cons r0
  obtain ⟨rfl, rfl, rfl⟩ := trodAll_nil r1
  obtain rfl : args = #[v0, v1] := by cases args; simp_all
  obtain ⟨rfl, rfl⟩ := trodVars_none hV
  obtain ⟨a0, len0, cap0, rfl⟩ := okWide_slice Try.underlying22 (hval 0 22 v0 rfl rfl)
  have k0 := h0
  have lt0 : ∀ x ∈ p0, x.block < W.heap.size := by obtain ⟨m, hm⟩ := k0; exact DataW.trod_lt m _ _ _ hm
  obtain ⟨z0, w0⟩ : ∃ zs, IsRow .u8 W a0 len0 cap0 zs := by
    obtain ⟨fuel, hf⟩ := h0
    rcases open_ints Try.underlying22 Try.underlying5 (by kernel_rfl) hf with ⟨hcs, _⟩ | ⟨x, l, c, zs, hcs, _, hl, hm, hz, _, hcell, hwz⟩
    · simp [Value.cells] at hcs
      obtain ⟨rfl, rfl, rfl⟩ := hcs
      exact ⟨[], .inl ⟨rfl, rfl, rfl, rfl⟩⟩
    · simp [Value.cells] at hcs
      obtain ⟨rfl, rfl, rfl⟩ := hcs
      exact ⟨zs, .inr ⟨_, rfl, hl, hm, by simpa using hz, hcell, hwz⟩⟩
  obtain ⟨x0, hx0, rd0, wf0⟩ := w0.rd
  subst hx0
  have bd0 := w0.cap
  obtain ⟨a1, len1, cap1, rfl⟩ := okWide_slice Try.underlying22 (hval 1 22 v1 rfl rfl)
  have k1 := h1
  have lt1 : ∀ x ∈ p1, x.block < W.heap.size := by obtain ⟨m, hm⟩ := k1; exact DataW.trod_lt m _ _ _ hm
  obtain ⟨z1, w1⟩ : ∃ zs, IsRow .u8 W a1 len1 cap1 zs := by
    obtain ⟨fuel, hf⟩ := h1
    rcases open_ints Try.underlying22 Try.underlying5 (by kernel_rfl) hf with ⟨hcs, _⟩ | ⟨x, l, c, zs, hcs, _, hl, hm, hz, _, hcell, hwz⟩
    · simp [Value.cells] at hcs
      obtain ⟨rfl, rfl, rfl⟩ := hcs
      exact ⟨[], .inl ⟨rfl, rfl, rfl, rfl⟩⟩
    · simp [Value.cells] at hcs
      obtain ⟨rfl, rfl, rfl⟩ := hcs
      exact ⟨zs, .inr ⟨_, rfl, hl, hm, by simpa using hz, hcell, hwz⟩⟩
  obtain ⟨x1, hx1, rd1, wf1⟩ := w1.rd
  subst hx1
  have bd1 := w1.cap
  clear hA0 hval0
  refine (walk W a0 cap0 x0 rd0 wf0 bd0 a1 cap1 x1 rd1 wf1 bd1).mono fun e W' ⟨he, bel⟩ => ?_
  subst he
  exact ⟨_, rfl, _, _, _, [], _, [], hW', trodAll_mk1 (shut_bool Try.underlying4 _), (trodAll_cons_mk (Below.trod laidOut (by kernel_rfl) (of_decide_eq_true (by kernel_rfl)) k0 bel lt0) (trodAll_cons_mk (Below.trod laidOut (by kernel_rfl) (of_decide_eq_true (by kernel_rfl)) k1 bel lt1) trodAll_mk0)), rfl, bel.frame _, fun h => by cases h⟩

theorem over : Rows.fnMovesPrefixRow.holds Try.pinned (OpenSpec.ofChange Rows.fnMovesPrefixSpec) :=
  OpenClaim.holds_of_wide 4 Try.f4 rfl rfl rfl rfl rfl rfl rfl ⟨rfl, rfl, rfl, rfl, rfl⟩ rfl rfl rfl rfl rfl (by kernel_rfl) Try.func4 (by kernel_rfl)
    (of_decide_eq_true (by kernel_rfl)) (by unfold Func.isWrapper; first | (rw [if_pos (by decide +kernel)]; kernel_rfl) | (rw [if_neg (by decide +kernel)]; exact ⟨rfl, rfl⟩))
    (fun os started H enc _ => lifted os started H enc)

theorem proved : Rows.FnMovesPrefixSaid := over
#print axioms proved
end Go.Proofs.Ytloghcfkjcbjlaa.fnMovesPrefix
