/-
  PROVED HERE: laws.FnChoicesAfter returns true for every input, and each argument reads behind the call as it read before. CONDITIONS: none.
-/
import Derived.Test.YthlmfjoiicnomaaVr
import Derived.Test.YthlmfjoiicnomaaVg
import Derived.Test.YthlmfjoiicnomaaWw
import Derived.Test.YthlmfjoiicnomaaWm
import Derived.Test.YthlmfjoiicnomaaWy
import Derived.ShutString
import Derived.ChangeOld
namespace Go.Proofs.Ythlmfjoiicnomaa.fnChoicesAfter
open Go.ChangeShapes Go.WideShapes Go.ChangeAt Go.RowKit
open Go.ChangeMaps (open_string shut_string)
set_option linter.unusedVariables false
open Go.Proofs.Ythlmfjoiicnomaa
theorem own : ownKnob Try.prog.godebug = none := by kernel_rfl
theorem laidOut : laidOutB Try.prog = true := by kernel_rfl

theorem walkBig (w : World) (a0 : Option Addr) (cap0 : Nat) (bs0 : List Int) (h0 : Rd w a0 (u8s bs0)) (f0 : ∀ n ∈ bs0, (Lit.int .u8 n).wf = true) (d0 : bs0.length ≤ cap0 ∧ cap0 ≤ 9223372036854775807) (hb : 1048576 < bs0.length) :
    Calls Try.prog 4 #[.slice a0 bs0.length cap0] w fun e w' => e = .returned (.bool true) ∧ Below w.heap.size w w' := by
  clear h0 f0 d0
  have g : (1048576 : Int) < bs0.length := by omega
  go_enter Try.func4, Try.ntmps4
  go_wp2
  go_ret
  exact ⟨rfl, Below.refl _ _⟩

set_option maxRecDepth 100000 in
set_option maxHeartbeats 3200000 in
theorem walkSmall (w : World) (a0 : Option Addr) (cap0 : Nat) (bs0 : List Int) (h0 : Rd w a0 (u8s bs0)) (f0 : ∀ n ∈ bs0, (Lit.int .u8 n).wf = true) (d0 : bs0.length ≤ cap0 ∧ cap0 ≤ 9223372036854775807) (s0 : bs0.length ≤ 1048576) :
    Calls Try.prog 4 #[.slice a0 bs0.length cap0] w fun e w' => e = .returned (.bool true) ∧ Below w.heap.size w w' := by
  have g0 : decide ((1048576 : Int) < bs0.length) = false := by simp; omega
  have CD0 := hid (fun (w1 : World) (hb : Below w.heap.size w w1) => drawCA_c w1 a0 cap0 bs0 (h0.below hb) (byte_wf f0) s0 d0.1 d0.2)
  clear h0 f0 d0 s0
  go_enter Try.func4, Try.ntmps4
  go_wp2_with fail
  refine (CD0.out _ (Below.refl _ _)).mono ?_
  rintro e w1 ⟨p, ms, pa, pc, ma, mc, rfl, hr1, ho1, hz1, hl1, hlc1, hx1, hb1⟩
  have hpl := sizeP_len p
  have HR1 := hid hr1
  have HO1 := hid ho1
  have HB1 := hid hb1
  have hs1 := hb1.size
  have HMI := hid (fun w h h' => caI_c w pa pc p ma mc ms h h' (by omega) (by omega))
  have HMS := hid (fun w h h' => caS_c w pa pc p ma mc ms h h' (by omega) (by omega) (fun m hm => by have := hx1 m hm; omega))
  have HPV := hid (fun w h => pvI_c w pa pc p h (by omega))
  have HRX := hid (fun w (x : Int) a c (h : RdP w pa p) (h' : Rd w a (ints (ms ++ [x]))) => show Calls Try.prog 9 #[.slice pa p.length pc, .slice a (ms.length + 1) c] w (RetLB w (runCho p (ms ++ [x]))) from by
    have := rcI_c w pa pc p a c (ms ++ [x]) h h' (by omega) (by simp; omega)
    rw [List.length_append, List.length_singleton] at this
    exact this)
  have HMX := hid (fun w (x : Int) a c (h : RdP w pa p) (h' : Rd w a (ints (ms ++ [x]))) => show Calls Try.prog 13 #[.slice pa p.length pc, .slice a (ms.length + 1) c] w (RetL w (choAft p (ms ++ [x]))) from by
    have := caI_c w pa pc p a c (ms ++ [x]) h h' (by omega) (by simp; omega)
    rw [List.length_append, List.length_singleton] at this
    exact this)
  have HWM := hid (fun w a a' c c' xs ys h h' hl hl' => wmInts_c w a a' c c' xs ys h h' hl hl')
  have HLA := hid (choAft_len p ms)
  have HNX := hid (fun x (h : x ∈ choAft p ms) (hr : (runCho p (ms ++ [x])).2 = false) => choAft_next h hr)
  have HLT := hid (fun i x y (h1 : (choAft p ms)[i]? = some x) (h2 : (choAft p ms)[i + 1]? = some y) => choAft_lt h1 h2)
  have HIV := hid (fun (h : progValid p = false) => show choAft p ms = [] from by unfold choAft; rw [h]; rfl)
  obtain ⟨TX, hTX⟩ : ∃ TX : Int → List Int, TX = fun x => choAft p (ms ++ [x]) := ⟨_, rfl⟩
  have hTk : ∀ x, choAft p (ms ++ [x]) = TX x := fun x => by rw [hTX]
  obtain ⟨RX, hRX⟩ : ∃ RX : Int → List Int × Bool, RX = fun x => runCho p (ms ++ [x]) := ⟨_, rfl⟩
  have hRk : ∀ x, runCho p (ms ++ [x]) = RX x := fun x => by rw [hRX]
  simp only [hTk, hRk] at HRX HMX HNX
  clear hTX hTk hRX hRk
  obtain ⟨A, hA⟩ : ∃ A, A = choAft p ms := ⟨_, rfl⟩
  rw [← hA] at HMI HMS HLA HNX HLT HIV
  obtain ⟨V, hV⟩ : ∃ V, V = progValid p := ⟨_, rfl⟩
  rw [← hV] at HPV HIV
  obtain ⟨n, hn⟩ : ∃ n, n = p.length := ⟨_, rfl⟩
  have HN := hid hn
  obtain ⟨m, hm⟩ : ∃ m, m = ms.length := ⟨_, rfl⟩
  have HM := hid hm
  rw [← hn] at hpl HMI HMS HPV HRX HMX ⊢
  rw [← hm] at hl1 hlc1 HMI HMS HRX HMX ⊢
  clear hr1 ho1 hb1 hn hm hA hV hx1
  go_wp2_with fail
  refine (HMI.out _ HR1.out HO1.out).mono ?_
  rintro e w2 ⟨a3, c3, rfl, ho2, hb2⟩
  have HX2 := hid (Rd.own ho2)
  have HR2 := hid (HR1.out.below hb2)
  have HO2 := hid (HO1.out.below hb2)
  have HB2 := hid (HB1.out.trans (hb2.mono HB1.out.size))
  clear ho2 hb2
  obtain ⟨L, hL⟩ : ∃ L, L = A.length := ⟨_, rfl⟩
  rw [← hL]
  have HLR := hid hL
  clear hL
  go_wp2_with fail
  refine (HMS.out _ HR2.out HO2.out).mono ?_
  rintro e w3 ⟨a5, c5, rfl, ho3, hb3⟩
  rw [← HLR.out]
  have HY3 := hid (Rd.own ho3)
  have HX3 := hid (HX2.out.below hb3)
  have HR3 := hid (HR2.out.below hb3)
  have HO3 := hid (HO2.out.below hb3)
  have HB3 := hid (HB2.out.trans (hb3.mono HB2.out.size))
  have HW3 := hid (HWM.out w3 a3 a5 c3 c5 A A HX3.out HY3.out HLA.out HLA.out)
  rw [decide_eq_true rfl, ← HLR.out] at HW3
  clear ho3 hb3
  go_wp2_with fail
  refine HW3.out.mono ?_
  rintro e w4 ⟨rfl, hb4⟩
  have HX4 := hid (HX3.out.below hb4)
  have HR4 := hid (HR3.out.below hb4)
  have HO4 := hid (HO3.out.below hb4)
  have HB4 := hid (HB3.out.trans (hb4.mono HB3.out.size))
  clear hb4
  go_wp2_with fail
  refine (HPV.out _ HR4.out).mono ?_
  rintro e w5 ⟨rfl, hb5⟩
  have HX5 := hid (HX4.out.below hb5)
  have HR5 := hid (HR4.out.below hb5)
  have HO5 := hid (HO4.out.below hb5)
  have HB5 := hid (HB4.out.trans (hb5.mono HB4.out.size))
  clear hb5
  cases V
  · have l0 : ((L : Int) == 0) = true := by
      have := HLR.out
      rw [HIV.out rfl] at this
      simp [this]
    go_wp2_with fail
    refine (HMS.out _ HR5.out HO5.out).mono ?_
    rintro e w6 ⟨a6, c6, rfl, ho6, hb6⟩
    rw [← HLR.out]
    have HY6 := hid (Rd.own ho6)
    have HX6 := hid (HX5.out.below hb6)
    have HB6 := hid (HB5.out.trans (hb6.mono HB5.out.size))
    have HW6 := hid (HWM.out w6 a3 a6 c3 c6 A A HX6.out HY6.out HLA.out HLA.out)
    rw [decide_eq_true rfl, ← HLR.out] at HW6
    clear ho6 hb6
    go_wp2_with fail
    refine HW6.out.mono ?_
    rintro e w7 ⟨rfl, hb7⟩
    have HB7 := hid (HB6.out.trans (hb7.mono HB6.out.size))
    clear hb7
    go_wp2_with fail
    go_ret
    exact ⟨rfl, HB7.out⟩
  · have hs6 := HB5.out.size
    have hl6 : L ≤ 1048576 := by rw [HLR.out]; exact HLA.out
    go_wp2_with fail
    go_loopw [6, 7, 8, 9] (fun i _ _ _ wr => ∃ k : Nat, k ≤ L ∧ i = .int .i64 k ∧ Hid (Below w5.heap.size w5 wr)) (fun i _ _ _ _ => L - (intOf i).toNat)
    case atStart => exact ⟨0, Nat.zero_le _, rfl, hid (Below.refl _ _)⟩
    case round =>
      obtain ⟨k, hk, rfl, HW⟩ := hrel
      have hws := HW.out.size
      by_cases hlt : k < L
      · obtain ⟨lb, lo, hla, hlb, hlc⟩ := HX5.out.int k (by rw [← HLR.out]; exact hlt)
        subst hla
        obtain ⟨x, hx⟩ : ∃ x, x = A[k]'(by rw [← HLR.out]; exact hlt) := ⟨_, rfl⟩
        rw [← hx] at hlc
        have HXM := hid (show A[k]? = some x by rw [hx]; exact List.getElem?_eq_getElem _)
        have HCX := hid hlc
        have HNE := hid (HNX.out x (List.mem_of_getElem? HXM.out))
        have hkL : (k : Int) < (L : Int) := by omega
        have HOw := hid (HO5.out.below HW.out)
        clear hlc hx
        go_wp2_with fail
        refine FR.wp_region_free 8 (Parts wr nxG (nxQ wr ms x)) (by kernel_rfl) (by kernel_rfl) (by kernel_rfl) (fun _ => undef) (Parts.start _ _ _ _) fun V => ?_
        have HP := hid (fun k S ρ w' (h : Parts wr nxG (nxQ wr ms x) S ρ w') (e : S k = true ∧ ρ k = V k) => show nxQ wr ms x k w' (V k) from by have := h.part k e.1; rw [e.2] at this; exact this)
        refine FR.frGo_act (k := 0) _ rfl (fun S ρ w' hI hS hp K hK => ?_) ?_
        · go_simp
          exact hK _ _ (hI.new (nxQ_stays _ _ _) _ (IsLit.new wr w' _ hI.below.size) rfl)
        (refine FR.frGo_pure _ rfl (fun K hK => ?_); go_simp; (first | refine hK _ ?_ | refine ⟨_, fun W hW => rfl, hK _ ?_⟩ | refine ⟨_, fun W hW => ⟨rfl, rfl⟩, hK _ ?_⟩); clear hK K)
        refine FR.frGo_act (k := 2) _ rfl (fun S ρ w' hI hS hp K hK => ?_) ?_
        · have hp0 := hp 0 (by kernel_rfl)
          have q0 : IsLit wr w' 3 (V 0) := HP.out 0 S ρ w' hI hp0
          refine oper_append_lit wr _ _ 24 rfl 3 (.int .i64 0) 1 8 Try.underlying24 Try.info_int rfl (by decide) (V 0) rfl q0 ma m mc (ints ms) rfl (HOw.out.below hI.below) (by simp [HM.out]) (ints_one _ _) (by omega) (by decide) ?_
          intro a' c' w'' hown hb hat
          refine hK _ _ (hI.step (nxQ_stays _ _ _) hb ⟨a', c', by rw [HM.out], by rw [← HM.out]; exact hown⟩ fun b e => ?_)
          rcases hat b e with h | h
          · exact .inr ⟨0, hp0.1, by decide, rfl, by rw [hp0.2]; exact h⟩
          · exact .inl h
        (refine FR.frGo_pure _ rfl (fun K hK => ?_); go_simp; (first | refine hK _ ?_ | refine ⟨_, fun W hW => rfl, hK _ ?_⟩ | refine ⟨_, fun W hW => ⟨rfl, rfl⟩, hK _ ?_⟩); clear hK K)
        (refine FR.frGo_pure _ rfl (fun K hK => ?_); go_simp; (first | refine hK _ ?_ | refine ⟨_, fun W hW => rfl, hK _ ?_⟩ | refine ⟨_, fun W hW => ⟨rfl, rfl⟩, hK _ ?_⟩); clear hK K)
        (refine FR.frGo_pure _ rfl (fun K hK => ?_); go_simp; (first | refine hK _ ?_ | refine ⟨_, fun W hW => rfl, hK _ ?_⟩ | refine ⟨_, fun W hW => ⟨rfl, rfl⟩, hK _ ?_⟩); clear hK K)
        refine FR.frGo_held _ rfl (fun w' => w'.cell? ⟨lb, lo + k, none⟩ = some (.int .i64 x)) (fun S ρ w' h _ => (h.below.cell (p := ⟨lb, lo + k, none⟩) (Nat.lt_of_lt_of_le hlb hws)).trans ((HW.out.cell (p := ⟨lb, lo + k, none⟩) hlb).trans HCX.out)) (fun K hK => ?_)
        go_simp
        refine ⟨.int .i64 x, fun W hW => ?_, hK _ ?_⟩
        · go_simp
        clear hK K
        refine FR.frGo_act (k := 7) _ rfl (fun S ρ w' hI hS hp K hK => ?_) ?_
        · go_simp
          exact hK _ _ (hI.new (nxQ_stays _ _ _) _ (IsInt.new hI.below.size _) rfl)
        refine FR.frGo_nil _ ?_
        intro S ρ w7 hI hS
        have z2 := hS 2 (by decide) (by kernel_rfl)
        have z7 := hS 7 (by decide) (by kernel_rfl)
        obtain ⟨b2, d2, e2, O2⟩ : IsOwn wr.heap.size ms w7 (V 2) := HP.out 2 S ρ w7 hI z2
        obtain ⟨H7, e7, h7a, h7b, h7c⟩ : IsInt wr.heap.size x w7 (V 7) := HP.out 7 S ρ w7 hI z7
        rw [e2] at O2
        rw [e2, e7]
        have hb7 := hI.below
        rw [← HM.out] at O2 ⊢
        have hs7 := hb7.size
        clear hI hS z2 z7 e2 e7 HP
        refine wpMix_act rfl rfl (fun K hK => ?_)
        refine oper_append_rx _ _ 24 rfl wr.heap.size 3 (.int .i64 0) 1 8 Try.underlying24 Try.info_int rfl (by decide) (.slice b2 m d2) m (ints ms) rfl O2 (some ⟨H7, 0, none⟩) 1 1 [.int .i64 x] rfl (.inr ⟨H7, 0, rfl, h7b, fun j u hj => (by
          match j, hj with
          | 0, hj => simp at hj; rw [← hj]; exact h7c
          | k + 1, hj => simp at hj)⟩) rfl (by simp [Value.oneCell']) (by omega) (by decide) hs7 ?_
        intro v8 w8 hown8 hgrow8
        rw [ownBlock_slice] at hgrow8
        have HB8r := hid (hb7.grown hgrow8 hs7 (fun b hb => (own_blk O2 b hb).1))
        obtain ⟨a8, c8, rfl, _⟩ := own_shape hown8
        have NX8 := hid (show Rd w8 a8 (ints (ms ++ [x])) from by
          have e : ints (ms ++ [x]) = ints ms ++ [.int .i64 x] := by simp
          rw [e]
          exact Rd.own hown8)
        have HB8 := hid (HW.out.trans (HB8r.out.mono hws))
        have HR8 := hid (HR5.out.below HB8.out)
        refine hK _ _ ?_
        clear hK K hown8 hgrow8 hb7 h7a h7b h7c O2
        (with_reducible refine wpMix_rd rfl rfl (fun K hK => ?_); go_simp; (try go_bits); refine hK _ ?_; clear hK K)
        (with_reducible refine wpMix_nil ?_)
        go_wp2_with fail
        refine (HRX.out w8 x a8 c8 HR8.out NX8.out).mono ?_
        rintro e w9 ⟨a9, c9, rfl, ho9, hb9⟩
        have NX9 := hid (NX8.out.below hb9)
        have HR9 := hid (HR8.out.below hb9)
        have HB9 := hid (HB8.out.trans (hb9.mono HB8.out.size))
        have hs9 := HB9.out.size
        clear ho9 hb9
        obtain ⟨E, hE⟩ : ∃ E, E = (RX x).2 := ⟨_, rfl⟩
        rw [← hE] at HNE ⊢
        clear hE
        by_cases hk0 : k = 0
        · subst hk0
          cases E
          · obtain ⟨z, hz⟩ : ∃ z, z = (TX x).length := ⟨_, rfl⟩
            have t0 : ((z : Int) == 0) = false := by
              have := HNE.out rfl
              cases h : TX x with
              | nil => exact absurd h this
              | cons _ _ => rw [hz, h, List.length_cons]; simp; omega
            have HZ := hid hz
            clear hz
            go_wp2_with fail
            obtain ⟨J, hJ⟩ : ∃ J : World → Prop, J = fun w' => Below w9.heap.size w9 w' := ⟨_, rfl⟩
            have HJ := hid (fun w' (h : Below w9.heap.size w9 w') => show J w' by rw [hJ]; exact h)
            have HC := hid (fun w' (h : J w') => show True from by
              rw [hJ] at h
              have hs9 := HB9.out.size
              exact trivial)
            have hJ0 : J w9.drew := HJ.out _ (below_drewN 1 (Below.refl _ _))
            clear hJ
            refine MJ.wp_region_mix (J := J) (by kernel_rfl) (by kernel_rfl) ?_
            repeat (first | (with_reducible refine MJ.wpMix_any rfl (by assumption) (fun K hK => ?_); go_simp; (first | refine hK _ (hid ?_) | refine ⟨_, fun W hW => rfl, hK _ (hid ?_)⟩ | refine ⟨_, fun W hW => ⟨rfl, rfl⟩, hK _ (hid ?_)⟩ | (apply Exists.intro; refine And.intro (fun W hW => ?_) (hK _ (hid ?_)); (focus (have hcs := HC.out W hW; go_simp; try rfl)))); clear hK K) | (with_reducible refine MJ.wpMix_skip (fun K hK => ?_); go_simp; refine hK _ (hid ?_); clear hK K))
            refine MJ.wpMix_yes rfl ?_
            (with_reducible refine MJ.wpMix_make rfl rfl (fun K hK => ?_); go_simp)
            refine (HMX.out _ x a8 c8 (HR9.out.below (below_drewN 1 (Below.refl _ _))) (NX9.out.below (below_drewN 1 (Below.refl _ _)))).mono ?_
            rintro e w10 ⟨a10, c10, rfl, ho10, hb10⟩
            rw [← HZ.out]
            have hb10' : Below w9.heap.size w9 w10 := (below_drewN 1 (Below.refl w9.heap.size w9)).trans hb10
            have hJ10 : J w10 := HJ.out _ hb10'
            have HB10 := hid (HB9.out.trans (hb10'.mono HB9.out.size))
            refine hK _ _ hJ10 ?_
            clear hK K hb10 hb10' ho10
            repeat (first | (with_reducible refine MJ.wpMix_any rfl (by assumption) (fun K hK => ?_); go_simp; (first | refine hK _ (hid ?_) | refine ⟨_, fun W hW => rfl, hK _ (hid ?_)⟩ | refine ⟨_, fun W hW => ⟨rfl, rfl⟩, hK _ (hid ?_)⟩ | (apply Exists.intro; refine And.intro (fun W hW => ?_) (hK _ (hid ?_)); (focus (have hcs := HC.out W hW; go_simp; try rfl)))); clear hK K) | (with_reducible refine MJ.wpMix_skip (fun K hK => ?_); go_simp; refine hK _ (hid ?_); clear hK K))
            refine MJ.wpMix_nil ?_
            clear hJ10
            clear HJ HC hJ0
            clear J
            go_wp2_with fail
            go_roundw
            case rel => exact ⟨1, by omega, by go_num, HB10⟩
            case measure => simp [intOf]; omega
          · skip
            go_wp2_with fail
            obtain ⟨J, hJ⟩ : ∃ J : World → Prop, J = fun w' => Below w9.heap.size w9 w' := ⟨_, rfl⟩
            have HJ := hid (fun w' (h : Below w9.heap.size w9 w') => show J w' by rw [hJ]; exact h)
            have HC := hid (fun w' (h : J w') => show True from by
              rw [hJ] at h
              have hs9 := HB9.out.size
              exact trivial)
            have hJ0 : J w9.drew := HJ.out _ (below_drewN 1 (Below.refl _ _))
            clear hJ
            refine MJ.wp_region_mix (J := J) (by kernel_rfl) (by kernel_rfl) ?_
            repeat (first | (with_reducible refine MJ.wpMix_any rfl (by assumption) (fun K hK => ?_); go_simp; (first | refine hK _ (hid ?_) | refine ⟨_, fun W hW => rfl, hK _ (hid ?_)⟩ | refine ⟨_, fun W hW => ⟨rfl, rfl⟩, hK _ (hid ?_)⟩ | (apply Exists.intro; refine And.intro (fun W hW => ?_) (hK _ (hid ?_)); (focus (have hcs := HC.out W hW; go_simp; try rfl)))); clear hK K) | (with_reducible refine MJ.wpMix_skip (fun K hK => ?_); go_simp; refine hK _ (hid ?_); clear hK K))
            refine MJ.wpMix_nil ?_
            clear HJ HC hJ0
            clear J
            go_wp2_with fail
            go_roundw
            case rel => exact ⟨1, by omega, by go_num, hid (below_drewN 1 HB9.out)⟩
            case measure => simp [intOf]; omega
        · have d0 : decide ((0 : Int) < (k : Int)) = true := by simp; omega
          obtain ⟨k', rfl⟩ : ∃ k', k = k' + 1 := ⟨k - 1, by omega⟩
          have hk1 : ((k' + 1 : Nat) : Int) - 1 = (k' : Int) := by omega
          have hkL' : (k' : Int) < (L : Int) := by omega
          have hkL2 : (k' : Int) + 1 < (L : Int) := by omega
          have hkn : ((k' : Int) + 1).toNat = k' + 1 := by omega
          have hk0p : (0 : Int) ≤ (k' : Int) + 1 := by omega
          have hk6 : k' ≤ 1048576 := by omega
          have hwr : IntKind.i64.wrap (k' : Int) = (k' : Int) := by rw [IntKind.wrap_i64]; omega
          obtain ⟨lb', lo', hla', _, hlc'⟩ := HX5.out.int k' (by rw [← HLR.out]; omega)
          simp only [Option.some.injEq, Addr.mk.injEq, and_true] at hla'
          obtain ⟨rfl, rfl⟩ := hla'
          obtain ⟨y, hy⟩ : ∃ y, y = A[k']'(by rw [← HLR.out]; omega) := ⟨_, rfl⟩
          rw [← hy] at hlc'
          have HCY := hid hlc'
          have hyx : decide (x ≤ y) = false := by
            have := HLT.out k' y x (by rw [hy]; exact List.getElem?_eq_getElem _) HXM.out
            simp; omega
          clear hlc' hy hk0
          cases E
          · obtain ⟨z, hz⟩ : ∃ z, z = (TX x).length := ⟨_, rfl⟩
            have t0 : ((z : Int) == 0) = false := by
              have := HNE.out rfl
              cases h : TX x with
              | nil => exact absurd h this
              | cons _ _ => rw [hz, h, List.length_cons]; simp; omega
            have HZ := hid hz
            clear hz
            go_wp2_with fail
            obtain ⟨J, hJ⟩ : ∃ J : World → Prop, J = fun w' => Below w9.heap.size w9 w' := ⟨_, rfl⟩
            have HJ := hid (fun w' (h : Below w9.heap.size w9 w') => show J w' by rw [hJ]; exact h)
            have HC := hid (fun w' (h : J w') => show (w'.cell? ⟨lb, lo + (k' + 1), none⟩ = some (.int .i64 x)) ∧ w'.cell? ⟨lb, lo + k', none⟩ = some (.int .i64 y) from by
              rw [hJ] at h
              have hs9 := HB9.out.size
              exact ⟨(h.cell (p := ⟨lb, lo + (k' + 1), none⟩) (by show lb < _; omega)).trans ((HB9.out.cell (p := ⟨lb, lo + (k' + 1), none⟩) hlb).trans HCX.out), (h.cell (p := ⟨lb, lo + k', none⟩) (by show lb < _; omega)).trans ((HB9.out.cell (p := ⟨lb, lo + k', none⟩) hlb).trans HCY.out)⟩)
            have hJ0 : J w9.drew := HJ.out _ (below_drewN 1 (Below.refl _ _))
            clear hJ
            refine MJ.wp_region_mix (J := J) (by kernel_rfl) (by kernel_rfl) ?_
            repeat (first | (with_reducible refine MJ.wpMix_any rfl (by assumption) (fun K hK => ?_); go_simp; (first | refine hK _ (hid ?_) | refine ⟨_, fun W hW => rfl, hK _ (hid ?_)⟩ | refine ⟨_, fun W hW => ⟨rfl, rfl⟩, hK _ (hid ?_)⟩ | (apply Exists.intro; refine And.intro (fun W hW => ?_) (hK _ (hid ?_)); (focus (have hcs := HC.out W hW; go_simp; try rfl)))); clear hK K) | (with_reducible refine MJ.wpMix_skip (fun K hK => ?_); go_simp; refine hK _ (hid ?_); clear hK K))
            refine MJ.wpMix_yes rfl ?_
            (with_reducible refine MJ.wpMix_make rfl rfl (fun K hK => ?_); go_simp)
            refine (HMX.out _ x a8 c8 (HR9.out.below (below_drewN 1 (Below.refl _ _))) (NX9.out.below (below_drewN 1 (Below.refl _ _)))).mono ?_
            rintro e w10 ⟨a10, c10, rfl, ho10, hb10⟩
            rw [← HZ.out]
            have hb10' : Below w9.heap.size w9 w10 := (below_drewN 1 (Below.refl w9.heap.size w9)).trans hb10
            have hJ10 : J w10 := HJ.out _ hb10'
            have HB10 := hid (HB9.out.trans (hb10'.mono HB9.out.size))
            refine hK _ _ hJ10 ?_
            clear hK K hb10 hb10' ho10
            repeat (first | (with_reducible refine MJ.wpMix_any rfl (by assumption) (fun K hK => ?_); go_simp; (first | refine hK _ (hid ?_) | refine ⟨_, fun W hW => rfl, hK _ (hid ?_)⟩ | refine ⟨_, fun W hW => ⟨rfl, rfl⟩, hK _ (hid ?_)⟩ | (apply Exists.intro; refine And.intro (fun W hW => ?_) (hK _ (hid ?_)); (focus (have hcs := HC.out W hW; go_simp; try rfl)))); clear hK K) | (with_reducible refine MJ.wpMix_skip (fun K hK => ?_); go_simp; refine hK _ (hid ?_); clear hK K))
            refine MJ.wpMix_nil ?_
            clear hJ10
            clear HJ HC hJ0
            clear J
            go_wp2_with fail
            go_roundw
            case rel => exact ⟨k' + 1 + 1, by omega, by go_num, HB10⟩
            case measure => simp [intOf]; omega
          · skip
            go_wp2_with fail
            obtain ⟨J, hJ⟩ : ∃ J : World → Prop, J = fun w' => Below w9.heap.size w9 w' := ⟨_, rfl⟩
            have HJ := hid (fun w' (h : Below w9.heap.size w9 w') => show J w' by rw [hJ]; exact h)
            have HC := hid (fun w' (h : J w') => show (w'.cell? ⟨lb, lo + (k' + 1), none⟩ = some (.int .i64 x)) ∧ w'.cell? ⟨lb, lo + k', none⟩ = some (.int .i64 y) from by
              rw [hJ] at h
              have hs9 := HB9.out.size
              exact ⟨(h.cell (p := ⟨lb, lo + (k' + 1), none⟩) (by show lb < _; omega)).trans ((HB9.out.cell (p := ⟨lb, lo + (k' + 1), none⟩) hlb).trans HCX.out), (h.cell (p := ⟨lb, lo + k', none⟩) (by show lb < _; omega)).trans ((HB9.out.cell (p := ⟨lb, lo + k', none⟩) hlb).trans HCY.out)⟩)
            have hJ0 : J w9.drew := HJ.out _ (below_drewN 1 (Below.refl _ _))
            clear hJ
            refine MJ.wp_region_mix (J := J) (by kernel_rfl) (by kernel_rfl) ?_
            repeat (first | (with_reducible refine MJ.wpMix_any rfl (by assumption) (fun K hK => ?_); go_simp; (first | refine hK _ (hid ?_) | refine ⟨_, fun W hW => rfl, hK _ (hid ?_)⟩ | refine ⟨_, fun W hW => ⟨rfl, rfl⟩, hK _ (hid ?_)⟩ | (apply Exists.intro; refine And.intro (fun W hW => ?_) (hK _ (hid ?_)); (focus (have hcs := HC.out W hW; go_simp; try rfl)))); clear hK K) | (with_reducible refine MJ.wpMix_skip (fun K hK => ?_); go_simp; refine hK _ (hid ?_); clear hK K))
            refine MJ.wpMix_nil ?_
            clear HJ HC hJ0
            clear J
            go_wp2_with fail
            go_roundw
            case rel => exact ⟨k' + 1 + 1, by omega, by go_num, hid (below_drewN 1 HB9.out)⟩
            case measure => simp [intOf]; omega
      · go_wp2_with fail
        go_ret
        exact ⟨rfl, HB5.out.trans (HW.out.mono hs6)⟩
theorem walk (w : World) (a0 : Option Addr) (cap0 : Nat) (bs0 : List Int) (h0 : Rd w a0 (u8s bs0)) (f0 : ∀ n ∈ bs0, (Lit.int .u8 n).wf = true) (d0 : bs0.length ≤ cap0 ∧ cap0 ≤ 9223372036854775807) :
    Calls Try.prog 4 #[.slice a0 bs0.length cap0] w fun e w' => e = .returned (.bool true) ∧ Below w.heap.size w w' := by
  by_cases hb : 1048576 < bs0.length
  · exact walkBig w a0 cap0 bs0 h0 f0 d0 hb
  · exact walkSmall w a0 cap0 bs0 h0 f0 d0 (by omega)

set_option maxRecDepth 100000 in
theorem lifted (os : Os) (started : os.Started) (H : Type) (enc : TypeId × Value → H) :
    ReturnsInHanded {} Try.checked os 4 .any (Rows.fnChoicesAfterSpec.pre6 enc Try.prog Try.f4 Rows.fnChoicesAfterRow.domain false) (Rows.fnChoicesAfterSpec.post enc Try.prog Try.f4 false true false false) := by
  refine returnsInHanded_of_change (C := Try.checked) own started (by kernel_rfl) Try.func4
    (ChangeSpec.witness6 (enc := enc) (C := Try.checked) false ⟨#[], #[.slice none 0 0], []⟩ 8 (by kernel_rfl) (by kernel_rfl) (by kernel_rfl) (by kernel_rfl)) ?_
  intro W base args ds gs before hval0 hW hcnd _
  have hval : ∀ (j : Nat) t v, Try.f4.params[j]? = some t → args[j]? = some v → Value.okWide Try.prog W .any base t v := hval0
  have hW' := hW
  obtain ⟨p, q, hA0, hV, rfl, hfz, hnd⟩ := hW
  have hA : DataW.TrodAll enc Try.prog W 0 (fun _ => true) true Try.f4.params.toList args.toList ds p := hA0
  rw [Try.params4] at hA hval
  obtain ⟨v0, vs0, d0, ds0, p0, q0, hargs, rfl, rfl, h0, r0⟩ := trodAll_cons hA
  obtain ⟨rfl, rfl, rfl⟩ := trodAll_nil r0
  obtain rfl : args = #[v0] := by cases args; simp_all
  obtain ⟨rfl, rfl⟩ := trodVars_none hV
  obtain ⟨a0, len0, cap0, rfl⟩ := okWide_slice Try.underlying22 (hval 0 22 v0 rfl rfl)
  have k0 := h0
  have lt0 : ∀ x ∈ p0, x.block < W.heap.size := by obtain ⟨m, hm⟩ := k0; exact DataW.trod_lt m _ _ _ hm
  obtain ⟨z0, w0⟩ : ∃ zs, IsRow .u8 W a0 len0 cap0 zs := by
    obtain ⟨fuel, hf⟩ := h0
    rcases open_ints Try.underlying22 Try.underlying5 (by kernel_rfl) hf with ⟨hcs, _⟩ | ⟨x, l, c, zs, hcs, _, hl, hm, hz, _, hcell, hwz⟩
    · simp [Value.cells] at hcs
      obtain ⟨rfl, rfl, rfl⟩ := hcs
      exact ⟨[], .inl ⟨rfl, rfl, rfl, rfl⟩⟩
    · simp [Value.cells] at hcs
      obtain ⟨rfl, rfl, rfl⟩ := hcs
      exact ⟨zs, .inr ⟨_, rfl, hl, hm, by simpa using hz, hcell, hwz⟩⟩
  obtain ⟨x0, hx0, rd0, wf0⟩ := w0.rd
  subst hx0
  have bd0 := w0.cap
  clear hA0 hval0
  refine (walk W a0 cap0 x0 rd0 wf0 bd0).mono fun e W' ⟨he, bel⟩ => ?_
  subst he
  exact ⟨_, rfl, _, _, _, [], _, [], hW', trodAll_mk1 (shut_bool Try.underlying4 _), (trodAll_cons_mk (Below.trod laidOut (by kernel_rfl) (of_decide_eq_true (by kernel_rfl)) k0 bel lt0) trodAll_mk0), rfl, bel.frame _, fun h => by cases h⟩

theorem over : Rows.fnChoicesAfterRow.holds Try.pinned (OpenSpec.ofChange Rows.fnChoicesAfterSpec) :=
  OpenClaim.holds_of_wide 4 Try.f4 rfl rfl rfl rfl rfl rfl rfl ⟨rfl, rfl, rfl, rfl, rfl⟩ rfl rfl rfl rfl rfl (by kernel_rfl) Try.func4 (by kernel_rfl)
    (of_decide_eq_true (by kernel_rfl)) (by unfold Func.isWrapper; first | (rw [if_pos (by decide +kernel)]; kernel_rfl) | (rw [if_neg (by decide +kernel)]; exact ⟨rfl, rfl⟩))
    (fun os started H enc _ => lifted os started H enc)

theorem proved : Rows.FnChoicesAfterSaid := over
#print axioms proved
end Go.Proofs.Ythlmfjoiicnomaa.fnChoicesAfter
