/-
  PROVED HERE: what impl.ProgramValid and CountExecs of both packages do. CONDITIONS: as each theorem states.
-/
import Derived.Test.YtbncmeggnhggkaaVai
namespace Go.Proofs.Ytbncmeggnhggkaa
open Go.RowKit
set_option linter.unusedVariables false
set_option linter.unusedSimpArgs false

theorem pv_no_shape {p : Prg} (h : shapeB p = false) : progValid p = false := by unfold progValid; rw [h]; rfl
theorem pv_no_len {p : Prg} (h : p.length < 1 ∨ 3 < p.length) : progValid p = false := by
  unfold progValid
  rcases h with h | h
  · have : decide (0 < p.length) = false := by rw [decide_eq_false_iff_not]; omega
    rw [this]; simp
  · have : shapeB p = false := by
      unfold shapeB
      have : decide (p.length ≤ 3) = false := by rw [decide_eq_false_iff_not]; omega
      rw [this]; rfl
    rw [this]; rfl

set_option maxHeartbeats 3200000 in
theorem pvI_up (w : World) (a : Option Addr) (cap : Nat) (p : Prg) (h : RdP w a p) (hl : sizeP p ≤ 2200000) :
    Calls Try.prog 39 #[.slice a p.length cap] w fun e w' => e = .returned (.bool (progValid p)) ∧ Below w.heap.size w w' := by
  have hpl := Nat.le_trans (sizeP_len p) hl
  have HC := hid (fun w x => within_c w x 1 3)
  by_cases hlen : 1 ≤ p.length ∧ p.length ≤ 3
  · have HB := hid (fun i xs (hx : p[i]? = some xs) k => Nat.le_trans (mid_le (q := evB) hx k) hl)
    have HA := hid (totTo_all evB p)
    have HY := hid (shape_yes (p := p) hlen.2)
    have HV := hid (validity p)
    have HROW := hid (fun i xs (hx : p[i]? = some xs) => Nat.le_trans (sizeP_row hx) hl)
    have HNO := hid (fun j xs (hx : p[j]? = some xs) h => pv_no_shape (shape_no hx h))
    have HEX := hid (fun w' (hb : Below w.heap.size w w') hs => execsI_c w' a cap p (h.below hb) (shape_of hs))
    have HH := hid h
    obtain ⟨n, hn⟩ : ∃ n, n = p.length := ⟨_, rfl⟩
    rw [← hn] at hpl HA hlen HEX HV ⊢
    have HN := hid hn
    have HPOS := hid hlen.1
    have hw1 : (decide ((1 : Int) ≤ n) && decide ((n : Int) ≤ 3)) = true := by
      rw [Bool.and_eq_true, decide_eq_true_eq, decide_eq_true_eq]; omega
    have hlen3 := hlen.2
    have HWI := hid (fun w => HC.out w n)
    rw [hw1] at HWI
    clear hn hl hw1 hlen h
    go_enter Try.func39, Try.ntmps39
    go_wp2_with fail
    refine (HWI.out _).mono ?_
    rintro e w' ⟨rfl, rfl⟩
    go_wp2_with fail
    go_loopw [3, 14] (fun c i wr => ∃ j : Nat, j ≤ n ∧ i = .int .i64 j ∧ c = .int .i64 (totTo evB j p : Nat) ∧ Hid (∀ (i : Nat) xs, i < j → p[i]? = some xs → rowB xs = true) ∧ Hid (Below w'.heap.size w' wr)) (fun _ i _ => n - (intOf i).toNat)
    case atStart => exact ⟨0, Nat.zero_le _, rfl, by simp [totTo_zero], hid (fun i xs hi => by omega), hid (Below.refl _ _)⟩
    case round =>
      obtain ⟨j, hj, rfl, rfl, HOK, HBel⟩ := hrel
      obtain ⟨wo, rfl⟩ : ∃ wo : World, wo = wr := ⟨_, rfl⟩
      by_cases hlt : j < n
      · obtain ⟨b, off, r, c, xs, hab, hb, hx, hc, hr⟩ := HH.out.at j (by rw [← HN.out]; exact hlt)
        subst hab
        have HX := hid hx
        have HR := hid hr
        have hm1 := HROW.out j xs hx
        have HT := hid (totTo_succ (q := evB) hx)
        have HM := hid (HB.out j xs hx)
        have hm0 := HB.out j xs hx 0
        simp only [List.take_zero, List.countP_nil, Nat.add_zero] at hm0
        have HLONG := hid (row_long (xs := xs))
        have HYES := hid (row_yes (xs := xs))
        obtain ⟨m, hm⟩ : ∃ m, m = xs.length := ⟨_, rfl⟩
        have HMX := hid hm
        rw [← hm] at hc hm1 HLONG HYES
        obtain ⟨s, hs⟩ : ∃ s, s = totTo evB j p := ⟨_, rfl⟩
        rw [← hs] at HT HM hm0 ⊢
        have hcx := (HBel.out.cell (p := ⟨b, off + j, none⟩) hb).trans hc
        clear hx hc hr hb hm hs
        go_wp2_with fail
        clear hcx
        go_loopw [3, 20] (fun c i wr => ∃ t : Nat, t ≤ m ∧ i = .int .i64 t ∧ c = .int .i64 (s + (xs.take t).countP evB : Nat) ∧ Hid (∀ (k : Nat) x, k < t → xs[k]? = some x → insValid x = true) ∧ Hid (Below w'.heap.size w' wr)) (fun _ i _ => m - (intOf i).toNat)
        case atStart => exact ⟨0, Nat.zero_le _, rfl, by simp, hid (fun k x hk => by omega), HBel⟩
        case round =>
          obtain ⟨t, ht, rfl, rfl, HVA, HB2⟩ := hrel
          by_cases hlm : t < m
          · obtain ⟨bx, ox, x, hax, hbx, hx, hat⟩ := HR.out.ins t (by rw [← HMX.out]; exact hlm)
            subst hax
            obtain ⟨c0, c1, c2, c3⟩ := hat.below HB2.out hbx
            have HXX := hid hx
            have HP := hid (take_countP (q := evB) hx)
            have hmm := HM.out t
            have hmm2 := HM.out (t + 1)
            rw [HP.out] at hmm2
            have HE := hid (show evB x = !(x.op == 4) from rfl)
            have HBAD := hid (fun h => row_bad hx h)
            obtain ⟨k, hk⟩ : ∃ k, k = (xs.take t).countP evB := ⟨_, rfl⟩
            rw [← hk] at HP hmm hmm2 ⊢
            have hltm : (t : Int) < m := by omega
            have HCA := hid (fun w => validI_c w x)
            have HB2' := hid (HB2.out.alloc HB2.out.size (.cells #[.int .i64 x.op, .int .i64 x.loc, .int .i64 x.reg, .int .i64 x.val] 79))
            clear hat hx hk hbx
            by_cases hv : insValid x = true
            · rw [hv] at HCA
              have HVX := hid hv
              clear hv
              go_wp2_with fail
              refine (HCA.out _).mono ?_
              rintro e w3 ⟨rfl, hb3⟩
              have HB3 := hid (HB2'.out.trans (hb3.mono HB2'.out.size))
              have y0 : w3.cell? ⟨wr.heap.size, 0, none⟩ = some (.int .i64 x.op) := by rw [hb3.cell (by simp)]; simp
              clear hb3 c0 c1 c2 c3
              by_cases h4 : (x.op == 4) = true
              · have h4' : (x.op != 4) = false := by simp at h4 ⊢; exact h4
                have HQ1 := hid (show evB x = false by rw [HE.out, h4]; rfl)
                clear h4
                go_wp2_with fail
                go_roundw
                case rel => exact ⟨t + 1, by omega, by go_num, by rw [HP.out, HQ1.out]; simp, hid (fun k y hk hy => by
                  by_cases e : k = t
                  · subst e; rw [HXX.out] at hy; cases hy; exact HVX.out
                  · exact HVA.out k y (by omega) hy), HB3⟩
                case measure => simp [intOf]; omega
              · have h4' : (x.op != 4) = true := by simp at h4 ⊢; exact h4
                have HQ1 := hid (show evB x = true by rw [HE.out]; simpa using h4)
                rw [HQ1.out] at hmm2
                simp only [if_true] at hmm2
                clear h4
                go_wp2_with fail
                go_roundw
                case rel => exact ⟨t + 1, by omega, by go_num, by rw [HP.out, HQ1.out]; simp; omega, hid (fun k y hk hy => by
                  by_cases e : k = t
                  · subst e; rw [HXX.out] at hy; cases hy; exact HVX.out
                  · exact HVA.out k y (by omega) hy), HB3⟩
                case measure => simp [intOf]; omega
            · have hv : insValid x = false := by simpa using hv
              rw [hv] at HCA
              have HNV := hid (HNO.out j xs HX.out (HBAD.out hv))
              clear hv
              go_wp2_with fail
              refine (HCA.out _).mono ?_
              rintro e w3 ⟨rfl, hb3⟩
              have HB3 := hid (HB2'.out.trans (hb3.mono HB2'.out.size))
              clear hb3
              go_wp2_with fail
              go_ret
              exact ⟨ret_bool HNV.out.symm, HB3.out⟩
          · have HTM := hid (show t = m by omega)
            have HE := hid (show (xs.take t).countP evB = xs.countP evB by rw [HTM.out, HMX.out, take_countP_all])
            have HVV := hid (show ∀ (k : Nat) x, xs[k]? = some x → insValid x = true from fun k x hx => HVA.out k x (by
              have := (List.getElem?_eq_some_iff.1 hx).1
              rw [← HMX.out] at this
              have := HTM.out
              omega) hx)
            have hmm := HM.out t
            obtain ⟨k, hk⟩ : ∃ k, k = (xs.take t).countP evB := ⟨_, rfl⟩
            rw [← hk] at HE hmm ⊢
            clear hk
            by_cases hm7 : m ≤ 7
            · have HRX := hid (show rowB xs = true from HYES.out hm7 HVV.out)
              go_wp2_with fail
              go_roundw
              case rel => exact ⟨j + 1, by omega, by go_num, by rw [HT.out, ← HE.out], hid (fun i ys hi hy => by
                by_cases e : i = j
                · subst e; rw [HX.out] at hy; cases hy; exact HRX.out
                · exact HOK.out i ys (by omega) hy), HB2⟩
              case measure => simp [intOf]; omega
            · have HNV := hid (HNO.out j xs HX.out (HLONG.out (by omega)))
              go_wp2_with fail
              go_ret
              exact ⟨ret_bool HNV.out.symm, HB2.out⟩
      · have HJ := hid (show j = n by omega)
        have HF := hid (HY.out fun i xs hx => HOK.out i xs (by
          have := (List.getElem?_eq_some_iff.1 hx).1
          have := HN.out
          have := HJ.out
          omega) hx)
        have HPD := hid (show decide (0 < n) = true by have := HPOS.out; rw [decide_eq_true_eq]; omega)
        rw [HJ.out, HA.out]
        rw [HF.out, HPD.out] at HV
        obtain ⟨v, hv⟩ : ∃ v, v = tot evB p := ⟨_, rfl⟩
        have HVE := hid (show ev p = v from hv.symm)
        rw [← hv]
        rw [HVE.out] at HF HV
        clear hv
        by_cases hv12 : v ≤ 12
        · have HS := hid (show shapeB p = true by rw [HF.out]; simpa using hv12)
          have HEX' := hid (HEX.out wo HBel.out HS.out)
          go_wp2_with fail
          refine HEX'.out.mono ?_
          rintro e w3 ⟨rfl, hb3⟩
          have HB3 := hid (HBel.out.trans (hb3.mono HBel.out.size))
          clear hb3
          go_wp2
          go_ret
          refine ⟨ret_bool ?_, HB3.out⟩
          rw [HV.out]
          have : decide (v ≤ 12) = true := by simpa using hv12
          rw [this]
          exact dec_le _ 3000
        · have hv12' : decide ((v : Int) ≤ 12) = false := by rw [decide_eq_false_iff_not]; omega
          go_wp2
          go_ret
          refine ⟨ret_bool ?_, HBel.out⟩
          rw [HV.out]
          have : decide (v ≤ 12) = false := by simpa using hv12
          rw [this]
          rfl
  · have hw1 : (decide ((1 : Int) ≤ p.length) && decide ((p.length : Int) ≤ 3)) = false := by
      rw [Bool.and_eq_false_iff, decide_eq_false_iff_not, decide_eq_false_iff_not]; omega
    have hv : progValid p = false := pv_no_len (by omega)
    have HWI := hid (fun w => HC.out w p.length)
    rw [hw1] at HWI
    rw [hv]
    go_enter Try.func39, Try.ntmps39
    go_wp2_with fail
    refine (HWI.out _).mono ?_
    rintro e w' ⟨rfl, rfl⟩
    go_wp2
    go_ret
    exact ⟨rfl, Below.refl _ _⟩
theorem pvI_c (w : World) (a : Option Addr) (cap : Nat) (p : Prg) (h : RdP w a p) (hl : sizeP p ≤ 1048576) :
    Calls Try.prog 39 #[.slice a p.length cap] w fun e w' => e = .returned (.bool (progValid p)) ∧ Below w.heap.size w w' := pvI_up w a cap p h (Nat.le_trans hl (by decide))

/-- The number of candidates. -/
def countExecs (p : Prg) : Nat := if progValid p then prodP p else 0
end Go.Proofs.Ytbncmeggnhggkaa
