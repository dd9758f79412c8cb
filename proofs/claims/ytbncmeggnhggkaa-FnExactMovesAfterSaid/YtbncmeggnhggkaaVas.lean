/-
  PROVED HERE: what spec.l1Shape, ProgramValid, CountExecs do. CONDITIONS: as each theorem states.
-/
import Derived.Test.YtbncmeggnhggkaaVal
namespace Go.Proofs.Ytbncmeggnhggkaa
open Go.RowKit
set_option linter.unusedVariables false
set_option linter.unusedSimpArgs false

theorem dec_le (k m : Nat) : decide ((k : Int) ≤ (m : Int)) = decide (k ≤ m) := by
  rw [Bool.eq_iff_iff, decide_eq_true_eq, decide_eq_true_eq]; omega
theorem shape_no {p : Prg} {j : Nat} {xs : List Ins} (hx : p[j]? = some xs) (h : rowB xs = false) : shapeB p = false := by
  unfold shapeB
  have : p.all rowB = false := by
    rw [List.all_eq_false]
    exact ⟨xs, List.mem_of_getElem? hx, by simp [h]⟩
  rw [this]
  simp
theorem row_long {xs : List Ins} (h : 7 < xs.length) : rowB xs = false := by
  unfold rowB
  have : decide (xs.length ≤ 7) = false := by simp; omega
  rw [this]; rfl
theorem row_bad {xs : List Ins} {t : Nat} {x : Ins} (hx : xs[t]? = some x) (h : insValid x = false) : rowB xs = false := by
  unfold rowB
  have : xs.all insValid = false := by
    rw [List.all_eq_false]
    exact ⟨x, List.mem_of_getElem? hx, by simp [h]⟩
  rw [this]
  simp
theorem row_yes {xs : List Ins} (h : xs.length ≤ 7) (hv : ∀ (t : Nat) x, xs[t]? = some x → insValid x = true) : rowB xs = true := by
  unfold rowB
  simp only [Bool.and_eq_true, decide_eq_true_eq, List.all_eq_true]
  refine ⟨h, fun x hx => ?_⟩
  obtain ⟨t, ht, rfl⟩ := List.mem_iff_getElem.1 hx
  exact hv t _ (List.getElem?_eq_getElem ht)
theorem shape_yes {p : Prg} (h : p.length ≤ 3) (hv : ∀ (j : Nat) xs, p[j]? = some xs → rowB xs = true) : shapeB p = decide (ev p ≤ 12) := by
  unfold shapeB
  have h1 : decide (p.length ≤ 3) = true := by simpa using h
  have h2 : p.all rowB = true := by
    rw [List.all_eq_true]
    intro xs hx
    obtain ⟨j, hj, rfl⟩ := List.mem_iff_getElem.1 hx
    exact hv j _ (List.getElem?_eq_getElem hj)
  rw [h1, h2]
  rfl

set_option maxHeartbeats 1600000 in
theorem l1Shape_c (w : World) (a : Option Addr) (cap : Nat) (p : Prg) (h : RdP w a p) (hl : sizeP p ≤ 1048576) :
    Calls Try.prog 60 #[.slice a p.length cap] w fun e w' => e = .returned (.bool (shapeB p)) ∧ Below w.heap.size w w' := by
  have hpl := Nat.le_trans (sizeP_len p) hl
  by_cases hlen : p.length ≤ 3
  · have HB := hid (fun i xs (hx : p[i]? = some xs) k => Nat.le_trans (mid_le (q := evB) hx k) hl)
    have HA := hid (totTo_all evB p)
    have HY := hid (shape_yes (p := p) hlen)
    have HROW := hid (fun i xs (hx : p[i]? = some xs) => Nat.le_trans (sizeP_row hx) hl)
    have HNO := hid (fun j xs (hx : p[j]? = some xs) h => shape_no hx h)
    obtain ⟨n, hn⟩ : ∃ n, n = p.length := ⟨_, rfl⟩
    rw [← hn] at hpl HA hlen ⊢
    have HN := hid hn
    have hlen' : decide ((3 : Int) < n) = false := by simp; omega
    clear hn hl
    go_enter Try.func60, Try.ntmps60
    go_wp2
    go_loopw [3, 4] (fun c i wr => ∃ j : Nat, j ≤ n ∧ i = .int .i64 j ∧ c = .int .i64 (totTo evB j p : Nat) ∧ Hid (∀ (i : Nat) xs, i < j → p[i]? = some xs → rowB xs = true) ∧ Hid (Below w.heap.size w wr)) (fun _ i _ => n - (intOf i).toNat)
    case atStart => exact ⟨0, Nat.zero_le _, rfl, by simp [totTo_zero], hid (fun i xs hi => by omega), hid (Below.refl _ _)⟩
    case round =>
      obtain ⟨j, hj, rfl, rfl, HOK, HBel⟩ := hrel
      obtain ⟨wo, rfl⟩ : ∃ wo : World, wo = wr := ⟨_, rfl⟩
      by_cases hlt : j < n
      · obtain ⟨b, off, r, c, xs, rfl, hb, hx, hc, hr⟩ := h.at j (by rw [← HN.out]; exact hlt)
        have HX := hid hx
        have HR := hid hr
        have HC := hid hc
        have HLT := hid hb
        have hm1 := HROW.out j xs hx
        have HT := hid (totTo_succ (q := evB) hx)
        have HM := hid (HB.out j xs hx)
        have HLONG := hid (row_long (xs := xs))
        have HYES := hid (row_yes (xs := xs))
        obtain ⟨m, hm⟩ : ∃ m, m = xs.length := ⟨_, rfl⟩
        have HMX := hid hm
        rw [← hm] at HC hm1 HLONG HYES
        obtain ⟨s, hs⟩ : ∃ s, s = totTo evB j p := ⟨_, rfl⟩
        rw [← hs] at HT HM ⊢
        have hcx := (HBel.out.cell (p := ⟨b, off + j, none⟩) HLT.out).trans HC.out
        clear h hx hc hr hb hm hs
        by_cases hm7 : m ≤ 7
        · go_wp2_with fail
          clear hcx
          go_loopw [3, 5] (fun c i wr => ∃ t : Nat, t ≤ m ∧ i = .int .i64 t ∧ c = .int .i64 (s + (xs.take t).countP evB : Nat) ∧ Hid (∀ (k : Nat) x, k < t → xs[k]? = some x → insValid x = true) ∧ Hid (Below w.heap.size w wr)) (fun _ i _ => m - (intOf i).toNat)
          case atStart => exact ⟨0, Nat.zero_le _, rfl, by simp, hid (fun k x hk => by omega), HBel⟩
          case round =>
            obtain ⟨t, ht, rfl, rfl, HV, HB2⟩ := hrel
            have hcx := (HB2.out.cell (p := ⟨b, off + j, none⟩) HLT.out).trans HC.out
            by_cases hlm : t < m
            · obtain ⟨bx, ox, x, rfl, hbx, hx, hat⟩ := HR.out.ins t (by rw [← HMX.out]; exact hlm)
              obtain ⟨c0, c1, c2, c3⟩ := hat.below HB2.out hbx
              have HAT := hid hat
              have HBX := hid hbx
              have HXX := hid hx
              have HP := hid (take_countP (q := evB) hx)
              have hmm := HM.out t
              have hmm2 := HM.out (t + 1)
              rw [HP.out] at hmm2
              have HE := hid (show evB x = !(x.op == 4) from rfl)
              have HBAD := hid (fun h => row_bad hx h)
              obtain ⟨k, hk⟩ : ∃ k, k = (xs.take t).countP evB := ⟨_, rfl⟩
              rw [← hk] at HP hmm hmm2 ⊢
              have hltm : (t : Int) < m := by omega
              have HCA := hid (fun w => validS_c w x)
              clear hat hx hk hbx
              by_cases hv : insValid x = true
              · rw [hv] at HCA
                have HVX := hid hv
                clear hv
                go_wp2_with fail
                refine (HCA.out _).mono ?_
                rintro e w3 ⟨rfl, hb3⟩
                have HB3 := hid (HB2.out.trans (hb3.mono HB2.out.size))
                clear hb3 c0 c1 c2 c3 hcx
                have hcx := (HB3.out.cell (p := ⟨b, off + j, none⟩) HLT.out).trans HC.out
                obtain ⟨c0, c1, c2, c3⟩ := HAT.out.below HB3.out HBX.out
                by_cases h4 : (x.op == 4) = true
                · have h4' : (x.op != 4) = false := by simp at h4 ⊢; exact h4
                  have HQ1 := hid (show evB x = false by rw [HE.out, h4]; rfl)
                  clear h4
                  go_wp2_with fail
                  go_roundw
                  case rel => exact ⟨t + 1, by omega, by go_num, by rw [HP.out, HQ1.out]; simp, hid (fun k y hk hy => by
                    by_cases e : k = t
                    · subst e; rw [HXX.out] at hy; cases hy; exact HVX.out
                    · exact HV.out k y (by omega) hy), HB3⟩
                  case measure => simp [intOf]; omega
                · have h4' : (x.op != 4) = true := by simp at h4 ⊢; exact h4
                  have HQ1 := hid (show evB x = true by rw [HE.out]; simpa using h4)
                  rw [HQ1.out] at hmm2
                  simp only [if_true] at hmm2
                  clear h4
                  go_wp2_with fail
                  go_roundw
                  case rel => exact ⟨t + 1, by omega, by go_num, by rw [HP.out, HQ1.out]; simp; omega, hid (fun k y hk hy => by
                    by_cases e : k = t
                    · subst e; rw [HXX.out] at hy; cases hy; exact HVX.out
                    · exact HV.out k y (by omega) hy), HB3⟩
                  case measure => simp [intOf]; omega
              · have hv : insValid x = false := by simpa using hv
                rw [hv] at HCA
                have HNV := hid (HNO.out j xs HX.out (HBAD.out hv))
                clear hv
                go_wp2_with fail
                refine (HCA.out _).mono ?_
                rintro e w3 ⟨rfl, hb3⟩
                have HB3 := hid (HB2.out.trans (hb3.mono HB2.out.size))
                clear hb3
                go_wp2_with fail
                go_ret
                exact ⟨ret_bool HNV.out.symm, HB3.out⟩
            · have HTM := hid (show t = m by omega)
              have HE := hid (show (xs.take t).countP evB = xs.countP evB by rw [HTM.out, HMX.out, take_countP_all])
              have HRX := hid (show rowB xs = true from HYES.out hm7 fun k x hx => HV.out k x (by
                have := (List.getElem?_eq_some_iff.1 hx).1
                rw [← HMX.out] at this
                have := HTM.out
                omega) hx)
              have hmm := HM.out t
              obtain ⟨k, hk⟩ : ∃ k, k = (xs.take t).countP evB := ⟨_, rfl⟩
              rw [← hk] at HE hmm ⊢
              clear hk
              go_wp2_with fail
              go_roundw
              case rel => exact ⟨j + 1, by omega, by go_num, by rw [HT.out, ← HE.out], hid (fun i ys hi hy => by
                by_cases e : i = j
                · subst e; rw [HX.out] at hy; cases hy; exact HRX.out
                · exact HOK.out i ys (by omega) hy), HB2⟩
              case measure => simp [intOf]; omega
        · have HNV := hid (HNO.out j xs HX.out (HLONG.out (by omega)))
          go_wp2_with fail
          go_ret
          exact ⟨ret_bool HNV.out.symm, HBel.out⟩
      · have HJ := hid (show j = n by omega)
        have HF := hid (HY.out fun i xs hx => HOK.out i xs (by
          have := (List.getElem?_eq_some_iff.1 hx).1
          have := HN.out
          have := HJ.out
          omega) hx)
        go_wp2
        go_ret
        refine ⟨ret_bool ?_, HBel.out⟩
        rw [HF.out, HJ.out, HA.out]
        exact dec_le _ 12
  · have hs : shapeB p = false := by
      unfold shapeB
      have : decide (p.length ≤ 3) = false := by simpa using hlen
      rw [this]; rfl
    have hlen' : (3 : Int) < p.length := by omega
    rw [hs]
    go_enter Try.func60, Try.ntmps60
    go_wp2
    go_ret
    exact ⟨rfl, Below.refl _ _⟩

theorem validity (p : Prg) : progValid p = (shapeB p && decide (0 < p.length) && decide (execsN p ≤ 3000)) := by
  have : (execsN p ≤ 3000) ↔ (prodP p ≤ 3000) := by unfold execsN; omega
  unfold progValid
  simp only [this]

theorem pvS_c (w : World) (a : Option Addr) (cap : Nat) (p : Prg) (h : RdP w a p) (hl : sizeP p ≤ 1048576) :
    Calls Try.prog 33 #[.slice a p.length cap] w fun e w' => e = .returned (.bool (progValid p)) ∧ Below w.heap.size w w' := by
  have HS := hid (l1Shape_c w a cap p h hl)
  have HV := hid (validity p)
  by_cases hs : shapeB p = true
  · have HE := hid (fun w' h => l1Execs_c w' a cap p h (shape_of hs))
    rw [hs] at HS HV
    have HH := hid (fun w' hb => h.below (w' := w') hb)
    clear h hs
    by_cases hp : 0 < p.length
    · have hp' : (0 : Int) < p.length := by omega
      go_enter Try.func33, Try.ntmps33
      go_wp2_with fail
      refine HS.out.mono ?_
      rintro e w1 ⟨rfl, hb1⟩
      have HB1 := hid hb1
      go_wp2_with fail
      refine (HE.out _ (HH.out _ HB1.out)).mono ?_
      rintro e w2 ⟨rfl, hb2⟩
      have HB2 := hid (HB1.out.trans (hb2.mono HB1.out.size))
      clear hb1 hb2
      go_wp2
      go_ret
      refine ⟨ret_bool ?_, HB2.out⟩
      rw [HV.out]
      have : decide (0 < p.length) = true := by simpa using hp
      rw [this]
      exact dec_le _ 3000
    · have hp' : decide ((0 : Int) < p.length) = false := by rw [decide_eq_false_iff_not]; omega
      go_enter Try.func33, Try.ntmps33
      go_wp2_with fail
      refine HS.out.mono ?_
      rintro e w1 ⟨rfl, hb1⟩
      have HB1 := hid hb1
      go_wp2
      go_ret
      refine ⟨ret_bool ?_, HB1.out⟩
      rw [HV.out]
      have : decide (0 < p.length) = false := by simpa using hp
      rw [this]
      rfl
  · have hs : shapeB p = false := by simpa using hs
    rw [hs] at HS HV
    clear h hs
    go_enter Try.func33, Try.ntmps33
    go_wp2_with fail
    refine HS.out.mono ?_
    rintro e w1 ⟨rfl, hb1⟩
    have HB1 := hid hb1
    go_wp2
    go_ret
    refine ⟨ret_bool ?_, HB1.out⟩
    rw [HV.out]
    rfl
end Go.Proofs.Ytbncmeggnhggkaa
