/-
  PROVED HERE: what spec.l1Execs, l1Shape, ProgramValid, CountExecs do. CONDITIONS: as each theorem states.
-/
import Derived.Test.YtbncmeggnhggkaaCnt
namespace Go.Proofs.Ytbncmeggnhggkaa
open Go.RowKit
set_option linter.unusedVariables false
set_option linter.unusedSimpArgs false

def prodTo (p : Prg) : Nat → Nat
  | 0 => 1
  | k + 1 => prodTo p k * locP p (k : Nat)
theorem prodTo_all (p : Prg) : prodTo p 3 = prodP p := by
  show 1 * locP p ((0 : Nat) : Int) * locP p ((1 : Nat) : Int) * locP p ((2 : Nat) : Int) = locP p 0 * locP p 1 * locP p 2
  rw [Nat.one_mul]
  rfl
theorem fact_step (t : Nat) (h : 1 ≤ t) : fact (t - 1) * t = fact (t + 1 - 1) := by
  obtain ⟨k, rfl⟩ : ∃ k, t = k + 1 := ⟨t - 1, by omega⟩
  show fact k * (k + 1) = (k + 1) * fact k
  exact Nat.mul_comm _ _
theorem pow_step (P f t : Nat) : P * f ^ t * f = P * f ^ (t + 1) := by rw [Nat.pow_succ, Nat.mul_assoc]
theorem mul_bd (N f : Nat) (hN : N ≤ 3000) (hf : f ≤ 13) : N * f ≤ 39000 := Nat.mul_le_mul hN hf
theorem mul_bd1 (N W : Nat) (h : N * (W + 1) ≤ 39000) : (N : Int) * ((W : Int) + 1) ≤ 39000 := by
  have h1 : ((N * (W + 1) : Nat) : Int) ≤ ((39000 : Nat) : Int) := Int.ofNat_le.2 h
  rw [Int.natCast_mul, Int.natCast_add] at h1
  exact h1
theorem mul_bd0 (N u : Nat) (h : N * u ≤ 39000) : (N : Int) * (u : Int) ≤ 39000 := by
  have h1 : ((N * u : Nat) : Int) ≤ ((39000 : Nat) : Int) := Int.ofNat_le.2 h
  rw [Int.natCast_mul] at h1
  exact h1
theorem val_succ (t : Nat) : Value.int .i64 ((t : Int) + 1) = .int .i64 ((t + 1 : Nat) : Int) := rfl
theorem val_mul1 (N W : Nat) : Value.int .i64 ((N : Int) * ((W : Int) + 1)) = .int .i64 ((N * (W + 1) : Nat) : Int) := by rw [Int.natCast_mul, Int.natCast_add]; rfl
theorem val_mul (N u : Nat) : Value.int .i64 ((N : Int) * (u : Int)) = .int .i64 ((N * u : Nat) : Int) := by rw [Int.natCast_mul]
theorem locP_eq (p : Prg) (loc : Int) : locP p loc = (cnt p loc true + 1) ^ cnt p loc false * fact (cnt p loc true) := rfl

set_option maxHeartbeats 1600000 in
theorem l1Execs_c (w : World) (a : Option Addr) (cap : Nat) (p : Prg) (h : RdP w a p) (hs : Shape p) :
    Calls Try.prog 61 #[.slice a p.length cap, .int .i64 3000] w fun e w' => e = .returned (.int .i64 (execsN p : Nat)) ∧ Below w.heap.size w w' := by
  have hl : sizeP p ≤ 1048576 := Nat.le_trans (shape_size hs) (by omega)
  have HW := hid (fun w' (hb : Below w.heap.size w w') loc => countW_c w' a cap p loc (h.below hb) hl)
  have HR := hid (fun w' (hb : Below w.heap.size w w') loc => countR_c w' a cap p loc (h.below hb) hl)
  have HB := hid (fun loc wr => cnt_le hs loc wr)
  have HE := hid (show execsN p = min (prodP p) 3001 from rfl)
  have HA := hid (prodTo_all p)
  have HP := hid (fun k : Nat => (show prodTo p (k + 1) = prodTo p k * ((cnt p (k : Nat) true + 1) ^ cnt p (k : Nat) false * fact (cnt p (k : Nat) true)) from rfl))
  obtain ⟨n, hn⟩ : ∃ n, n = p.length := ⟨_, rfl⟩
  rw [← hn] at HW HR ⊢
  clear hn hl hs h
  go_enter Try.func61, Try.ntmps61
  go_wp2
  go_loopw [5, 6] (fun v l wr => ∃ k N : Nat, k ≤ 3 ∧ N ≤ 40000 ∧ l = .int .i64 k ∧ v = .int .i64 N ∧ Hid (Sat N (prodTo p k)) ∧ Hid (Below w.heap.size w wr)) (fun _ l _ => 3 - (intOf l).toNat)
  case atStart => exact ⟨0, 1, by omega, by omega, rfl, rfl, hid ⟨by omega, by omega, rfl⟩, hid (Below.refl _ _)⟩
  case round =>
    obtain ⟨k, N, hk, hN, rfl, rfl, HS, HBel⟩ := hrel
    obtain ⟨wo, rfl⟩ : ∃ wo : World, wo = wr := ⟨_, rfl⟩
    by_cases hlt : k < 3
    · have HPK := hid (HP.out k)
      have hW := HB.out (k : Nat) true
      have hR := HB.out (k : Nat) false
      have HWK := hid (fun w' hb => HW.out w' hb (k : Nat))
      have HRK := hid (fun w' hb => HR.out w' hb (k : Nat))
      obtain ⟨W, eW⟩ : ∃ W, W = cnt p (k : Nat) true := ⟨_, rfl⟩
      obtain ⟨R, eR⟩ : ∃ R, R = cnt p (k : Nat) false := ⟨_, rfl⟩
      rw [← eW] at HPK hW HWK
      rw [← eR] at HPK hR HRK
      obtain ⟨P, eP⟩ : ∃ P, P = prodTo p k := ⟨_, rfl⟩
      rw [← eP] at HPK HS
      clear eW eR eP
      go_wp2_with fail
      refine (HWK.out _ HBel.out).mono ?_
      rintro e w1 ⟨rfl, hb1⟩
      have HB1 := hid (HBel.out.trans (hb1.mono HBel.out.size))
      clear hb1
      go_wp2_with fail
      go_loopw [5, 8] (fun v i wr => ∃ t N : Nat, t ≤ R ∧ N ≤ 40000 ∧ i = .int .i64 t ∧ v = .int .i64 N ∧ Hid (Sat N (P * (W + 1) ^ t)) ∧ Hid (Below w.heap.size w wr)) (fun _ i _ => R - (intOf i).toNat)
      case atStart => exact ⟨0, N, by omega, hN, rfl, rfl, hid (by simpa using HS.out), HB1⟩
      case round =>
        obtain ⟨t, N1, ht, hN1, rfl, rfl, HS1, HB2⟩ := hrel
        obtain ⟨w2, rfl⟩ : ∃ w2 : World, w2 = wr := ⟨_, rfl⟩
        go_wp2_with fail
        refine (HRK.out _ HB2.out).mono ?_
        rintro e w3 ⟨rfl, hb3⟩
        have HB3 := hid (HB2.out.trans (hb3.mono HB2.out.size))
        clear hb3
        by_cases hgo : t < R ∧ N1 ≤ 3000
        · obtain ⟨htR, hN3⟩ := hgo
          have hm := mul_bd N1 (W + 1) hN3 (by omega)
          have hm' := mul_bd1 _ _ hm
          have hm0 : 0 ≤ (N1 : Int) * ((W : Int) + 1) := Int.mul_nonneg (by omega) (by omega)
          have HST := hid ((HS1.out.step hN3 (by omega) (by omega : W + 1 ≤ 13)))
          rw [pow_step] at HST
          go_wp2_with fail
          go_roundw
          case rel => exact ⟨t + 1, N1 * (W + 1), by omega, by omega, val_succ _, val_mul1 _ _, HST, HB3⟩
          case measure => simp [intOf]; omega
        · have HST : Hid (Sat N1 (P * (W + 1) ^ R)) := by
            by_cases h1 : t < R
            · exact hid (HS1.out.stop (by omega) (pow_mono_fac P (W + 1) (by omega) (by omega)))
            · have : t = R := by omega
              rw [← this]; exact HS1
          have hdec : (decide (t < R) && decide (N1 ≤ 3000)) = false := by
            by_cases h1 : t < R
            · have h2 : ¬ N1 ≤ 3000 := fun h => hgo ⟨h1, h⟩
              simp [h2]
            · simp [h1]
          have HGO := hid hgo
          by_cases htR : t < R
          all_goals
            try have hN3 : 3000 < N1 := by have := HGO.out; omega
            clear hgo hdec
            go_wp2_with fail
            go_loopw [5, 9] (fun v i wr => ∃ t N : Nat, 2 ≤ t ∧ (t ≤ W + 1 ∨ t = 2) ∧ N ≤ 40000 ∧ i = .int .i64 t ∧ v = .int .i64 N ∧ Hid (Sat N (P * (W + 1) ^ R * fact (t - 1))) ∧ Hid (Below w.heap.size w wr)) (fun _ i _ => 20 - (intOf i).toNat)
            case atStart => exact ⟨2, N1, by omega, by omega, hN1, rfl, rfl, hid (by simpa [fact] using HST.out), HB3⟩
            case round =>
              obtain ⟨u, N2, hu2, huW, hN2, rfl, rfl, HS2, HB4⟩ := hrel
              by_cases hgo2 : u ≤ W ∧ N2 ≤ 3000
              · obtain ⟨huw, hN4⟩ := hgo2
                have hm := mul_bd N2 u hN4 (by omega)
                have hm' := mul_bd0 _ _ hm
                have hm0 : 0 ≤ (N2 : Int) * (u : Int) := Int.mul_nonneg (by omega) (by omega)
                have HST2 := hid ((HS2.out.step hN4 (by omega) (by omega : u ≤ 13)))
                rw [Nat.mul_assoc, fact_step u (by omega)] at HST2
                go_wp2_with fail
                go_roundw
                case rel => exact ⟨u + 1, N2 * u, by omega, by omega, by omega, val_succ _, val_mul _ _, HST2, HB4⟩
                case measure => simp [intOf]; omega
              · have HST2 : Hid (Sat N2 (P * (W + 1) ^ R * fact W)) := by
                  by_cases h1 : u ≤ W
                  · exact hid (HS2.out.stop (by omega) (Nat.mul_le_mul_left _ (fact_mono (by omega))))
                  · by_cases h0 : W = 0
                    · have : u = 2 := by omega
                      have h2 := HS2.out
                      rw [this] at h2
                      rw [h0]
                      rw [h0] at h2
                      exact hid h2
                    · have e1 : u - 1 = W := by omega
                      have h2 := HS2.out
                      rw [e1] at h2
                      exact hid h2
                rw [Nat.mul_assoc, ← HPK.out] at HST2
                have HGO2 := hid hgo2
                by_cases huw : u ≤ W
                all_goals
                  try have hN3 : 3000 < N2 := by have := HGO2.out; omega
                  clear hgo2
                  go_wp2_with fail
                  go_roundw
                  case rel => exact ⟨k + 1, N2, by omega, hN2, by go_num, rfl, HST2, HB4⟩
                  case measure => simp [intOf]; omega
    · have HK := hid (show k = 3 by omega)
      have HF := hid (show min N 3001 = execsN p by rw [HE.out, ← HA.out, ← HK.out]; exact HS.out.same)
      by_cases hN3 : 3000 < N
      all_goals
        go_wp2
        go_ret
        exact ⟨ret_int (by rw [← HF.out]; omega), HBel.out⟩
end Go.Proofs.Ytbncmeggnhggkaa
