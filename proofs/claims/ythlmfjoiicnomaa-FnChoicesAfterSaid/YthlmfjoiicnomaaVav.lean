/-
  PROVED HERE: what spec.l1Reads, l1Writes, l1Count do. what spec.l1Execs, l1Shape, ProgramValid, CountExecs do. what spec.l1Shape, ProgramValid, CountExecs do. what impl.execs, ProgramValid do. what impl.ProgramValid and CountExecs of both packages do. CONDITIONS: as each theorem states.
-/
import Derived.Test.YthlmfjoiicnomaaFct
import Derived.OneCell
namespace Go.Proofs.Ythlmfjoiicnomaa
open Go.RowKit
set_option linter.unusedVariables false
set_option linter.unusedSimpArgs false

theorem l1Reads_c (w : World) (x : Ins) : Calls Try.prog 106 #[x.v] w fun e w' => e = .returned (.bool (insReads x)) ∧ Below w.heap.size w w' := by
  obtain ⟨o, l, r, v⟩ := x
  have H := hid (show insReads ⟨o, l, r, v⟩ = ((o == 1) || (o == 5)) from rfl)
  by_cases h1 : (o == 1) = true
  · go_enter Try.func106, Try.ntmps106
    go_wp2
    go_ret
    exact ⟨ret_bool (by rw [H.out, h1]; rfl), (Below.refl _ _).alloc (Nat.le_refl _) _⟩
  · have h1 : (o == 1) = false := by simpa using h1
    go_enter Try.func106, Try.ntmps106
    go_wp2
    go_ret
    exact ⟨ret_bool (by rw [H.out, h1]; simp), (Below.refl _ _).alloc (Nat.le_refl _) _⟩

theorem l1Writes_c (w : World) (x : Ins) : Calls Try.prog 105 #[x.v] w fun e w' => e = .returned (.bool (insWrites x)) ∧ Below w.heap.size w w' := by
  obtain ⟨o, l, r, v⟩ := x
  have H := hid (show insWrites ⟨o, l, r, v⟩ = ((o == 2) || (o == 3) || (o == 5)) from rfl)
  by_cases h1 : (o == 2) = true
  · go_enter Try.func105, Try.ntmps105
    go_wp2
    go_ret
    exact ⟨ret_bool (by rw [H.out, h1]; rfl), (Below.refl _ _).alloc (Nat.le_refl _) _⟩
  · have h1 : (o == 2) = false := by simpa using h1
    by_cases h2 : (o == 3) = true
    · go_enter Try.func105, Try.ntmps105
      go_wp2
      go_ret
      exact ⟨ret_bool (by rw [H.out, h1, h2]; rfl), (Below.refl _ _).alloc (Nat.le_refl _) _⟩
    · have h2 : (o == 3) = false := by simpa using h2
      go_enter Try.func105, Try.ntmps105
      go_wp2
      go_ret
      exact ⟨ret_bool (by rw [H.out, h1, h2]; simp), (Below.refl _ _).alloc (Nat.le_refl _) _⟩

set_option maxHeartbeats 1600000 in
theorem countW_c (w : World) (a : Option Addr) (cap : Nat) (p : Prg) (loc : Int) (h : RdP w a p) (hl : sizeP p ≤ 1048576) :
    Calls Try.prog 91 #[.slice a p.length cap, .int .i64 loc, .bool true] w fun e w' => e = .returned (.int .i64 (cnt p loc true : Nat)) ∧ Below w.heap.size w w' := by
  obtain ⟨q, hq⟩ : ∃ q, q = cntB loc true := ⟨_, rfl⟩
  have HQ := hid (fun x => (congrFun hq x : q x = cntB loc true x))
  have HB := hid (fun i xs (hx : p[i]? = some xs) k => Nat.le_trans (mid_le (q := q) hx k) hl)
  have HA := hid (totTo_all q p)
  have hpl := Nat.le_trans (sizeP_len p) hl
  have HROW := hid (fun i xs (hx : p[i]? = some xs) => Nat.le_trans (sizeP_row hx) hl)
  show Calls _ _ _ _ fun e w' => e = .returned (.int .i64 (tot (cntB loc true) p : Nat)) ∧ _
  rw [← hq]
  obtain ⟨n, hn⟩ : ∃ n, n = p.length := ⟨_, rfl⟩
  rw [← hn] at hpl HA ⊢
  have HN := hid hn
  clear hq hn hl
  go_enter Try.func91, Try.ntmps91
  go_wp2
  go_loopw [7, 8] (fun c i wr => ∃ j : Nat, j ≤ n ∧ i = .int .i64 j ∧ c = .int .i64 (totTo q j p : Nat) ∧ Hid (Below w.heap.size w wr)) (fun _ i _ => n - (intOf i).toNat)
  case atStart => exact ⟨0, Nat.zero_le _, rfl, by simp [totTo_zero], hid (Below.refl _ _)⟩
  case round =>
    obtain ⟨j, hj, rfl, rfl, HBel⟩ := hrel
    obtain ⟨wo, rfl⟩ : ∃ wo : World, wo = wr := ⟨_, rfl⟩
    by_cases hlt : j < n
    · obtain ⟨b, off, r, c, xs, rfl, hb, hx, hc, hr⟩ := h.at j (by rw [← HN.out]; exact hlt)
      have HX := hid hx
      have HR := hid hr
      have HC := hid hc
      have HLT := hid hb
      have hm1 := HROW.out j xs hx
      have HT := hid (totTo_succ (q := q) hx)
      have HM := hid (HB.out j xs hx)
      obtain ⟨m, hm⟩ : ∃ m, m = xs.length := ⟨_, rfl⟩
      have HMX := hid hm
      rw [← hm] at HC hm1
      obtain ⟨s, hs⟩ : ∃ s, s = totTo q j p := ⟨_, rfl⟩
      rw [← hs] at HT HM ⊢
      have hcx := (HBel.out.cell (p := ⟨b, off + j, none⟩) HLT.out).trans HC.out
      clear h hx hc hr hb hm hs
      go_wp2_with fail
      clear hcx
      go_loopw [7, 9] (fun c i wr => ∃ t : Nat, t ≤ m ∧ i = .int .i64 t ∧ c = .int .i64 (s + (xs.take t).countP q : Nat) ∧ Hid (Below w.heap.size w wr)) (fun _ i _ => m - (intOf i).toNat)
      case atStart => exact ⟨0, Nat.zero_le _, rfl, by simp, HBel⟩
      case round =>
        obtain ⟨t, ht, rfl, rfl, HB2⟩ := hrel
        have hcx := (HB2.out.cell (p := ⟨b, off + j, none⟩) HLT.out).trans HC.out
        by_cases hlm : t < m
        · obtain ⟨bx, ox, x, rfl, hbx, hx, hat⟩ := HR.out.ins t (by rw [← HMX.out]; exact hlm)
          obtain ⟨c0, c1, c2, c3⟩ := hat.below HB2.out hbx
          have HP := hid (take_countP (q := q) hx)
          have hmm := HM.out t
          have hmm2 := HM.out (t + 1)
          rw [HP.out] at hmm2
          have HQX := hid (HQ.out x)
          obtain ⟨k, hk⟩ : ∃ k, k = (xs.take t).countP q := ⟨_, rfl⟩
          rw [← hk] at HP hmm hmm2 ⊢
          have hltm : (t : Int) < m := by omega
          clear hat hx hk hbx
          by_cases hloc : (x.loc == loc) = true
          · by_cases hw : insWrites x = true
            · have HQ1 := hid (show q x = true by rw [HQX.out, cntB, hloc]; simpa using hw)
              have HCA := hid (fun w => l1Writes_c w x)
              rw [hw] at HCA
              rw [HQ1.out] at hmm2
              simp only [if_true] at hmm2
              clear hw
              go_wp2_with fail
              refine (HCA.out _).mono ?_
              rintro e w3 ⟨rfl, hb3⟩
              have HB3 := hid (((HB2.out.alloc HB2.out.size _).trans (hb3.mono (by have := HB2.out.size; simp; omega))))
              clear hb3
              go_wp2_with fail
              go_roundw
              case rel => exact ⟨t + 1, by omega, by go_num, by rw [HP.out, HQ1.out]; simp; omega, HB3⟩
              case measure => simp [intOf]; omega
            · have hw : insWrites x = false := by simpa using hw
              have HQ1 := hid (show q x = false by rw [HQX.out, cntB, hloc]; simpa using hw)
              have HCA := hid (fun w => l1Writes_c w x)
              rw [hw] at HCA
              clear hw
              go_wp2_with fail
              refine (HCA.out _).mono ?_
              rintro e w3 ⟨rfl, hb3⟩
              have HB3 := hid (((HB2.out.alloc HB2.out.size _).trans (hb3.mono (by have := HB2.out.size; simp; omega))))
              clear hb3
              go_wp2_with fail
              go_roundw
              case rel => exact ⟨t + 1, by omega, by go_num, by rw [HP.out, HQ1.out]; simp, HB3⟩
              case measure => simp [intOf]; omega
          · have hloc : (x.loc == loc) = false := by simpa using hloc
            have HQ1 := hid (show q x = false by rw [HQX.out, cntB, hloc]; rfl)
            have HB3 := hid (HB2.out.alloc HB2.out.size (.cells #[.int .i64 x.op, .int .i64 x.loc, .int .i64 x.reg, .int .i64 x.val] 70))
            go_wp2_with fail
            go_roundw
            case rel => exact ⟨t + 1, by omega, by go_num, by rw [HP.out, HQ1.out]; simp, HB3⟩
            case measure => simp [intOf]; omega
        · have HTM := hid (show t = m by omega)
          have HE := hid (show (xs.take t).countP q = xs.countP q by rw [HTM.out, HMX.out, take_countP_all])
          have hmm := HM.out t
          obtain ⟨k, hk⟩ : ∃ k, k = (xs.take t).countP q := ⟨_, rfl⟩
          rw [← hk] at HE hmm ⊢
          clear hk
          go_wp2_with fail
          go_roundw
          case rel => exact ⟨j + 1, by omega, by go_num, by rw [HT.out, ← HE.out], HB2⟩
          case measure => simp [intOf]; omega
    · have HJ := hid (show j = n by omega)
      go_wp2
      go_ret
      exact ⟨ret_int (by rw [HJ.out, HA.out]), HBel.out⟩

set_option maxHeartbeats 1600000 in
theorem countR_c (w : World) (a : Option Addr) (cap : Nat) (p : Prg) (loc : Int) (h : RdP w a p) (hl : sizeP p ≤ 1048576) :
    Calls Try.prog 91 #[.slice a p.length cap, .int .i64 loc, .bool false] w fun e w' => e = .returned (.int .i64 (cnt p loc false : Nat)) ∧ Below w.heap.size w w' := by
  obtain ⟨q, hq⟩ : ∃ q, q = cntB loc false := ⟨_, rfl⟩
  have HQ := hid (fun x => (congrFun hq x : q x = cntB loc false x))
  have HB := hid (fun i xs (hx : p[i]? = some xs) k => Nat.le_trans (mid_le (q := q) hx k) hl)
  have HA := hid (totTo_all q p)
  have hpl := Nat.le_trans (sizeP_len p) hl
  have HROW := hid (fun i xs (hx : p[i]? = some xs) => Nat.le_trans (sizeP_row hx) hl)
  show Calls _ _ _ _ fun e w' => e = .returned (.int .i64 (tot (cntB loc false) p : Nat)) ∧ _
  rw [← hq]
  obtain ⟨n, hn⟩ : ∃ n, n = p.length := ⟨_, rfl⟩
  rw [← hn] at hpl HA ⊢
  have HN := hid hn
  clear hq hn hl
  go_enter Try.func91, Try.ntmps91
  go_wp2
  go_loopw [7, 8] (fun c i wr => ∃ j : Nat, j ≤ n ∧ i = .int .i64 j ∧ c = .int .i64 (totTo q j p : Nat) ∧ Hid (Below w.heap.size w wr)) (fun _ i _ => n - (intOf i).toNat)
  case atStart => exact ⟨0, Nat.zero_le _, rfl, by simp [totTo_zero], hid (Below.refl _ _)⟩
  case round =>
    obtain ⟨j, hj, rfl, rfl, HBel⟩ := hrel
    obtain ⟨wo, rfl⟩ : ∃ wo : World, wo = wr := ⟨_, rfl⟩
    by_cases hlt : j < n
    · obtain ⟨b, off, r, c, xs, rfl, hb, hx, hc, hr⟩ := h.at j (by rw [← HN.out]; exact hlt)
      have HX := hid hx
      have HR := hid hr
      have HC := hid hc
      have HLT := hid hb
      have hm1 := HROW.out j xs hx
      have HT := hid (totTo_succ (q := q) hx)
      have HM := hid (HB.out j xs hx)
      obtain ⟨m, hm⟩ : ∃ m, m = xs.length := ⟨_, rfl⟩
      have HMX := hid hm
      rw [← hm] at HC hm1
      obtain ⟨s, hs⟩ : ∃ s, s = totTo q j p := ⟨_, rfl⟩
      rw [← hs] at HT HM ⊢
      have hcx := (HBel.out.cell (p := ⟨b, off + j, none⟩) HLT.out).trans HC.out
      clear h hx hc hr hb hm hs
      go_wp2_with fail
      clear hcx
      go_loopw [7, 9] (fun c i wr => ∃ t : Nat, t ≤ m ∧ i = .int .i64 t ∧ c = .int .i64 (s + (xs.take t).countP q : Nat) ∧ Hid (Below w.heap.size w wr)) (fun _ i _ => m - (intOf i).toNat)
      case atStart => exact ⟨0, Nat.zero_le _, rfl, by simp, HBel⟩
      case round =>
        obtain ⟨t, ht, rfl, rfl, HB2⟩ := hrel
        have hcx := (HB2.out.cell (p := ⟨b, off + j, none⟩) HLT.out).trans HC.out
        by_cases hlm : t < m
        · obtain ⟨bx, ox, x, rfl, hbx, hx, hat⟩ := HR.out.ins t (by rw [← HMX.out]; exact hlm)
          obtain ⟨c0, c1, c2, c3⟩ := hat.below HB2.out hbx
          have HP := hid (take_countP (q := q) hx)
          have hmm := HM.out t
          have hmm2 := HM.out (t + 1)
          rw [HP.out] at hmm2
          have HQX := hid (HQ.out x)
          obtain ⟨k, hk⟩ : ∃ k, k = (xs.take t).countP q := ⟨_, rfl⟩
          rw [← hk] at HP hmm hmm2 ⊢
          have hltm : (t : Int) < m := by omega
          clear hat hx hk hbx
          by_cases hloc : (x.loc == loc) = true
          · by_cases hw : insReads x = true
            · have HQ1 := hid (show q x = true by rw [HQX.out, cntB, hloc]; simpa using hw)
              have HCA := hid (fun w => l1Reads_c w x)
              rw [hw] at HCA
              rw [HQ1.out] at hmm2
              simp only [if_true] at hmm2
              clear hw
              go_wp2_with fail
              refine (HCA.out _).mono ?_
              rintro e w3 ⟨rfl, hb3⟩
              have HB3 := hid (((HB2.out.alloc HB2.out.size _).trans (hb3.mono (by have := HB2.out.size; simp; omega))))
              clear hb3
              go_wp2_with fail
              go_roundw
              case rel => exact ⟨t + 1, by omega, by go_num, by rw [HP.out, HQ1.out]; simp; omega, HB3⟩
              case measure => simp [intOf]; omega
            · have hw : insReads x = false := by simpa using hw
              have HQ1 := hid (show q x = false by rw [HQX.out, cntB, hloc]; simpa using hw)
              have HCA := hid (fun w => l1Reads_c w x)
              rw [hw] at HCA
              clear hw
              go_wp2_with fail
              refine (HCA.out _).mono ?_
              rintro e w3 ⟨rfl, hb3⟩
              have HB3 := hid (((HB2.out.alloc HB2.out.size _).trans (hb3.mono (by have := HB2.out.size; simp; omega))))
              clear hb3
              go_wp2_with fail
              go_roundw
              case rel => exact ⟨t + 1, by omega, by go_num, by rw [HP.out, HQ1.out]; simp, HB3⟩
              case measure => simp [intOf]; omega
          · have hloc : (x.loc == loc) = false := by simpa using hloc
            have HQ1 := hid (show q x = false by rw [HQX.out, cntB, hloc]; rfl)
            have HB3 := hid (HB2.out.alloc HB2.out.size (.cells #[.int .i64 x.op, .int .i64 x.loc, .int .i64 x.reg, .int .i64 x.val] 70))
            go_wp2_with fail
            go_roundw
            case rel => exact ⟨t + 1, by omega, by go_num, by rw [HP.out, HQ1.out]; simp, HB3⟩
            case measure => simp [intOf]; omega
        · have HTM := hid (show t = m by omega)
          have HE := hid (show (xs.take t).countP q = xs.countP q by rw [HTM.out, HMX.out, take_countP_all])
          have hmm := HM.out t
          obtain ⟨k, hk⟩ : ∃ k, k = (xs.take t).countP q := ⟨_, rfl⟩
          rw [← hk] at HE hmm ⊢
          clear hk
          go_wp2_with fail
          go_roundw
          case rel => exact ⟨j + 1, by omega, by go_num, by rw [HT.out, ← HE.out], HB2⟩
          case measure => simp [intOf]; omega
    · have HJ := hid (show j = n by omega)
      go_wp2
      go_ret
      exact ⟨ret_int (by rw [HJ.out, HA.out]), HBel.out⟩

end Go.Proofs.Ythlmfjoiicnomaa
namespace Go.Proofs.Ythlmfjoiicnomaa
open Go.RowKit
set_option linter.unusedVariables false
set_option linter.unusedSimpArgs false

def prodTo (p : Prg) : Nat → Nat
  | 0 => 1
  | k + 1 => prodTo p k * locP p (k : Nat)
theorem prodTo_all (p : Prg) : prodTo p 3 = prodP p := by
  show 1 * locP p ((0 : Nat) : Int) * locP p ((1 : Nat) : Int) * locP p ((2 : Nat) : Int) = locP p 0 * locP p 1 * locP p 2
  rw [Nat.one_mul]
  rfl
theorem fact_step (t : Nat) (h : 1 ≤ t) : fact (t - 1) * t = fact (t + 1 - 1) := by
  obtain ⟨k, rfl⟩ : ∃ k, t = k + 1 := ⟨t - 1, by omega⟩
  show fact k * (k + 1) = (k + 1) * fact k
  exact Nat.mul_comm _ _
theorem pow_step (P f t : Nat) : P * f ^ t * f = P * f ^ (t + 1) := by rw [Nat.pow_succ, Nat.mul_assoc]
theorem mul_bd (N f : Nat) (hN : N ≤ 3000) (hf : f ≤ 13) : N * f ≤ 39000 := Nat.mul_le_mul hN hf
theorem mul_bd1 (N W : Nat) (h : N * (W + 1) ≤ 39000) : (N : Int) * ((W : Int) + 1) ≤ 39000 := by
  have h1 : ((N * (W + 1) : Nat) : Int) ≤ ((39000 : Nat) : Int) := Int.ofNat_le.2 h
  rw [Int.natCast_mul, Int.natCast_add] at h1
  exact h1
theorem mul_bd0 (N u : Nat) (h : N * u ≤ 39000) : (N : Int) * (u : Int) ≤ 39000 := by
  have h1 : ((N * u : Nat) : Int) ≤ ((39000 : Nat) : Int) := Int.ofNat_le.2 h
  rw [Int.natCast_mul] at h1
  exact h1
theorem val_succ (t : Nat) : Value.int .i64 ((t : Int) + 1) = .int .i64 ((t + 1 : Nat) : Int) := rfl
theorem val_mul1 (N W : Nat) : Value.int .i64 ((N : Int) * ((W : Int) + 1)) = .int .i64 ((N * (W + 1) : Nat) : Int) := by rw [Int.natCast_mul, Int.natCast_add]; rfl
theorem val_mul (N u : Nat) : Value.int .i64 ((N : Int) * (u : Int)) = .int .i64 ((N * u : Nat) : Int) := by rw [Int.natCast_mul]
theorem locP_eq (p : Prg) (loc : Int) : locP p loc = (cnt p loc true + 1) ^ cnt p loc false * fact (cnt p loc true) := rfl

set_option maxHeartbeats 1600000 in
theorem l1Execs_c (w : World) (a : Option Addr) (cap : Nat) (p : Prg) (h : RdP w a p) (hs : Shape p) :
    Calls Try.prog 66 #[.slice a p.length cap, .int .i64 3000] w fun e w' => e = .returned (.int .i64 (execsN p : Nat)) ∧ Below w.heap.size w w' := by
  have hl : sizeP p ≤ 1048576 := Nat.le_trans (shape_size hs) (by omega)
  have HW := hid (fun w' (hb : Below w.heap.size w w') loc => countW_c w' a cap p loc (h.below hb) hl)
  have HR := hid (fun w' (hb : Below w.heap.size w w') loc => countR_c w' a cap p loc (h.below hb) hl)
  have HB := hid (fun loc wr => cnt_le hs loc wr)
  have HE := hid (show execsN p = min (prodP p) 3001 from rfl)
  have HA := hid (prodTo_all p)
  have HP := hid (fun k : Nat => (show prodTo p (k + 1) = prodTo p k * ((cnt p (k : Nat) true + 1) ^ cnt p (k : Nat) false * fact (cnt p (k : Nat) true)) from rfl))
  obtain ⟨n, hn⟩ : ∃ n, n = p.length := ⟨_, rfl⟩
  rw [← hn] at HW HR ⊢
  clear hn hl hs h
  go_enter Try.func66, Try.ntmps66
  go_wp2
  go_loopw [5, 6] (fun v l wr => ∃ k N : Nat, k ≤ 3 ∧ N ≤ 40000 ∧ l = .int .i64 k ∧ v = .int .i64 N ∧ Hid (Sat N (prodTo p k)) ∧ Hid (Below w.heap.size w wr)) (fun _ l _ => 3 - (intOf l).toNat)
  case atStart => exact ⟨0, 1, by omega, by omega, rfl, rfl, hid ⟨by omega, by omega, rfl⟩, hid (Below.refl _ _)⟩
  case round =>
    obtain ⟨k, N, hk, hN, rfl, rfl, HS, HBel⟩ := hrel
    obtain ⟨wo, rfl⟩ : ∃ wo : World, wo = wr := ⟨_, rfl⟩
    by_cases hlt : k < 3
    · have HPK := hid (HP.out k)
      have hW := HB.out (k : Nat) true
      have hR := HB.out (k : Nat) false
      have HWK := hid (fun w' hb => HW.out w' hb (k : Nat))
      have HRK := hid (fun w' hb => HR.out w' hb (k : Nat))
      obtain ⟨W, eW⟩ : ∃ W, W = cnt p (k : Nat) true := ⟨_, rfl⟩
      obtain ⟨R, eR⟩ : ∃ R, R = cnt p (k : Nat) false := ⟨_, rfl⟩
      rw [← eW] at HPK hW HWK
      rw [← eR] at HPK hR HRK
      obtain ⟨P, eP⟩ : ∃ P, P = prodTo p k := ⟨_, rfl⟩
      rw [← eP] at HPK HS
      clear eW eR eP
      go_wp2_with fail
      refine (HWK.out _ HBel.out).mono ?_
      rintro e w1 ⟨rfl, hb1⟩
      have HB1 := hid (HBel.out.trans (hb1.mono HBel.out.size))
      clear hb1
      go_wp2_with fail
      go_loopw [5, 8] (fun v i wr => ∃ t N : Nat, t ≤ R ∧ N ≤ 40000 ∧ i = .int .i64 t ∧ v = .int .i64 N ∧ Hid (Sat N (P * (W + 1) ^ t)) ∧ Hid (Below w.heap.size w wr)) (fun _ i _ => R - (intOf i).toNat)
      case atStart => exact ⟨0, N, by omega, hN, rfl, rfl, hid (by simpa using HS.out), HB1⟩
      case round =>
        obtain ⟨t, N1, ht, hN1, rfl, rfl, HS1, HB2⟩ := hrel
        obtain ⟨w2, rfl⟩ : ∃ w2 : World, w2 = wr := ⟨_, rfl⟩
        go_wp2_with fail
        refine (HRK.out _ HB2.out).mono ?_
        rintro e w3 ⟨rfl, hb3⟩
        have HB3 := hid (HB2.out.trans (hb3.mono HB2.out.size))
        clear hb3
        by_cases hgo : t < R ∧ N1 ≤ 3000
        · obtain ⟨htR, hN3⟩ := hgo
          have hm := mul_bd N1 (W + 1) hN3 (by omega)
          have hm' := mul_bd1 _ _ hm
          have hm0 : 0 ≤ (N1 : Int) * ((W : Int) + 1) := Int.mul_nonneg (by omega) (by omega)
          have HST := hid ((HS1.out.step hN3 (by omega) (by omega : W + 1 ≤ 13)))
          rw [pow_step] at HST
          go_wp2_with fail
          go_roundw
          case rel => exact ⟨t + 1, N1 * (W + 1), by omega, by omega, val_succ _, val_mul1 _ _, HST, HB3⟩
          case measure => simp [intOf]; omega
        · have HST : Hid (Sat N1 (P * (W + 1) ^ R)) := by
            by_cases h1 : t < R
            · exact hid (HS1.out.stop (by omega) (pow_mono_fac P (W + 1) (by omega) (by omega)))
            · have : t = R := by omega
              rw [← this]; exact HS1
          have hdec : (decide (t < R) && decide (N1 ≤ 3000)) = false := by
            by_cases h1 : t < R
            · have h2 : ¬ N1 ≤ 3000 := fun h => hgo ⟨h1, h⟩
              simp [h2]
            · simp [h1]
          have HGO := hid hgo
          by_cases htR : t < R
          all_goals
            try have hN3 : 3000 < N1 := by have := HGO.out; omega
            clear hgo hdec
            go_wp2_with fail
            go_loopw [5, 9] (fun v i wr => ∃ t N : Nat, 2 ≤ t ∧ (t ≤ W + 1 ∨ t = 2) ∧ N ≤ 40000 ∧ i = .int .i64 t ∧ v = .int .i64 N ∧ Hid (Sat N (P * (W + 1) ^ R * fact (t - 1))) ∧ Hid (Below w.heap.size w wr)) (fun _ i _ => 20 - (intOf i).toNat)
            case atStart => exact ⟨2, N1, by omega, by omega, hN1, rfl, rfl, hid (by simpa [fact] using HST.out), HB3⟩
            case round =>
              obtain ⟨u, N2, hu2, huW, hN2, rfl, rfl, HS2, HB4⟩ := hrel
              by_cases hgo2 : u ≤ W ∧ N2 ≤ 3000
              · obtain ⟨huw, hN4⟩ := hgo2
                have hm := mul_bd N2 u hN4 (by omega)
                have hm' := mul_bd0 _ _ hm
                have hm0 : 0 ≤ (N2 : Int) * (u : Int) := Int.mul_nonneg (by omega) (by omega)
                have HST2 := hid ((HS2.out.step hN4 (by omega) (by omega : u ≤ 13)))
                rw [Nat.mul_assoc, fact_step u (by omega)] at HST2
                go_wp2_with fail
                go_roundw
                case rel => exact ⟨u + 1, N2 * u, by omega, by omega, by omega, val_succ _, val_mul _ _, HST2, HB4⟩
                case measure => simp [intOf]; omega
              · have HST2 : Hid (Sat N2 (P * (W + 1) ^ R * fact W)) := by
                  by_cases h1 : u ≤ W
                  · exact hid (HS2.out.stop (by omega) (Nat.mul_le_mul_left _ (fact_mono (by omega))))
                  · by_cases h0 : W = 0
                    · have : u = 2 := by omega
                      have h2 := HS2.out
                      rw [this] at h2
                      rw [h0]
                      rw [h0] at h2
                      exact hid h2
                    · have e1 : u - 1 = W := by omega
                      have h2 := HS2.out
                      rw [e1] at h2
                      exact hid h2
                rw [Nat.mul_assoc, ← HPK.out] at HST2
                have HGO2 := hid hgo2
                by_cases huw : u ≤ W
                all_goals
                  try have hN3 : 3000 < N2 := by have := HGO2.out; omega
                  clear hgo2
                  go_wp2_with fail
                  go_roundw
                  case rel => exact ⟨k + 1, N2, by omega, hN2, by go_num, rfl, HST2, HB4⟩
                  case measure => simp [intOf]; omega
    · have HK := hid (show k = 3 by omega)
      have HF := hid (show min N 3001 = execsN p by rw [HE.out, ← HA.out, ← HK.out]; exact HS.out.same)
      by_cases hN3 : 3000 < N
      all_goals
        go_wp2
        go_ret
        exact ⟨ret_int (by rw [← HF.out]; omega), HBel.out⟩
end Go.Proofs.Ythlmfjoiicnomaa
namespace Go.Proofs.Ythlmfjoiicnomaa
open Go.RowKit
set_option linter.unusedVariables false
set_option linter.unusedSimpArgs false

theorem dec_le (k m : Nat) : decide ((k : Int) ≤ (m : Int)) = decide (k ≤ m) := by
  rw [Bool.eq_iff_iff, decide_eq_true_eq, decide_eq_true_eq]; omega
theorem shape_no {p : Prg} {j : Nat} {xs : List Ins} (hx : p[j]? = some xs) (h : rowB xs = false) : shapeB p = false := by
  unfold shapeB
  have : p.all rowB = false := by
    rw [List.all_eq_false]
    exact ⟨xs, List.mem_of_getElem? hx, by simp [h]⟩
  rw [this]
  simp
theorem row_long {xs : List Ins} (h : 7 < xs.length) : rowB xs = false := by
  unfold rowB
  have : decide (xs.length ≤ 7) = false := by simp; omega
  rw [this]; rfl
theorem row_bad {xs : List Ins} {t : Nat} {x : Ins} (hx : xs[t]? = some x) (h : insValid x = false) : rowB xs = false := by
  unfold rowB
  have : xs.all insValid = false := by
    rw [List.all_eq_false]
    exact ⟨x, List.mem_of_getElem? hx, by simp [h]⟩
  rw [this]
  simp
theorem row_yes {xs : List Ins} (h : xs.length ≤ 7) (hv : ∀ (t : Nat) x, xs[t]? = some x → insValid x = true) : rowB xs = true := by
  unfold rowB
  simp only [Bool.and_eq_true, decide_eq_true_eq, List.all_eq_true]
  refine ⟨h, fun x hx => ?_⟩
  obtain ⟨t, ht, rfl⟩ := List.mem_iff_getElem.1 hx
  exact hv t _ (List.getElem?_eq_getElem ht)
theorem shape_yes {p : Prg} (h : p.length ≤ 3) (hv : ∀ (j : Nat) xs, p[j]? = some xs → rowB xs = true) : shapeB p = decide (ev p ≤ 12) := by
  unfold shapeB
  have h1 : decide (p.length ≤ 3) = true := by simpa using h
  have h2 : p.all rowB = true := by
    rw [List.all_eq_true]
    intro xs hx
    obtain ⟨j, hj, rfl⟩ := List.mem_iff_getElem.1 hx
    exact hv j _ (List.getElem?_eq_getElem hj)
  rw [h1, h2]
  rfl

set_option maxHeartbeats 1600000 in
theorem l1Shape_c (w : World) (a : Option Addr) (cap : Nat) (p : Prg) (h : RdP w a p) (hl : sizeP p ≤ 1048576) :
    Calls Try.prog 65 #[.slice a p.length cap] w fun e w' => e = .returned (.bool (shapeB p)) ∧ Below w.heap.size w w' := by
  have hpl := Nat.le_trans (sizeP_len p) hl
  by_cases hlen : p.length ≤ 3
  · have HB := hid (fun i xs (hx : p[i]? = some xs) k => Nat.le_trans (mid_le (q := evB) hx k) hl)
    have HA := hid (totTo_all evB p)
    have HY := hid (shape_yes (p := p) hlen)
    have HROW := hid (fun i xs (hx : p[i]? = some xs) => Nat.le_trans (sizeP_row hx) hl)
    have HNO := hid (fun j xs (hx : p[j]? = some xs) h => shape_no hx h)
    obtain ⟨n, hn⟩ : ∃ n, n = p.length := ⟨_, rfl⟩
    rw [← hn] at hpl HA hlen ⊢
    have HN := hid hn
    have hlen' : decide ((3 : Int) < n) = false := by simp; omega
    clear hn hl
    go_enter Try.func65, Try.ntmps65
    go_wp2
    go_loopw [3, 4] (fun c i wr => ∃ j : Nat, j ≤ n ∧ i = .int .i64 j ∧ c = .int .i64 (totTo evB j p : Nat) ∧ Hid (∀ (i : Nat) xs, i < j → p[i]? = some xs → rowB xs = true) ∧ Hid (Below w.heap.size w wr)) (fun _ i _ => n - (intOf i).toNat)
    case atStart => exact ⟨0, Nat.zero_le _, rfl, by simp [totTo_zero], hid (fun i xs hi => by omega), hid (Below.refl _ _)⟩
    case round =>
      obtain ⟨j, hj, rfl, rfl, HOK, HBel⟩ := hrel
      obtain ⟨wo, rfl⟩ : ∃ wo : World, wo = wr := ⟨_, rfl⟩
      by_cases hlt : j < n
      · obtain ⟨b, off, r, c, xs, rfl, hb, hx, hc, hr⟩ := h.at j (by rw [← HN.out]; exact hlt)
        have HX := hid hx
        have HR := hid hr
        have HC := hid hc
        have HLT := hid hb
        have hm1 := HROW.out j xs hx
        have HT := hid (totTo_succ (q := evB) hx)
        have HM := hid (HB.out j xs hx)
        have HLONG := hid (row_long (xs := xs))
        have HYES := hid (row_yes (xs := xs))
        obtain ⟨m, hm⟩ : ∃ m, m = xs.length := ⟨_, rfl⟩
        have HMX := hid hm
        rw [← hm] at HC hm1 HLONG HYES
        obtain ⟨s, hs⟩ : ∃ s, s = totTo evB j p := ⟨_, rfl⟩
        rw [← hs] at HT HM ⊢
        have hcx := (HBel.out.cell (p := ⟨b, off + j, none⟩) HLT.out).trans HC.out
        clear h hx hc hr hb hm hs
        by_cases hm7 : m ≤ 7
        · go_wp2_with fail
          clear hcx
          go_loopw [3, 5] (fun c i wr => ∃ t : Nat, t ≤ m ∧ i = .int .i64 t ∧ c = .int .i64 (s + (xs.take t).countP evB : Nat) ∧ Hid (∀ (k : Nat) x, k < t → xs[k]? = some x → insValid x = true) ∧ Hid (Below w.heap.size w wr)) (fun _ i _ => m - (intOf i).toNat)
          case atStart => exact ⟨0, Nat.zero_le _, rfl, by simp, hid (fun k x hk => by omega), HBel⟩
          case round =>
            obtain ⟨t, ht, rfl, rfl, HV, HB2⟩ := hrel
            have hcx := (HB2.out.cell (p := ⟨b, off + j, none⟩) HLT.out).trans HC.out
            by_cases hlm : t < m
            · obtain ⟨bx, ox, x, rfl, hbx, hx, hat⟩ := HR.out.ins t (by rw [← HMX.out]; exact hlm)
              obtain ⟨c0, c1, c2, c3⟩ := hat.below HB2.out hbx
              have HAT := hid hat
              have HBX := hid hbx
              have HXX := hid hx
              have HP := hid (take_countP (q := evB) hx)
              have hmm := HM.out t
              have hmm2 := HM.out (t + 1)
              rw [HP.out] at hmm2
              have HE := hid (show evB x = !(x.op == 4) from rfl)
              have HBAD := hid (fun h => row_bad hx h)
              obtain ⟨k, hk⟩ : ∃ k, k = (xs.take t).countP evB := ⟨_, rfl⟩
              rw [← hk] at HP hmm hmm2 ⊢
              have hltm : (t : Int) < m := by omega
              have HCA := hid (fun w => validS_c w x)
              clear hat hx hk hbx
              by_cases hv : insValid x = true
              · rw [hv] at HCA
                have HVX := hid hv
                clear hv
                go_wp2_with fail
                refine (HCA.out _).mono ?_
                rintro e w3 ⟨rfl, hb3⟩
                have HB3 := hid (HB2.out.trans (hb3.mono HB2.out.size))
                clear hb3 c0 c1 c2 c3 hcx
                have hcx := (HB3.out.cell (p := ⟨b, off + j, none⟩) HLT.out).trans HC.out
                obtain ⟨c0, c1, c2, c3⟩ := HAT.out.below HB3.out HBX.out
                by_cases h4 : (x.op == 4) = true
                · have h4' : (x.op != 4) = false := by simp at h4 ⊢; exact h4
                  have HQ1 := hid (show evB x = false by rw [HE.out, h4]; rfl)
                  clear h4
                  go_wp2_with fail
                  go_roundw
                  case rel => exact ⟨t + 1, by omega, by go_num, by rw [HP.out, HQ1.out]; simp, hid (fun k y hk hy => by
                    by_cases e : k = t
                    · subst e; rw [HXX.out] at hy; cases hy; exact HVX.out
                    · exact HV.out k y (by omega) hy), HB3⟩
                  case measure => simp [intOf]; omega
                · have h4' : (x.op != 4) = true := by simp at h4 ⊢; exact h4
                  have HQ1 := hid (show evB x = true by rw [HE.out]; simpa using h4)
                  rw [HQ1.out] at hmm2
                  simp only [if_true] at hmm2
                  clear h4
                  go_wp2_with fail
                  go_roundw
                  case rel => exact ⟨t + 1, by omega, by go_num, by rw [HP.out, HQ1.out]; simp; omega, hid (fun k y hk hy => by
                    by_cases e : k = t
                    · subst e; rw [HXX.out] at hy; cases hy; exact HVX.out
                    · exact HV.out k y (by omega) hy), HB3⟩
                  case measure => simp [intOf]; omega
              · have hv : insValid x = false := by simpa using hv
                rw [hv] at HCA
                have HNV := hid (HNO.out j xs HX.out (HBAD.out hv))
                clear hv
                go_wp2_with fail
                refine (HCA.out _).mono ?_
                rintro e w3 ⟨rfl, hb3⟩
                have HB3 := hid (HB2.out.trans (hb3.mono HB2.out.size))
                clear hb3
                go_wp2_with fail
                go_ret
                exact ⟨ret_bool HNV.out.symm, HB3.out⟩
            · have HTM := hid (show t = m by omega)
              have HE := hid (show (xs.take t).countP evB = xs.countP evB by rw [HTM.out, HMX.out, take_countP_all])
              have HRX := hid (show rowB xs = true from HYES.out hm7 fun k x hx => HV.out k x (by
                have := (List.getElem?_eq_some_iff.1 hx).1
                rw [← HMX.out] at this
                have := HTM.out
                omega) hx)
              have hmm := HM.out t
              obtain ⟨k, hk⟩ : ∃ k, k = (xs.take t).countP evB := ⟨_, rfl⟩
              rw [← hk] at HE hmm ⊢
              clear hk
              go_wp2_with fail
              go_roundw
              case rel => exact ⟨j + 1, by omega, by go_num, by rw [HT.out, ← HE.out], hid (fun i ys hi hy => by
                by_cases e : i = j
                · subst e; rw [HX.out] at hy; cases hy; exact HRX.out
                · exact HOK.out i ys (by omega) hy), HB2⟩
              case measure => simp [intOf]; omega
        · have HNV := hid (HNO.out j xs HX.out (HLONG.out (by omega)))
          go_wp2_with fail
          go_ret
          exact ⟨ret_bool HNV.out.symm, HBel.out⟩
      · have HJ := hid (show j = n by omega)
        have HF := hid (HY.out fun i xs hx => HOK.out i xs (by
          have := (List.getElem?_eq_some_iff.1 hx).1
          have := HN.out
          have := HJ.out
          omega) hx)
        go_wp2
        go_ret
        refine ⟨ret_bool ?_, HBel.out⟩
        rw [HF.out, HJ.out, HA.out]
        exact dec_le _ 12
  · have hs : shapeB p = false := by
      unfold shapeB
      have : decide (p.length ≤ 3) = false := by simpa using hlen
      rw [this]; rfl
    have hlen' : (3 : Int) < p.length := by omega
    rw [hs]
    go_enter Try.func65, Try.ntmps65
    go_wp2
    go_ret
    exact ⟨rfl, Below.refl _ _⟩

theorem validity (p : Prg) : progValid p = (shapeB p && decide (0 < p.length) && decide (execsN p ≤ 3000)) := by
  have : (execsN p ≤ 3000) ↔ (prodP p ≤ 3000) := by unfold execsN; omega
  unfold progValid
  simp only [this]

theorem pvS_c (w : World) (a : Option Addr) (cap : Nat) (p : Prg) (h : RdP w a p) (hl : sizeP p ≤ 1048576) :
    Calls Try.prog 36 #[.slice a p.length cap] w fun e w' => e = .returned (.bool (progValid p)) ∧ Below w.heap.size w w' := by
  have HS := hid (l1Shape_c w a cap p h hl)
  have HV := hid (validity p)
  by_cases hs : shapeB p = true
  · have HE := hid (fun w' h => l1Execs_c w' a cap p h (shape_of hs))
    rw [hs] at HS HV
    have HH := hid (fun w' hb => h.below (w' := w') hb)
    clear h hs
    by_cases hp : 0 < p.length
    · have hp' : (0 : Int) < p.length := by omega
      go_enter Try.func36, Try.ntmps36
      go_wp2_with fail
      refine HS.out.mono ?_
      rintro e w1 ⟨rfl, hb1⟩
      have HB1 := hid hb1
      go_wp2_with fail
      refine (HE.out _ (HH.out _ HB1.out)).mono ?_
      rintro e w2 ⟨rfl, hb2⟩
      have HB2 := hid (HB1.out.trans (hb2.mono HB1.out.size))
      clear hb1 hb2
      go_wp2
      go_ret
      refine ⟨ret_bool ?_, HB2.out⟩
      rw [HV.out]
      have : decide (0 < p.length) = true := by simpa using hp
      rw [this]
      exact dec_le _ 3000
    · have hp' : decide ((0 : Int) < p.length) = false := by rw [decide_eq_false_iff_not]; omega
      go_enter Try.func36, Try.ntmps36
      go_wp2_with fail
      refine HS.out.mono ?_
      rintro e w1 ⟨rfl, hb1⟩
      have HB1 := hid hb1
      go_wp2
      go_ret
      refine ⟨ret_bool ?_, HB1.out⟩
      rw [HV.out]
      have : decide (0 < p.length) = false := by simpa using hp
      rw [this]
      rfl
  · have hs : shapeB p = false := by simpa using hs
    rw [hs] at HS HV
    clear h hs
    go_enter Try.func36, Try.ntmps36
    go_wp2_with fail
    refine HS.out.mono ?_
    rintro e w1 ⟨rfl, hb1⟩
    have HB1 := hid hb1
    go_wp2
    go_ret
    refine ⟨ret_bool ?_, HB1.out⟩
    rw [HV.out]
    rfl
end Go.Proofs.Ythlmfjoiicnomaa
namespace Go.Proofs.Ythlmfjoiicnomaa
open Go.RowKit
set_option linter.unusedVariables false
set_option linter.unusedSimpArgs false

/-- Block g holds the number n alone. -/
def One (w : World) (g : Nat) (n : Int) : Prop := w.heap[g]? = some (.cells #[.int .i64 n] 3 (0, 0))

theorem times_c (w : World) (g : Nat) (P f : Nat) (h : One w g (min P 3001 : Nat)) (h1 : 1 ≤ f) (h2 : f ≤ 13) :
    Calls Try.prog 70 #[.int .i64 f, .pointer (some ⟨g, 0, none⟩)] w fun e w' => e = .returned (.tuple #[]) ∧ w' = w.setCell ⟨g, 0, none⟩ (.int .i64 (min (P * f) 3001 : Nat)) := by
  have hs := min_step P f h1
  obtain ⟨v, hv⟩ : ∃ v, v = min P 3001 := ⟨_, rfl⟩
  have hv1 : v ≤ 3001 := by omega
  have hb : v * f ≤ 3001 * 13 := Nat.mul_le_mul hv1 h2
  rw [← hv] at hs h
  have hI : (v : Int) * (f : Int) ≤ 39013 ∧ 0 ≤ (v : Int) * (f : Int) := by
    have h3 : ((v * f : Nat) : Int) ≤ ((39013 : Nat) : Int) := Int.ofNat_le.2 hb
    rw [Int.natCast_mul] at h3
    exact ⟨h3, Int.mul_nonneg (by omega) (by omega)⟩
  obtain ⟨hI1, hI0⟩ := hI
  have HM := hid (Int.natCast_mul v f)
  by_cases hc3 : 3001 < v * f
  · have e : min (P * f) 3001 = 3001 := by omega
    rw [e]
    have h4 : (3001 : Int) < (v : Int) * (f : Int) := by rw [← HM.out]; omega
    have hc := cell_of_one h
    have hf := free_of_one h
    clear hs hv hv1 hb h h1 h2 e hc3
    go_enter Try.func70, Try.ntmps70
    go_wp2
    go_end0
    exact ⟨rfl, rfl⟩
  · have e : min (P * f) 3001 = v * f := by omega
    rw [e]
    have h4 : (v : Int) * (f : Int) ≤ 3001 := by rw [← HM.out]; omega
    have hc := cell_of_one h
    have hf := free_of_one h
    clear hs hv hv1 hb h h1 h2 e hc3
    go_enter Try.func70, Try.ntmps70
    go_wp2
    go_end0
    exact ⟨rfl, by rw [HM.out]⟩
theorem readsI_c (w : World) (x : Ins) : Calls Try.prog 71 #[x.v] w fun e w' => e = .returned (.bool (insReads x)) ∧ Below w.heap.size w w' := by
  obtain ⟨o, l, r, v⟩ := x
  have H := hid (show insReads ⟨o, l, r, v⟩ = ((o == 1) || (o == 5)) from rfl)
  by_cases h1 : (o == 1) = true
  · go_enter Try.func71, Try.ntmps71
    go_wp2
    go_ret
    exact ⟨ret_bool (by rw [H.out, h1]; rfl), (Below.refl _ _).alloc (Nat.le_refl _) _⟩
  · have h1 : (o == 1) = false := by simpa using h1
    go_enter Try.func71, Try.ntmps71
    go_wp2
    go_ret
    exact ⟨ret_bool (by rw [H.out, h1]; simp), (Below.refl _ _).alloc (Nat.le_refl _) _⟩

theorem writesI_c (w : World) (x : Ins) : Calls Try.prog 72 #[x.v] w fun e w' => e = .returned (.bool (insWrites x)) ∧ Below w.heap.size w w' := by
  obtain ⟨o, l, r, v⟩ := x
  have H := hid (show insWrites ⟨o, l, r, v⟩ = ((o == 2) || (o == 3) || (o == 5)) from rfl)
  by_cases h1 : (o == 2) = true
  · go_enter Try.func72, Try.ntmps72
    go_wp2
    go_ret
    exact ⟨ret_bool (by rw [H.out, h1]; rfl), (Below.refl _ _).alloc (Nat.le_refl _) _⟩
  · have h1 : (o == 2) = false := by simpa using h1
    by_cases h2 : (o == 3) = true
    · go_enter Try.func72, Try.ntmps72
      go_wp2
      go_ret
      exact ⟨ret_bool (by rw [H.out, h1, h2]; rfl), (Below.refl _ _).alloc (Nat.le_refl _) _⟩
    · have h2 : (o == 3) = false := by simpa using h2
      go_enter Try.func72, Try.ntmps72
      go_wp2
      go_ret
      exact ⟨ret_bool (by rw [H.out, h1, h2]; simp), (Below.refl _ _).alloc (Nat.le_refl _) _⟩

theorem callTimes : ∀ args (w : World), (callFunc 70 args).run Try.prog w = .ok (.enter 70 args) w :=
  fun args w => run_callFunc Try.func70 (by kernel_rfl) rfl args w
theorem One.below {w w' : World} {B g : Nat} {n : Int} (h : One w g n) (hb : Below B w w') (hg : g < B) : One w' g n := (hb.block g hg).trans h
theorem One.lt {w : World} {g : Nat} {n : Int} (h : One w g n) : g < w.heap.size := lt_of_block h
theorem One.set {w : World} {g : Nat} {n m : Int} (h : One w g n) : One (w.setCell ⟨g, 0, none⟩ (.int .i64 m)) g m := one_setCell h

set_option maxHeartbeats 3200000 in
theorem execsI_c (w : World) (a : Option Addr) (cap : Nat) (p : Prg) (h : RdP w a p) (hs : Shape p) :
    Calls Try.prog 44 #[.slice a p.length cap] w fun e w' => e = .returned (.int .i64 (execsN p : Nat)) ∧ Below w.heap.size w w' := by
  have hl : sizeP p ≤ 1048576 := Nat.le_trans (shape_size hs) (by omega)
  have HBD := hid (fun loc wr => cnt_le hs loc wr)
  have HE := hid (show execsN p = min (prodP p) 3001 from rfl)
  have HA := hid (prodTo_all p)
  have HP := hid (fun k : Nat => (show prodTo p (k + 1) = prodTo p k * ((cnt p (k : Nat) true + 1) ^ cnt p (k : Nat) false * fact (cnt p (k : Nat) true)) from rfl))
  have HM := hid (fun q i xs (hx : p[i]? = some xs) k => Nat.le_trans (mid_le (q := q) hx k) hl)
  have HALL := hid (fun q => totTo_all q p)
  have HROW := hid (fun i xs (hx : p[i]? = some xs) => Nat.le_trans (sizeP_row hx) hl)
  have hpl := Nat.le_trans (sizeP_len p) hl
  obtain ⟨n, hn⟩ : ∃ n, n = p.length := ⟨_, rfl⟩
  rw [← hn] at hpl HALL ⊢
  have HN := hid hn
  have hcf := callTimes
  have HH := hid h
  clear hn hl hs h
  go_enter Try.func44, Try.ntmps44
  go_wp2
  go_loopw [14] (fun l wr => ∃ k : Nat, k ≤ 3 ∧ l = .int .i64 k ∧ Hid (One wr w.heap.size (min (prodTo p k) 3001 : Nat)) ∧ Hid (Below w.heap.size w wr)) (fun l _ => 3 - (intOf l).toNat)
  case atStart => exact ⟨0, by omega, rfl, hid (heap_alloc_new w _), hid ((Below.refl _ _).alloc (Nat.le_refl _) _)⟩
  case round =>
    obtain ⟨k, hk, rfl, HO, HBel⟩ := hrel
    obtain ⟨wk, rfl⟩ : ∃ wk : World, wk = wr := ⟨_, rfl⟩
    by_cases hlt : k < 3
    · have HPK := hid (HP.out k)
      have hW := HBD.out (k : Nat) true
      have hR := HBD.out (k : Nat) false
      have HAW := hid (HALL.out (cntB (k : Nat) true))
      have HAR := hid (HALL.out (cntB (k : Nat) false))
      obtain ⟨qw, eqw⟩ : ∃ q, q = cntB ((k : Nat) : Int) true := ⟨_, rfl⟩
      obtain ⟨qr, eqr⟩ : ∃ q, q = cntB ((k : Nat) : Int) false := ⟨_, rfl⟩
      have HQW := hid (fun x => (congrFun eqw x : qw x = cntB (k : Nat) true x))
      have HQR := hid (fun x => (congrFun eqr x : qr x = cntB (k : Nat) false x))
      have HMW := hid (fun i xs hx t => HM.out qw i xs hx t)
      have HMR := hid (fun i xs hx t => HM.out qr i xs hx t)
      have eW : cnt p (k : Nat) true = tot qw p := by rw [eqw]
      have eR : cnt p (k : Nat) false = tot qr p := by rw [eqr]
      rw [eW] at HPK hW
      rw [eR] at HPK hR
      rw [← eqw] at HAW
      rw [← eqr] at HAR
      have hkt : (k : Int) < 3 := by omega
      clear eqw eqr eW eR
      go_wp2_with fail
      go_loopw [6, 7, 19] (fun c d i wr => ∃ j : Nat, j ≤ n ∧ i = .int .i64 j ∧ c = .int .i64 (totTo qr j p : Nat) ∧ d = .int .i64 (totTo qw j p : Nat) ∧ Hid (Below wk.heap.size wk wr)) (fun _ _ i _ => n - (intOf i).toNat)
      case atStart => exact ⟨0, Nat.zero_le _, rfl, by simp [totTo_zero], by simp [totTo_zero], hid (Below.refl _ _)⟩
      case round =>
        obtain ⟨j, hj, rfl, rfl, rfl, HB1⟩ := hrel
        obtain ⟨w1, rfl⟩ : ∃ w1 : World, w1 = wr := ⟨_, rfl⟩
        by_cases hjn : j < n
        · obtain ⟨b, off, r, c, xs, hab, hb, hx, hc, hr⟩ := HH.out.at j (by rw [← HN.out]; exact hjn)
          subst hab
          have HX := hid hx
          have HR := hid hr
          have HLT := hid hb
          have hm1 := HROW.out j xs hx
          have HTW := hid (totTo_succ (q := qw) hx)
          have HTR := hid (totTo_succ (q := qr) hx)
          have HMW' := hid (HMW.out j xs hx)
          have HMR' := hid (HMR.out j xs hx)
          have hmw0 := HMW.out j xs hx 0
          have hmr0 := HMR.out j xs hx 0
          simp only [List.take_zero, List.countP_nil, Nat.add_zero] at hmw0 hmr0
          obtain ⟨m, hm⟩ : ∃ m, m = xs.length := ⟨_, rfl⟩
          have HMX := hid hm
          rw [← hm] at hc hm1
          obtain ⟨sw, hsw⟩ : ∃ s, s = totTo qw j p := ⟨_, rfl⟩
          obtain ⟨sr, hsr⟩ : ∃ s, s = totTo qr j p := ⟨_, rfl⟩
          rw [← hsw] at HTW HMW' hmw0 ⊢
          rw [← hsr] at HTR HMR' hmr0 ⊢
          have hcx := (HB1.out.cell (p := ⟨b, off + j, none⟩) (Nat.lt_of_lt_of_le HLT.out HBel.out.size)).trans ((HBel.out.cell (p := ⟨b, off + j, none⟩) HLT.out).trans hc)
          clear hx hc hr hb hm hsw hsr
          go_wp2_with fail
          clear hcx
          go_loopw [6, 7, 25] (fun c d i wr => ∃ t : Nat, t ≤ m ∧ i = .int .i64 t ∧ c = .int .i64 (sr + (xs.take t).countP qr : Nat) ∧ d = .int .i64 (sw + (xs.take t).countP qw : Nat) ∧ Hid (Below wk.heap.size wk wr)) (fun _ _ i _ => m - (intOf i).toNat)
          case atStart => exact ⟨0, Nat.zero_le _, rfl, by simp, by simp, HB1⟩
          case round =>
            obtain ⟨t, ht, rfl, rfl, rfl, HB2⟩ := hrel
            by_cases htm : t < m
            · obtain ⟨bx, ox, x, hax, hbx, hx, hat⟩ := HR.out.ins t (by rw [← HMX.out]; exact htm)
              subst hax
              obtain ⟨c0, c1, c2, c3⟩ := (hat.below HBel.out hbx).below HB2.out (Nat.lt_of_lt_of_le hbx HBel.out.size)
              have HPW := hid (take_countP (q := qw) hx)
              have HPR := hid (take_countP (q := qr) hx)
              have hw1 := HMW'.out t
              have hw2 := HMW'.out (t + 1)
              have hr1 := HMR'.out t
              have hr2 := HMR'.out (t + 1)
              rw [HPW.out] at hw2
              rw [HPR.out] at hr2
              have HQWX := hid (HQW.out x)
              have HQRX := hid (HQR.out x)
              have HCR := hid (fun w => readsI_c w x)
              have HCW := hid (fun w => writesI_c w x)
              obtain ⟨kw, hkw⟩ : ∃ k, k = (xs.take t).countP qw := ⟨_, rfl⟩
              obtain ⟨kr, hkr⟩ : ∃ k, k = (xs.take t).countP qr := ⟨_, rfl⟩
              rw [← hkw] at HPW hw1 hw2 ⊢
              rw [← hkr] at HPR hr1 hr2 ⊢
              have htm' : (t : Int) < m := by omega
              clear hat hx hbx hkw hkr
              by_cases hloc : (x.loc == (k : Int)) = true
              · obtain ⟨rb, hrb⟩ : ∃ rb, rb = insReads x := ⟨_, rfl⟩
                obtain ⟨wb, hwb⟩ : ∃ wb, wb = insWrites x := ⟨_, rfl⟩
                rw [← hrb] at HCR
                rw [← hwb] at HCW
                have HQ1 := hid (show qr x = rb by rw [HQRX.out, cntB, hloc, hrb]; rfl)
                have HQ2 := hid (show qw x = wb by rw [HQWX.out, cntB, hloc, hwb]; rfl)
                rw [HQ2.out] at hw2
                rw [HQ1.out] at hr2
                clear hrb hwb
                cases rb <;> cases wb
                all_goals
                  simp only [if_true, Bool.false_eq_true, if_false, Nat.add_zero] at hw2 hr2
                  go_wp2_with fail
                  refine (HCR.out _).mono ?_
                  rintro e w3 ⟨rfl, hb3⟩
                  have HB3 := hid (((HB2.out.alloc HB2.out.size _).trans (hb3.mono (by have := HB2.out.size; simp; omega))))
                  have HSZ := hid (show wr.heap.size < w3.heap.size by have := hb3.size; simp at this; omega)
                  obtain ⟨y0, y1, y2, y3⟩ : (w3.cell? ⟨wr.heap.size, 0, none⟩ = some (.int .i64 x.op) ∧ w3.cell? ⟨wr.heap.size, 1, none⟩ = some (.int .i64 x.loc) ∧ w3.cell? ⟨wr.heap.size, 2, none⟩ = some (.int .i64 x.reg) ∧ w3.cell? ⟨wr.heap.size, 3, none⟩ = some (.int .i64 x.val)) := by
                    refine ⟨?_, ?_, ?_, ?_⟩
                    all_goals (rw [hb3.cell (by simp)]; simp)
                  clear hb3
                  go_wp2_with fail
                  refine (HCW.out _).mono ?_
                  rintro e w4 ⟨rfl, hb4⟩
                  have HB4 := hid (HB3.out.trans (hb4.mono HB3.out.size))
                  clear hb4 y0 y1 y2 y3
                  go_wp2_with fail
                  go_roundw
                  case rel => exact ⟨t + 1, by omega, by go_num, by rw [HPR.out, HQ1.out]; simp <;> omega, by rw [HPW.out, HQ2.out]; simp <;> omega, HB4⟩
                  case measure => simp [intOf]; omega
              · have hloc : (x.loc == (k : Int)) = false := by simpa using hloc
                have HQ1 := hid (show qr x = false by rw [HQRX.out, cntB, hloc]; rfl)
                have HQ2 := hid (show qw x = false by rw [HQWX.out, cntB, hloc]; rfl)
                have HB3 := hid (HB2.out.alloc HB2.out.size (.cells #[.int .i64 x.op, .int .i64 x.loc, .int .i64 x.reg, .int .i64 x.val] 70))
                go_wp2_with fail
                go_roundw
                case rel => exact ⟨t + 1, by omega, by go_num, by rw [HPR.out, HQ1.out]; simp, by rw [HPW.out, HQ2.out]; simp, HB3⟩
                case measure => simp [intOf]; omega
            · have HTM := hid (show t = m by omega)
              have HEW := hid (show (xs.take t).countP qw = xs.countP qw by rw [HTM.out, HMX.out, take_countP_all])
              have HER := hid (show (xs.take t).countP qr = xs.countP qr by rw [HTM.out, HMX.out, take_countP_all])
              obtain ⟨kw, hkw⟩ : ∃ k, k = (xs.take t).countP qw := ⟨_, rfl⟩
              obtain ⟨kr, hkr⟩ : ∃ k, k = (xs.take t).countP qr := ⟨_, rfl⟩
              rw [← hkw] at HEW ⊢
              rw [← hkr] at HER ⊢
              clear hkw hkr
              go_wp2_with fail
              go_roundw
              case rel => exact ⟨j + 1, by omega, by go_num, by rw [HTR.out, ← HER.out], by rw [HTW.out, ← HEW.out], HB2⟩
              case measure => simp [intOf]; omega
        · have HJ := hid (show j = n by omega)
          rw [HJ.out, HAW.out, HAR.out]
          obtain ⟨W, eW⟩ : ∃ W, W = tot qw p := ⟨_, rfl⟩
          obtain ⟨R, eR⟩ : ∃ R, R = tot qr p := ⟨_, rfl⟩
          rw [← eW] at HPK hW ⊢
          rw [← eR] at HPK hR ⊢
          have HO1 := hid (HO.out.below HB1.out HO.out.lt)
          have HB0 := hid (HBel.out.trans (HB1.out.mono HBel.out.size))
          obtain ⟨P, eP⟩ : ∃ P, P = prodTo p k := ⟨_, rfl⟩
          rw [← eP] at HO1 HPK
          clear eW eR eP
          go_wp2_with fail
          go_loopw [52] (fun i wr => ∃ t : Nat, t ≤ R ∧ i = .int .i64 t ∧ Hid (One wr w.heap.size (min (P * (W + 1) ^ t) 3001 : Nat)) ∧ Hid (Below w.heap.size w wr)) (fun i _ => R - (intOf i).toNat)
          case atStart => exact ⟨0, by omega, rfl, by simpa using HO1, HB0⟩
          case round =>
            obtain ⟨t, ht, rfl, HOt, HBt⟩ := hrel
            obtain ⟨w2, rfl⟩ : ∃ w2 : World, w2 = wr := ⟨_, rfl⟩
            by_cases htR : t < R
            · have HCT := hid (times_c w2 w.heap.size (P * (W + 1) ^ t) (W + 1) HOt.out (by omega) (by omega))
              rw [pow_step] at HCT
              have HO2 := hid (HOt.out.set (m := (min (P * (W + 1) ^ (t + 1)) 3001 : Nat)))
              have HB2 := hid (HBt.out.setCell (Nat.le_refl _) (p := ⟨w.heap.size, 0, none⟩) (.int .i64 (min (P * (W + 1) ^ (t + 1)) 3001 : Nat)))
              go_wp2_with fail
              refine HCT.out.mono ?_
              rintro e w3 ⟨rfl, rfl⟩
              go_wp2_with fail
              go_roundw
              case rel => exact ⟨t + 1, by omega, by go_num, HO2, HB2⟩
              case measure => simp [intOf]; omega
            · have HTR := hid (show t = R by omega)
              rw [HTR.out] at HOt
              go_wp2_with fail
              go_loopw [60] (fun i wr => ∃ t : Nat, t ≤ W ∧ i = .int .i64 t ∧ Hid (One wr w.heap.size (min (P * (W + 1) ^ R * fact t) 3001 : Nat)) ∧ Hid (Below w.heap.size w wr)) (fun i _ => W - (intOf i).toNat)
              case atStart => exact ⟨0, by omega, rfl, by simpa [fact] using HOt, HBt⟩
              case round =>
                obtain ⟨u, hu, rfl, HOu, HBu⟩ := hrel
                obtain ⟨w4, rfl⟩ : ∃ w4 : World, w4 = wr := ⟨_, rfl⟩
                by_cases huW : u < W
                · have HCT := hid (times_c w4 w.heap.size (P * (W + 1) ^ R * fact u) (u + 1) HOu.out (by omega) (by omega))
                  have ef : P * (W + 1) ^ R * fact u * (u + 1) = P * (W + 1) ^ R * fact (u + 1) := by
                    rw [Nat.mul_assoc]
                    congr 1
                    exact Nat.mul_comm _ _
                  rw [ef] at HCT
                  have HO2 := hid (HOu.out.set (m := (min (P * (W + 1) ^ R * fact (u + 1)) 3001 : Nat)))
                  have HB2 := hid (HBu.out.setCell (Nat.le_refl _) (p := ⟨w.heap.size, 0, none⟩) (.int .i64 (min (P * (W + 1) ^ R * fact (u + 1)) 3001 : Nat)))
                  clear ef
                  go_wp2_with fail
                  refine HCT.out.mono ?_
                  rintro e w3 ⟨rfl, rfl⟩
                  go_wp2_with fail
                  go_roundw
                  case rel => exact ⟨u + 1, by omega, by go_num, HO2, HB2⟩
                  case measure => simp [intOf]; omega
                · have HU := hid (show u = W by omega)
                  rw [HU.out, Nat.mul_assoc, ← HPK.out] at HOu
                  go_wp2_with fail
                  go_roundw
                  case rel => exact ⟨k + 1, by omega, by go_num, HOu, HBu⟩
                  case measure => simp [intOf]; omega
    · have HK := hid (show k = 3 by omega)
      rw [HK.out, HA.out, ← HE.out] at HO
      have hc := cell_of_one HO.out
      go_wp2
      go_ret
      exact ⟨rfl, HBel.out⟩
end Go.Proofs.Ythlmfjoiicnomaa
namespace Go.Proofs.Ythlmfjoiicnomaa
open Go.RowKit
set_option linter.unusedVariables false
set_option linter.unusedSimpArgs false

theorem pv_no_shape {p : Prg} (h : shapeB p = false) : progValid p = false := by unfold progValid; rw [h]; rfl
theorem pv_no_len {p : Prg} (h : p.length < 1 ∨ 3 < p.length) : progValid p = false := by
  unfold progValid
  rcases h with h | h
  · have : decide (0 < p.length) = false := by rw [decide_eq_false_iff_not]; omega
    rw [this]; simp
  · have : shapeB p = false := by
      unfold shapeB
      have : decide (p.length ≤ 3) = false := by rw [decide_eq_false_iff_not]; omega
      rw [this]; rfl
    rw [this]; rfl

set_option maxHeartbeats 3200000 in
theorem pvI_up (w : World) (a : Option Addr) (cap : Nat) (p : Prg) (h : RdP w a p) (hl : sizeP p ≤ 2200000) :
    Calls Try.prog 15 #[.slice a p.length cap] w fun e w' => e = .returned (.bool (progValid p)) ∧ Below w.heap.size w w' := by
  have hpl := Nat.le_trans (sizeP_len p) hl
  have HC := hid (fun w x => within_c w x 1 3)
  by_cases hlen : 1 ≤ p.length ∧ p.length ≤ 3
  · have HB := hid (fun i xs (hx : p[i]? = some xs) k => Nat.le_trans (mid_le (q := evB) hx k) hl)
    have HA := hid (totTo_all evB p)
    have HY := hid (shape_yes (p := p) hlen.2)
    have HV := hid (validity p)
    have HROW := hid (fun i xs (hx : p[i]? = some xs) => Nat.le_trans (sizeP_row hx) hl)
    have HNO := hid (fun j xs (hx : p[j]? = some xs) h => pv_no_shape (shape_no hx h))
    have HEX := hid (fun w' (hb : Below w.heap.size w w') hs => execsI_c w' a cap p (h.below hb) (shape_of hs))
    have HH := hid h
    obtain ⟨n, hn⟩ : ∃ n, n = p.length := ⟨_, rfl⟩
    rw [← hn] at hpl HA hlen HEX HV ⊢
    have HN := hid hn
    have HPOS := hid hlen.1
    have hw1 : (decide ((1 : Int) ≤ n) && decide ((n : Int) ≤ 3)) = true := by
      rw [Bool.and_eq_true, decide_eq_true_eq, decide_eq_true_eq]; omega
    have hlen3 := hlen.2
    have HWI := hid (fun w => HC.out w n)
    rw [hw1] at HWI
    clear hn hl hw1 hlen h
    go_enter Try.func15, Try.ntmps15
    go_wp2_with fail
    refine (HWI.out _).mono ?_
    rintro e w' ⟨rfl, rfl⟩
    go_wp2_with fail
    go_loopw [3, 14] (fun c i wr => ∃ j : Nat, j ≤ n ∧ i = .int .i64 j ∧ c = .int .i64 (totTo evB j p : Nat) ∧ Hid (∀ (i : Nat) xs, i < j → p[i]? = some xs → rowB xs = true) ∧ Hid (Below w'.heap.size w' wr)) (fun _ i _ => n - (intOf i).toNat)
    case atStart => exact ⟨0, Nat.zero_le _, rfl, by simp [totTo_zero], hid (fun i xs hi => by omega), hid (Below.refl _ _)⟩
    case round =>
      obtain ⟨j, hj, rfl, rfl, HOK, HBel⟩ := hrel
      obtain ⟨wo, rfl⟩ : ∃ wo : World, wo = wr := ⟨_, rfl⟩
      by_cases hlt : j < n
      · obtain ⟨b, off, r, c, xs, hab, hb, hx, hc, hr⟩ := HH.out.at j (by rw [← HN.out]; exact hlt)
        subst hab
        have HX := hid hx
        have HR := hid hr
        have hm1 := HROW.out j xs hx
        have HT := hid (totTo_succ (q := evB) hx)
        have HM := hid (HB.out j xs hx)
        have hm0 := HB.out j xs hx 0
        simp only [List.take_zero, List.countP_nil, Nat.add_zero] at hm0
        have HLONG := hid (row_long (xs := xs))
        have HYES := hid (row_yes (xs := xs))
        obtain ⟨m, hm⟩ : ∃ m, m = xs.length := ⟨_, rfl⟩
        have HMX := hid hm
        rw [← hm] at hc hm1 HLONG HYES
        obtain ⟨s, hs⟩ : ∃ s, s = totTo evB j p := ⟨_, rfl⟩
        rw [← hs] at HT HM hm0 ⊢
        have hcx := (HBel.out.cell (p := ⟨b, off + j, none⟩) hb).trans hc
        clear hx hc hr hb hm hs
        go_wp2_with fail
        clear hcx
        go_loopw [3, 20] (fun c i wr => ∃ t : Nat, t ≤ m ∧ i = .int .i64 t ∧ c = .int .i64 (s + (xs.take t).countP evB : Nat) ∧ Hid (∀ (k : Nat) x, k < t → xs[k]? = some x → insValid x = true) ∧ Hid (Below w'.heap.size w' wr)) (fun _ i _ => m - (intOf i).toNat)
        case atStart => exact ⟨0, Nat.zero_le _, rfl, by simp, hid (fun k x hk => by omega), HBel⟩
        case round =>
          obtain ⟨t, ht, rfl, rfl, HVA, HB2⟩ := hrel
          by_cases hlm : t < m
          · obtain ⟨bx, ox, x, hax, hbx, hx, hat⟩ := HR.out.ins t (by rw [← HMX.out]; exact hlm)
            subst hax
            obtain ⟨c0, c1, c2, c3⟩ := hat.below HB2.out hbx
            have HXX := hid hx
            have HP := hid (take_countP (q := evB) hx)
            have hmm := HM.out t
            have hmm2 := HM.out (t + 1)
            rw [HP.out] at hmm2
            have HE := hid (show evB x = !(x.op == 4) from rfl)
            have HBAD := hid (fun h => row_bad hx h)
            obtain ⟨k, hk⟩ : ∃ k, k = (xs.take t).countP evB := ⟨_, rfl⟩
            rw [← hk] at HP hmm hmm2 ⊢
            have hltm : (t : Int) < m := by omega
            have HCA := hid (fun w => validI_c w x)
            have HB2' := hid (HB2.out.alloc HB2.out.size (.cells #[.int .i64 x.op, .int .i64 x.loc, .int .i64 x.reg, .int .i64 x.val] 70))
            clear hat hx hk hbx
            by_cases hv : insValid x = true
            · rw [hv] at HCA
              have HVX := hid hv
              clear hv
              go_wp2_with fail
              refine (HCA.out _).mono ?_
              rintro e w3 ⟨rfl, hb3⟩
              have HB3 := hid (HB2'.out.trans (hb3.mono HB2'.out.size))
              have y0 : w3.cell? ⟨wr.heap.size, 0, none⟩ = some (.int .i64 x.op) := by rw [hb3.cell (by simp)]; simp
              clear hb3 c0 c1 c2 c3
              by_cases h4 : (x.op == 4) = true
              · have h4' : (x.op != 4) = false := by simp at h4 ⊢; exact h4
                have HQ1 := hid (show evB x = false by rw [HE.out, h4]; rfl)
                clear h4
                go_wp2_with fail
                go_roundw
                case rel => exact ⟨t + 1, by omega, by go_num, by rw [HP.out, HQ1.out]; simp, hid (fun k y hk hy => by
                  by_cases e : k = t
                  · subst e; rw [HXX.out] at hy; cases hy; exact HVX.out
                  · exact HVA.out k y (by omega) hy), HB3⟩
                case measure => simp [intOf]; omega
              · have h4' : (x.op != 4) = true := by simp at h4 ⊢; exact h4
                have HQ1 := hid (show evB x = true by rw [HE.out]; simpa using h4)
                rw [HQ1.out] at hmm2
                simp only [if_true] at hmm2
                clear h4
                go_wp2_with fail
                go_roundw
                case rel => exact ⟨t + 1, by omega, by go_num, by rw [HP.out, HQ1.out]; simp; omega, hid (fun k y hk hy => by
                  by_cases e : k = t
                  · subst e; rw [HXX.out] at hy; cases hy; exact HVX.out
                  · exact HVA.out k y (by omega) hy), HB3⟩
                case measure => simp [intOf]; omega
            · have hv : insValid x = false := by simpa using hv
              rw [hv] at HCA
              have HNV := hid (HNO.out j xs HX.out (HBAD.out hv))
              clear hv
              go_wp2_with fail
              refine (HCA.out _).mono ?_
              rintro e w3 ⟨rfl, hb3⟩
              have HB3 := hid (HB2'.out.trans (hb3.mono HB2'.out.size))
              clear hb3
              go_wp2_with fail
              go_ret
              exact ⟨ret_bool HNV.out.symm, HB3.out⟩
          · have HTM := hid (show t = m by omega)
            have HE := hid (show (xs.take t).countP evB = xs.countP evB by rw [HTM.out, HMX.out, take_countP_all])
            have HVV := hid (show ∀ (k : Nat) x, xs[k]? = some x → insValid x = true from fun k x hx => HVA.out k x (by
              have := (List.getElem?_eq_some_iff.1 hx).1
              rw [← HMX.out] at this
              have := HTM.out
              omega) hx)
            have hmm := HM.out t
            obtain ⟨k, hk⟩ : ∃ k, k = (xs.take t).countP evB := ⟨_, rfl⟩
            rw [← hk] at HE hmm ⊢
            clear hk
            by_cases hm7 : m ≤ 7
            · have HRX := hid (show rowB xs = true from HYES.out hm7 HVV.out)
              go_wp2_with fail
              go_roundw
              case rel => exact ⟨j + 1, by omega, by go_num, by rw [HT.out, ← HE.out], hid (fun i ys hi hy => by
                by_cases e : i = j
                · subst e; rw [HX.out] at hy; cases hy; exact HRX.out
                · exact HOK.out i ys (by omega) hy), HB2⟩
              case measure => simp [intOf]; omega
            · have HNV := hid (HNO.out j xs HX.out (HLONG.out (by omega)))
              go_wp2_with fail
              go_ret
              exact ⟨ret_bool HNV.out.symm, HB2.out⟩
      · have HJ := hid (show j = n by omega)
        have HF := hid (HY.out fun i xs hx => HOK.out i xs (by
          have := (List.getElem?_eq_some_iff.1 hx).1
          have := HN.out
          have := HJ.out
          omega) hx)
        have HPD := hid (show decide (0 < n) = true by have := HPOS.out; rw [decide_eq_true_eq]; omega)
        rw [HJ.out, HA.out]
        rw [HF.out, HPD.out] at HV
        obtain ⟨v, hv⟩ : ∃ v, v = tot evB p := ⟨_, rfl⟩
        have HVE := hid (show ev p = v from hv.symm)
        rw [← hv]
        rw [HVE.out] at HF HV
        clear hv
        by_cases hv12 : v ≤ 12
        · have HS := hid (show shapeB p = true by rw [HF.out]; simpa using hv12)
          have HEX' := hid (HEX.out wo HBel.out HS.out)
          go_wp2_with fail
          refine HEX'.out.mono ?_
          rintro e w3 ⟨rfl, hb3⟩
          have HB3 := hid (HBel.out.trans (hb3.mono HBel.out.size))
          clear hb3
          go_wp2
          go_ret
          refine ⟨ret_bool ?_, HB3.out⟩
          rw [HV.out]
          have : decide (v ≤ 12) = true := by simpa using hv12
          rw [this]
          exact dec_le _ 3000
        · have hv12' : decide ((v : Int) ≤ 12) = false := by rw [decide_eq_false_iff_not]; omega
          go_wp2
          go_ret
          refine ⟨ret_bool ?_, HBel.out⟩
          rw [HV.out]
          have : decide (v ≤ 12) = false := by simpa using hv12
          rw [this]
          rfl
  · have hw1 : (decide ((1 : Int) ≤ p.length) && decide ((p.length : Int) ≤ 3)) = false := by
      rw [Bool.and_eq_false_iff, decide_eq_false_iff_not, decide_eq_false_iff_not]; omega
    have hv : progValid p = false := pv_no_len (by omega)
    have HWI := hid (fun w => HC.out w p.length)
    rw [hw1] at HWI
    rw [hv]
    go_enter Try.func15, Try.ntmps15
    go_wp2_with fail
    refine (HWI.out _).mono ?_
    rintro e w' ⟨rfl, rfl⟩
    go_wp2
    go_ret
    exact ⟨rfl, Below.refl _ _⟩
theorem pvI_c (w : World) (a : Option Addr) (cap : Nat) (p : Prg) (h : RdP w a p) (hl : sizeP p ≤ 1048576) :
    Calls Try.prog 15 #[.slice a p.length cap] w fun e w' => e = .returned (.bool (progValid p)) ∧ Below w.heap.size w w' := pvI_up w a cap p h (Nat.le_trans hl (by decide))

/-- The number of candidates. -/
def countExecs (p : Prg) : Nat := if progValid p then prodP p else 0
end Go.Proofs.Ythlmfjoiicnomaa
