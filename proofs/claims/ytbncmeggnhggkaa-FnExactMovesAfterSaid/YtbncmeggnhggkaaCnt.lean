/-
  PROVED HERE: what spec.l1Reads, l1Writes, l1Count do. CONDITIONS: as each theorem states.
-/
import Derived.Test.YtbncmeggnhggkaaFct
namespace Go.Proofs.Ytbncmeggnhggkaa
open Go.RowKit
set_option linter.unusedVariables false
set_option linter.unusedSimpArgs false

theorem l1Reads_c (w : World) (x : Ins) : Calls Try.prog 63 #[x.v] w fun e w' => e = .returned (.bool (insReads x)) ∧ Below w.heap.size w w' := by
  obtain ⟨o, l, r, v⟩ := x
  have H := hid (show insReads ⟨o, l, r, v⟩ = ((o == 1) || (o == 5)) from rfl)
  by_cases h1 : (o == 1) = true
  · go_enter Try.func63, Try.ntmps63
    go_wp2
    go_ret
    exact ⟨ret_bool (by rw [H.out, h1]; rfl), (Below.refl _ _).alloc (Nat.le_refl _) _⟩
  · have h1 : (o == 1) = false := by simpa using h1
    go_enter Try.func63, Try.ntmps63
    go_wp2
    go_ret
    exact ⟨ret_bool (by rw [H.out, h1]; simp), (Below.refl _ _).alloc (Nat.le_refl _) _⟩

theorem l1Writes_c (w : World) (x : Ins) : Calls Try.prog 65 #[x.v] w fun e w' => e = .returned (.bool (insWrites x)) ∧ Below w.heap.size w w' := by
  obtain ⟨o, l, r, v⟩ := x
  have H := hid (show insWrites ⟨o, l, r, v⟩ = ((o == 2) || (o == 3) || (o == 5)) from rfl)
  by_cases h1 : (o == 2) = true
  · go_enter Try.func65, Try.ntmps65
    go_wp2
    go_ret
    exact ⟨ret_bool (by rw [H.out, h1]; rfl), (Below.refl _ _).alloc (Nat.le_refl _) _⟩
  · have h1 : (o == 2) = false := by simpa using h1
    by_cases h2 : (o == 3) = true
    · go_enter Try.func65, Try.ntmps65
      go_wp2
      go_ret
      exact ⟨ret_bool (by rw [H.out, h1, h2]; rfl), (Below.refl _ _).alloc (Nat.le_refl _) _⟩
    · have h2 : (o == 3) = false := by simpa using h2
      go_enter Try.func65, Try.ntmps65
      go_wp2
      go_ret
      exact ⟨ret_bool (by rw [H.out, h1, h2]; simp), (Below.refl _ _).alloc (Nat.le_refl _) _⟩

set_option maxHeartbeats 1600000 in
theorem countW_c (w : World) (a : Option Addr) (cap : Nat) (p : Prg) (loc : Int) (h : RdP w a p) (hl : sizeP p ≤ 1048576) :
    Calls Try.prog 91 #[.slice a p.length cap, .int .i64 loc, .bool true] w fun e w' => e = .returned (.int .i64 (cnt p loc true : Nat)) ∧ Below w.heap.size w w' := by
  obtain ⟨q, hq⟩ : ∃ q, q = cntB loc true := ⟨_, rfl⟩
  have HQ := hid (fun x => (congrFun hq x : q x = cntB loc true x))
  have HB := hid (fun i xs (hx : p[i]? = some xs) k => Nat.le_trans (mid_le (q := q) hx k) hl)
  have HA := hid (totTo_all q p)
  have hpl := Nat.le_trans (sizeP_len p) hl
  have HROW := hid (fun i xs (hx : p[i]? = some xs) => Nat.le_trans (sizeP_row hx) hl)
  show Calls _ _ _ _ fun e w' => e = .returned (.int .i64 (tot (cntB loc true) p : Nat)) ∧ _
  rw [← hq]
  obtain ⟨n, hn⟩ : ∃ n, n = p.length := ⟨_, rfl⟩
  rw [← hn] at hpl HA ⊢
  have HN := hid hn
  clear hq hn hl
  go_enter Try.func91, Try.ntmps91
  go_wp2
  go_loopw [7, 8] (fun c i wr => ∃ j : Nat, j ≤ n ∧ i = .int .i64 j ∧ c = .int .i64 (totTo q j p : Nat) ∧ Hid (Below w.heap.size w wr)) (fun _ i _ => n - (intOf i).toNat)
  case atStart => exact ⟨0, Nat.zero_le _, rfl, by simp [totTo_zero], hid (Below.refl _ _)⟩
  case round =>
    obtain ⟨j, hj, rfl, rfl, HBel⟩ := hrel
    obtain ⟨wo, rfl⟩ : ∃ wo : World, wo = wr := ⟨_, rfl⟩
    by_cases hlt : j < n
    · obtain ⟨b, off, r, c, xs, rfl, hb, hx, hc, hr⟩ := h.at j (by rw [← HN.out]; exact hlt)
      have HX := hid hx
      have HR := hid hr
      have HC := hid hc
      have HLT := hid hb
      have hm1 := HROW.out j xs hx
      have HT := hid (totTo_succ (q := q) hx)
      have HM := hid (HB.out j xs hx)
      obtain ⟨m, hm⟩ : ∃ m, m = xs.length := ⟨_, rfl⟩
      have HMX := hid hm
      rw [← hm] at HC hm1
      obtain ⟨s, hs⟩ : ∃ s, s = totTo q j p := ⟨_, rfl⟩
      rw [← hs] at HT HM ⊢
      have hcx := (HBel.out.cell (p := ⟨b, off + j, none⟩) HLT.out).trans HC.out
      clear h hx hc hr hb hm hs
      go_wp2_with fail
      clear hcx
      go_loopw [7, 9] (fun c i wr => ∃ t : Nat, t ≤ m ∧ i = .int .i64 t ∧ c = .int .i64 (s + (xs.take t).countP q : Nat) ∧ Hid (Below w.heap.size w wr)) (fun _ i _ => m - (intOf i).toNat)
      case atStart => exact ⟨0, Nat.zero_le _, rfl, by simp, HBel⟩
      case round =>
        obtain ⟨t, ht, rfl, rfl, HB2⟩ := hrel
        have hcx := (HB2.out.cell (p := ⟨b, off + j, none⟩) HLT.out).trans HC.out
        by_cases hlm : t < m
        · obtain ⟨bx, ox, x, rfl, hbx, hx, hat⟩ := HR.out.ins t (by rw [← HMX.out]; exact hlm)
          obtain ⟨c0, c1, c2, c3⟩ := hat.below HB2.out hbx
          have HP := hid (take_countP (q := q) hx)
          have hmm := HM.out t
          have hmm2 := HM.out (t + 1)
          rw [HP.out] at hmm2
          have HQX := hid (HQ.out x)
          obtain ⟨k, hk⟩ : ∃ k, k = (xs.take t).countP q := ⟨_, rfl⟩
          rw [← hk] at HP hmm hmm2 ⊢
          have hltm : (t : Int) < m := by omega
          clear hat hx hk hbx
          by_cases hloc : (x.loc == loc) = true
          · by_cases hw : insWrites x = true
            · have HQ1 := hid (show q x = true by rw [HQX.out, cntB, hloc]; simpa using hw)
              have HCA := hid (fun w => l1Writes_c w x)
              rw [hw] at HCA
              rw [HQ1.out] at hmm2
              simp only [if_true] at hmm2
              clear hw
              go_wp2_with fail
              refine (HCA.out _).mono ?_
              rintro e w3 ⟨rfl, hb3⟩
              have HB3 := hid (((HB2.out.alloc HB2.out.size _).trans (hb3.mono (by have := HB2.out.size; simp; omega))))
              clear hb3
              go_wp2_with fail
              go_roundw
              case rel => exact ⟨t + 1, by omega, by go_num, by rw [HP.out, HQ1.out]; simp; omega, HB3⟩
              case measure => simp [intOf]; omega
            · have hw : insWrites x = false := by simpa using hw
              have HQ1 := hid (show q x = false by rw [HQX.out, cntB, hloc]; simpa using hw)
              have HCA := hid (fun w => l1Writes_c w x)
              rw [hw] at HCA
              clear hw
              go_wp2_with fail
              refine (HCA.out _).mono ?_
              rintro e w3 ⟨rfl, hb3⟩
              have HB3 := hid (((HB2.out.alloc HB2.out.size _).trans (hb3.mono (by have := HB2.out.size; simp; omega))))
              clear hb3
              go_wp2_with fail
              go_roundw
              case rel => exact ⟨t + 1, by omega, by go_num, by rw [HP.out, HQ1.out]; simp, HB3⟩
              case measure => simp [intOf]; omega
          · have hloc : (x.loc == loc) = false := by simpa using hloc
            have HQ1 := hid (show q x = false by rw [HQX.out, cntB, hloc]; rfl)
            have HB3 := hid (HB2.out.alloc HB2.out.size (.cells #[.int .i64 x.op, .int .i64 x.loc, .int .i64 x.reg, .int .i64 x.val] 79))
            go_wp2_with fail
            go_roundw
            case rel => exact ⟨t + 1, by omega, by go_num, by rw [HP.out, HQ1.out]; simp, HB3⟩
            case measure => simp [intOf]; omega
        · have HTM := hid (show t = m by omega)
          have HE := hid (show (xs.take t).countP q = xs.countP q by rw [HTM.out, HMX.out, take_countP_all])
          have hmm := HM.out t
          obtain ⟨k, hk⟩ : ∃ k, k = (xs.take t).countP q := ⟨_, rfl⟩
          rw [← hk] at HE hmm ⊢
          clear hk
          go_wp2_with fail
          go_roundw
          case rel => exact ⟨j + 1, by omega, by go_num, by rw [HT.out, ← HE.out], HB2⟩
          case measure => simp [intOf]; omega
    · have HJ := hid (show j = n by omega)
      go_wp2
      go_ret
      exact ⟨ret_int (by rw [HJ.out, HA.out]), HBel.out⟩

set_option maxHeartbeats 1600000 in
theorem countR_c (w : World) (a : Option Addr) (cap : Nat) (p : Prg) (loc : Int) (h : RdP w a p) (hl : sizeP p ≤ 1048576) :
    Calls Try.prog 91 #[.slice a p.length cap, .int .i64 loc, .bool false] w fun e w' => e = .returned (.int .i64 (cnt p loc false : Nat)) ∧ Below w.heap.size w w' := by
  obtain ⟨q, hq⟩ : ∃ q, q = cntB loc false := ⟨_, rfl⟩
  have HQ := hid (fun x => (congrFun hq x : q x = cntB loc false x))
  have HB := hid (fun i xs (hx : p[i]? = some xs) k => Nat.le_trans (mid_le (q := q) hx k) hl)
  have HA := hid (totTo_all q p)
  have hpl := Nat.le_trans (sizeP_len p) hl
  have HROW := hid (fun i xs (hx : p[i]? = some xs) => Nat.le_trans (sizeP_row hx) hl)
  show Calls _ _ _ _ fun e w' => e = .returned (.int .i64 (tot (cntB loc false) p : Nat)) ∧ _
  rw [← hq]
  obtain ⟨n, hn⟩ : ∃ n, n = p.length := ⟨_, rfl⟩
  rw [← hn] at hpl HA ⊢
  have HN := hid hn
  clear hq hn hl
  go_enter Try.func91, Try.ntmps91
  go_wp2
  go_loopw [7, 8] (fun c i wr => ∃ j : Nat, j ≤ n ∧ i = .int .i64 j ∧ c = .int .i64 (totTo q j p : Nat) ∧ Hid (Below w.heap.size w wr)) (fun _ i _ => n - (intOf i).toNat)
  case atStart => exact ⟨0, Nat.zero_le _, rfl, by simp [totTo_zero], hid (Below.refl _ _)⟩
  case round =>
    obtain ⟨j, hj, rfl, rfl, HBel⟩ := hrel
    obtain ⟨wo, rfl⟩ : ∃ wo : World, wo = wr := ⟨_, rfl⟩
    by_cases hlt : j < n
    · obtain ⟨b, off, r, c, xs, rfl, hb, hx, hc, hr⟩ := h.at j (by rw [← HN.out]; exact hlt)
      have HX := hid hx
      have HR := hid hr
      have HC := hid hc
      have HLT := hid hb
      have hm1 := HROW.out j xs hx
      have HT := hid (totTo_succ (q := q) hx)
      have HM := hid (HB.out j xs hx)
      obtain ⟨m, hm⟩ : ∃ m, m = xs.length := ⟨_, rfl⟩
      have HMX := hid hm
      rw [← hm] at HC hm1
      obtain ⟨s, hs⟩ : ∃ s, s = totTo q j p := ⟨_, rfl⟩
      rw [← hs] at HT HM ⊢
      have hcx := (HBel.out.cell (p := ⟨b, off + j, none⟩) HLT.out).trans HC.out
      clear h hx hc hr hb hm hs
      go_wp2_with fail
      clear hcx
      go_loopw [7, 9] (fun c i wr => ∃ t : Nat, t ≤ m ∧ i = .int .i64 t ∧ c = .int .i64 (s + (xs.take t).countP q : Nat) ∧ Hid (Below w.heap.size w wr)) (fun _ i _ => m - (intOf i).toNat)
      case atStart => exact ⟨0, Nat.zero_le _, rfl, by simp, HBel⟩
      case round =>
        obtain ⟨t, ht, rfl, rfl, HB2⟩ := hrel
        have hcx := (HB2.out.cell (p := ⟨b, off + j, none⟩) HLT.out).trans HC.out
        by_cases hlm : t < m
        · obtain ⟨bx, ox, x, rfl, hbx, hx, hat⟩ := HR.out.ins t (by rw [← HMX.out]; exact hlm)
          obtain ⟨c0, c1, c2, c3⟩ := hat.below HB2.out hbx
          have HP := hid (take_countP (q := q) hx)
          have hmm := HM.out t
          have hmm2 := HM.out (t + 1)
          rw [HP.out] at hmm2
          have HQX := hid (HQ.out x)
          obtain ⟨k, hk⟩ : ∃ k, k = (xs.take t).countP q := ⟨_, rfl⟩
          rw [← hk] at HP hmm hmm2 ⊢
          have hltm : (t : Int) < m := by omega
          clear hat hx hk hbx
          by_cases hloc : (x.loc == loc) = true
          · by_cases hw : insReads x = true
            · have HQ1 := hid (show q x = true by rw [HQX.out, cntB, hloc]; simpa using hw)
              have HCA := hid (fun w => l1Reads_c w x)
              rw [hw] at HCA
              rw [HQ1.out] at hmm2
              simp only [if_true] at hmm2
              clear hw
              go_wp2_with fail
              refine (HCA.out _).mono ?_
              rintro e w3 ⟨rfl, hb3⟩
              have HB3 := hid (((HB2.out.alloc HB2.out.size _).trans (hb3.mono (by have := HB2.out.size; simp; omega))))
              clear hb3
              go_wp2_with fail
              go_roundw
              case rel => exact ⟨t + 1, by omega, by go_num, by rw [HP.out, HQ1.out]; simp; omega, HB3⟩
              case measure => simp [intOf]; omega
            · have hw : insReads x = false := by simpa using hw
              have HQ1 := hid (show q x = false by rw [HQX.out, cntB, hloc]; simpa using hw)
              have HCA := hid (fun w => l1Reads_c w x)
              rw [hw] at HCA
              clear hw
              go_wp2_with fail
              refine (HCA.out _).mono ?_
              rintro e w3 ⟨rfl, hb3⟩
              have HB3 := hid (((HB2.out.alloc HB2.out.size _).trans (hb3.mono (by have := HB2.out.size; simp; omega))))
              clear hb3
              go_wp2_with fail
              go_roundw
              case rel => exact ⟨t + 1, by omega, by go_num, by rw [HP.out, HQ1.out]; simp, HB3⟩
              case measure => simp [intOf]; omega
          · have hloc : (x.loc == loc) = false := by simpa using hloc
            have HQ1 := hid (show q x = false by rw [HQX.out, cntB, hloc]; rfl)
            have HB3 := hid (HB2.out.alloc HB2.out.size (.cells #[.int .i64 x.op, .int .i64 x.loc, .int .i64 x.reg, .int .i64 x.val] 79))
            go_wp2_with fail
            go_roundw
            case rel => exact ⟨t + 1, by omega, by go_num, by rw [HP.out, HQ1.out]; simp, HB3⟩
            case measure => simp [intOf]; omega
        · have HTM := hid (show t = m by omega)
          have HE := hid (show (xs.take t).countP q = xs.countP q by rw [HTM.out, HMX.out, take_countP_all])
          have hmm := HM.out t
          obtain ⟨k, hk⟩ : ∃ k, k = (xs.take t).countP q := ⟨_, rfl⟩
          rw [← hk] at HE hmm ⊢
          clear hk
          go_wp2_with fail
          go_roundw
          case rel => exact ⟨j + 1, by omega, by go_num, by rw [HT.out, ← HE.out], HB2⟩
          case measure => simp [intOf]; omega
    · have HJ := hid (show j = n by omega)
      go_wp2
      go_ret
      exact ⟨ret_int (by rw [HJ.out, HA.out]), HBel.out⟩

end Go.Proofs.Ytbncmeggnhggkaa
