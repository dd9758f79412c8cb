/-
  PROVED HERE: what CountOps of both packages does. CONDITIONS: as each theorem states.
-/
import Derived.Test.YtciplfdgjbehgaaVav
namespace Go.Proofs.Ytciplfdgjbehgaa
open Go.RowKit
set_option linter.unusedVariables false
set_option linter.unusedSimpArgs false

def opB (op : Int) (x : Ins) : Bool := x.op == op
def countOps (p : Prg) (op : Int) : Nat := if progValid p then tot (opB op) p else 0

set_option maxHeartbeats 1600000 in
theorem coS_c (w : World) (a : Option Addr) (cap : Nat) (p : Prg) (op : Int) (h : RdP w a p) (hl : sizeP p ≤ 1048576) :
    Calls Try.prog 25 #[.slice a p.length cap, .int .i64 op] w fun e w' => e = .returned (.int .i64 (countOps p op : Nat)) ∧ Below w.heap.size w w' := by
  obtain ⟨q, hq⟩ : ∃ q, q = opB op := ⟨_, rfl⟩
  have HQ := hid (fun x => (congrFun hq x : q x = opB op x))
  have HB := hid (fun i xs (hx : p[i]? = some xs) k => Nat.le_trans (mid_le (q := q) hx k) hl)
  have HA := hid (totTo_all q p)
  have hpl := Nat.le_trans (sizeP_len p) hl
  have HROW := hid (fun i xs (hx : p[i]? = some xs) => Nat.le_trans (sizeP_row hx) hl)
  have HPV := hid (fun w' (hb : Below w.heap.size w w') => pvS_c w' a cap p (h.below hb) hl)
  have HH := hid h
  by_cases hv : progValid p = true
  · have HF := hid (show countOps p op = tot q p by unfold countOps; rw [if_pos hv, hq])
    rw [hv] at HPV
    obtain ⟨n, hn⟩ : ∃ n, n = p.length := ⟨_, rfl⟩
    rw [← hn] at hpl HA HPV ⊢
    have HN := hid hn
    clear hq hn hl h hv
    go_enter Try.func25, Try.ntmps25
    go_wp2
    go_loopw [5, 6] (fun c i wr => ∃ j : Nat, j ≤ n ∧ i = .int .i64 j ∧ c = .int .i64 (totTo q j p : Nat) ∧ Hid (Below w.heap.size w wr)) (fun _ i _ => n - (intOf i).toNat)
    case atStart => exact ⟨0, Nat.zero_le _, rfl, by simp [totTo_zero], hid (Below.refl _ _)⟩
    case round =>
      obtain ⟨j, hj, rfl, rfl, HBel⟩ := hrel
      obtain ⟨wo, rfl⟩ : ∃ wo : World, wo = wr := ⟨_, rfl⟩
      by_cases hlt : j < n
      · obtain ⟨b, off, r, c, xs, hab, hb, hx, hc, hr⟩ := HH.out.at j (by rw [← HN.out]; exact hlt)
        subst hab
        have HR := hid hr
        have HC := hid hc
        have HLT := hid hb
        have hm1 := HROW.out j xs hx
        have HT := hid (totTo_succ (q := q) hx)
        have HM := hid (HB.out j xs hx)
        obtain ⟨m, hm⟩ : ∃ m, m = xs.length := ⟨_, rfl⟩
        have HMX := hid hm
        rw [← hm] at HC hm1
        obtain ⟨s, hs⟩ : ∃ s, s = totTo q j p := ⟨_, rfl⟩
        rw [← hs] at HT HM ⊢
        have hlt' : (j : Int) < n := by omega
        clear hx hc hr hb hm hs
        go_wp2_with fail
        refine (HPV.out _ HBel.out).mono ?_
        rintro e w1 ⟨rfl, hb1⟩
        have HB1 := hid (HBel.out.trans (hb1.mono HBel.out.size))
        clear hb1
        go_wp2_with fail
        go_loopw [5, 7] (fun c i wr => ∃ t : Nat, t ≤ m ∧ i = .int .i64 t ∧ c = .int .i64 (s + (xs.take t).countP q : Nat) ∧ Hid (Below w.heap.size w wr)) (fun _ i _ => m - (intOf i).toNat)
        case atStart => exact ⟨0, Nat.zero_le _, rfl, by simp, HB1⟩
        case round =>
          obtain ⟨t, ht, rfl, rfl, HB2⟩ := hrel
          have hcx := (HB2.out.cell (p := ⟨b, off + j, none⟩) HLT.out).trans HC.out
          by_cases hlm : t < m
          · obtain ⟨bx, ox, x, hax, hbx, hx, hat⟩ := HR.out.ins t (by rw [← HMX.out]; exact hlm)
            subst hax
            obtain ⟨c0, c1, c2, c3⟩ := hat.below HB2.out hbx
            have HP := hid (take_countP (q := q) hx)
            have hmm := HM.out t
            have hmm2 := HM.out (t + 1)
            rw [HP.out] at hmm2
            have HQX := hid (HQ.out x)
            obtain ⟨k, hk⟩ : ∃ k, k = (xs.take t).countP q := ⟨_, rfl⟩
            rw [← hk] at HP hmm hmm2 ⊢
            have hltm : (t : Int) < m := by omega
            clear hat hx hk hbx
            by_cases hop : (x.op == op) = true
            · have HQ1 := hid (show q x = true by rw [HQX.out, opB, hop])
              rw [HQ1.out] at hmm2
              simp only [if_true] at hmm2
              go_wp2_with fail
              go_roundw
              case rel => exact ⟨t + 1, by omega, by go_num, by rw [HP.out, HQ1.out]; simp; omega, HB2⟩
              case measure => simp [intOf]; omega
            · have hop : (x.op == op) = false := by simpa using hop
              have HQ1 := hid (show q x = false by rw [HQX.out, opB, hop])
              go_wp2_with fail
              go_roundw
              case rel => exact ⟨t + 1, by omega, by go_num, by rw [HP.out, HQ1.out]; simp, HB2⟩
              case measure => simp [intOf]; omega
          · have HTM := hid (show t = m by omega)
            have HE := hid (show (xs.take t).countP q = xs.countP q by rw [HTM.out, HMX.out, take_countP_all])
            have hmm := HM.out t
            obtain ⟨k, hk⟩ : ∃ k, k = (xs.take t).countP q := ⟨_, rfl⟩
            rw [← hk] at HE hmm ⊢
            clear hk
            go_wp2_with fail
            go_roundw
            case rel => exact ⟨j + 1, by omega, by go_num, by rw [HT.out, ← HE.out], HB2⟩
            case measure => simp [intOf]; omega
      · have HJ := hid (show j = n by omega)
        have hlt' : decide ((j : Int) < n) = false := by rw [decide_eq_false_iff_not]; omega
        go_wp2
        go_ret
        exact ⟨ret_int (by rw [HJ.out, HA.out, HF.out]), HBel.out⟩
  · have hv : progValid p = false := by simpa using hv
    have HF := hid (show countOps p op = 0 by unfold countOps; rw [hv]; rfl)
    rw [hv] at HPV
    obtain ⟨n, hn⟩ : ∃ n, n = p.length := ⟨_, rfl⟩
    rw [← hn] at hpl HPV ⊢
    clear hq hn hl h hv
    go_enter Try.func25, Try.ntmps25
    go_wp2
    go_loopw [5, 6] (fun c i wr => c = .int .i64 0 ∧ i = .int .i64 0 ∧ wr = w) (fun _ i _ => 0)
    case atStart => exact ⟨rfl, rfl, rfl⟩
    case round =>
      obtain ⟨rfl, rfl, rfl⟩ := hrel
      by_cases h0 : 0 < n
      · have h0' : (0 : Int) < n := by omega
        go_wp2_with fail
        refine (HPV.out _ (Below.refl _ _)).mono ?_
        rintro e w1 ⟨rfl, hb1⟩
        go_wp2
        go_ret
        exact ⟨ret_int (by rw [HF.out]; rfl), hb1⟩
      · have h0' : decide ((0 : Int) < n) = false := by rw [decide_eq_false_iff_not]; omega
        go_wp2
        go_ret
        exact ⟨ret_int (by rw [HF.out]; rfl), Below.refl _ _⟩

set_option maxHeartbeats 1600000 in
theorem coI_c (w : World) (a : Option Addr) (cap : Nat) (p : Prg) (op : Int) (h : RdP w a p) (hl : sizeP p ≤ 1048576) :
    Calls Try.prog 24 #[.slice a p.length cap, .int .i64 op] w fun e w' => e = .returned (.int .i64 (countOps p op : Nat)) ∧ Below w.heap.size w w' := by
  obtain ⟨q, hq⟩ : ∃ q, q = opB op := ⟨_, rfl⟩
  have HQ := hid (fun x => (congrFun hq x : q x = opB op x))
  have HB := hid (fun i xs (hx : p[i]? = some xs) k => Nat.le_trans (mid_le (q := q) hx k) hl)
  have HA := hid (totTo_all q p)
  have hpl := Nat.le_trans (sizeP_len p) hl
  have HROW := hid (fun i xs (hx : p[i]? = some xs) => Nat.le_trans (sizeP_row hx) hl)
  have HPV := hid (pvI_c w a cap p h hl)
  have HH := hid h
  by_cases hv : progValid p = true
  · have HF := hid (show countOps p op = tot q p by unfold countOps; rw [if_pos hv, hq])
    rw [hv] at HPV
    obtain ⟨n, hn⟩ : ∃ n, n = p.length := ⟨_, rfl⟩
    rw [← hn] at hpl HA HPV ⊢
    have HN := hid hn
    clear hq hn hl h hv
    go_enter Try.func24, Try.ntmps24
    go_wp2_with fail
    refine HPV.out.mono ?_
    rintro e w1 ⟨rfl, hb1⟩
    have HB1 := hid hb1
    clear hb1
    go_wp2_with fail
    go_loopw [5, 15] (fun c i wr => ∃ j : Nat, j ≤ n ∧ i = .int .i64 j ∧ c = .int .i64 (totTo q j p : Nat) ∧ Hid (Below w.heap.size w wr)) (fun _ i _ => n - (intOf i).toNat)
    case atStart => exact ⟨0, Nat.zero_le _, rfl, by simp [totTo_zero], HB1⟩
    case round =>
      obtain ⟨j, hj, rfl, rfl, HBel⟩ := hrel
      obtain ⟨wo, rfl⟩ : ∃ wo : World, wo = wr := ⟨_, rfl⟩
      by_cases hlt : j < n
      · obtain ⟨b, off, r, c, xs, hab, hb, hx, hc, hr⟩ := HH.out.at j (by rw [← HN.out]; exact hlt)
        subst hab
        have HR := hid hr
        have hm1 := HROW.out j xs hx
        have HT := hid (totTo_succ (q := q) hx)
        have HM := hid (HB.out j xs hx)
        obtain ⟨m, hm⟩ : ∃ m, m = xs.length := ⟨_, rfl⟩
        have HMX := hid hm
        rw [← hm] at hc hm1
        obtain ⟨s, hs⟩ : ∃ s, s = totTo q j p := ⟨_, rfl⟩
        rw [← hs] at HT HM ⊢
        have hcx := (HBel.out.cell (p := ⟨b, off + j, none⟩) hb).trans hc
        clear hx hc hr hb hm hs
        go_wp2_with fail
        clear hcx
        go_loopw [5, 21] (fun c i wr => ∃ t : Nat, t ≤ m ∧ i = .int .i64 t ∧ c = .int .i64 (s + (xs.take t).countP q : Nat) ∧ Hid (Below w.heap.size w wr)) (fun _ i _ => m - (intOf i).toNat)
        case atStart => exact ⟨0, Nat.zero_le _, rfl, by simp, HBel⟩
        case round =>
          obtain ⟨t, ht, rfl, rfl, HB2⟩ := hrel
          by_cases hlm : t < m
          · obtain ⟨bx, ox, x, hax, hbx, hx, hat⟩ := HR.out.ins t (by rw [← HMX.out]; exact hlm)
            subst hax
            obtain ⟨c0, c1, c2, c3⟩ := hat.below HB2.out hbx
            have HP := hid (take_countP (q := q) hx)
            have hmm := HM.out t
            have hmm2 := HM.out (t + 1)
            rw [HP.out] at hmm2
            have HQX := hid (HQ.out x)
            obtain ⟨k, hk⟩ : ∃ k, k = (xs.take t).countP q := ⟨_, rfl⟩
            rw [← hk] at HP hmm hmm2 ⊢
            have hltm : (t : Int) < m := by omega
            have HB3 := hid (HB2.out.alloc HB2.out.size (.cells #[.int .i64 x.op, .int .i64 x.loc, .int .i64 x.reg, .int .i64 x.val] 24))
            clear hat hx hk hbx
            by_cases hop : (x.op == op) = true
            · have HQ1 := hid (show q x = true by rw [HQX.out, opB, hop])
              rw [HQ1.out] at hmm2
              simp only [if_true] at hmm2
              go_wp2_with fail
              go_roundw
              case rel => exact ⟨t + 1, by omega, by go_num, by rw [HP.out, HQ1.out]; simp; omega, HB3⟩
              case measure => simp [intOf]; omega
            · have hop : (x.op == op) = false := by simpa using hop
              have HQ1 := hid (show q x = false by rw [HQX.out, opB, hop])
              go_wp2_with fail
              go_roundw
              case rel => exact ⟨t + 1, by omega, by go_num, by rw [HP.out, HQ1.out]; simp, HB3⟩
              case measure => simp [intOf]; omega
          · have HTM := hid (show t = m by omega)
            have HE := hid (show (xs.take t).countP q = xs.countP q by rw [HTM.out, HMX.out, take_countP_all])
            have hmm := HM.out t
            obtain ⟨k, hk⟩ : ∃ k, k = (xs.take t).countP q := ⟨_, rfl⟩
            rw [← hk] at HE hmm ⊢
            clear hk
            go_wp2_with fail
            go_roundw
            case rel => exact ⟨j + 1, by omega, by go_num, by rw [HT.out, ← HE.out], HB2⟩
            case measure => simp [intOf]; omega
      · have HJ := hid (show j = n by omega)
        go_wp2
        go_ret
        exact ⟨ret_int (by rw [HJ.out, HA.out, HF.out]), HBel.out⟩
  · have hv : progValid p = false := by simpa using hv
    have HF := hid (show countOps p op = 0 by unfold countOps; rw [hv]; rfl)
    rw [hv] at HPV
    clear hq hl h hv
    go_enter Try.func24, Try.ntmps24
    go_wp2_with fail
    refine HPV.out.mono ?_
    rintro e w1 ⟨rfl, hb1⟩
    go_wp2
    go_ret
    exact ⟨ret_int (by rw [HF.out]; rfl), hb1⟩
end Go.Proofs.Ytciplfdgjbehgaa
