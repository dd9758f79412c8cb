/-
  PROVED HERE: what spec.l3Text and spec.FormatOutcome do. CONDITIONS: as each theorem states.
-/
import Derived.Test.YthlmfjoiicnomaaOut
import Derived.Test.YthlmfjoiicnomaaTxt
namespace Go.Proofs.Ythlmfjoiicnomaa
open Go.RowKit
set_option linter.unusedVariables false
set_option linter.unusedSimpArgs false

/-- The text of the first k values of an outcome. -/
def txtTo (o : List Int) : Nat → ByteArray
  | 0 => ⟨#[]⟩
  | k + 1 => (if 0 < k ∧ k % 3 = 0 then txtTo o k ++ ⟨#[47]⟩ else txtTo o k) ++ chr 48 (o.getD k 0).toNat
def outTxt (o : List Int) : ByteArray := txtTo o o.length
theorem size_append' (a b : ByteArray) : (a ++ b).size = a.size + b.size := ByteArray.size_append
theorem txtTo_size (o : List Int) : ∀ k, (txtTo o k).size ≤ 2 * k
  | 0 => Nat.le_refl _
  | k + 1 => by
    have ih := txtTo_size o k
    show ((if 0 < k ∧ k % 3 = 0 then txtTo o k ++ ⟨#[47]⟩ else txtTo o k) ++ chr 48 (o.getD k 0).toNat).size ≤ _
    rw [size_append', chr_size]
    split
    · rw [size_append']
      show (txtTo o k).size + 1 + 1 ≤ _
      omega
    · omega
theorem txtTo_sep {o : List Int} {k : Nat} (h : 0 < k ∧ k % 3 = 0) : txtTo o (k + 1) = txtTo o k ++ ⟨#[47]⟩ ++ chr 48 (o.getD k 0).toNat := by
  show (if 0 < k ∧ k % 3 = 0 then txtTo o k ++ ⟨#[47]⟩ else txtTo o k) ++ _ = _
  rw [if_pos h]
theorem txtTo_no {o : List Int} {k : Nat} (h : ¬ (0 < k ∧ k % 3 = 0)) : txtTo o (k + 1) = txtTo o k ++ chr 48 (o.getD k 0).toNat := by
  show (if 0 < k ∧ k % 3 = 0 then txtTo o k ++ ⟨#[47]⟩ else txtTo o k) ++ _ = _
  rw [if_neg h]
theorem out_at {o : List Int} (h : o.all outB = true) {k : Nat} (hk : k < o.length) : ∃ v : Nat, v ≤ 3 ∧ o[k]? = some (v : Int) ∧ (o.getD k 0).toNat = v := by
  rw [List.all_eq_true] at h
  have := h o[k] (List.getElem_mem hk)
  simp only [outB, in01, Bool.and_eq_true, decide_eq_true_eq] at this
  refine ⟨o[k].toNat, by omega, ?_, ?_⟩
  · rw [List.getElem?_eq_getElem hk]
    congr 1
    omega
  · simp [hk]

set_option maxHeartbeats 1600000 in
theorem l3Text_c (w : World) (a : Option Addr) (cap : Nat) (o : List Int) (h : Rd w a (ints o)) (ho : o.all outB = true) (hl : o.length ≤ 1000) :
    Calls Try.prog 54 #[.slice a o.length cap] w fun e w' => e = .returned (.string (outTxt o)) ∧ Below w.heap.size w w' := by
  have HF := hid (show outTxt o = txtTo o o.length from rfl)
  have HSZ := hid (fun k => txtTo_size o k)
  have HSEP := hid (fun k h => txtTo_sep (o := o) (k := k) h)
  have HNS := hid (fun k h => txtTo_no (o := o) (k := k) h)
  have HAT := hid (fun k hk => out_at ho (k := k) hk)
  have HH := hid h
  obtain ⟨n, hn⟩ : ∃ n, n = o.length := ⟨_, rfl⟩
  have HN := hid hn
  rw [← hn] at hl HF ⊢
  clear hn h ho
  go_enter Try.func54, Try.ntmps54
  go_wp2
  go_loopw [3, 4] (fun s i wr => ∃ k : Nat, k ≤ n ∧ i = .int .i64 k ∧ s = .string (txtTo o k) ∧ Hid (Below w.heap.size w wr)) (fun _ i _ => n - (intOf i).toNat)
  case atStart => exact ⟨0, Nat.zero_le _, rfl, rfl, hid (Below.refl _ _)⟩
  case round =>
    obtain ⟨k, hk, rfl, rfl, HB⟩ := hrel
    by_cases hlt : k < n
    · obtain ⟨b, off, hab, hb, hc⟩ := HH.out.int k (by rw [← HN.out]; exact hlt)
      subst hab
      obtain ⟨v, hv3, hx, hgv⟩ := HAT.out k (by rw [← HN.out]; exact hlt)
      have hcx := (HB.out.cell (p := ⟨b, off + k, none⟩) hb).trans hc
      have e : o[k]'(by rw [← HN.out]; exact hlt) = (v : Int) := by
        rw [List.getElem?_eq_getElem (by rw [← HN.out]; exact hlt)] at hx
        simpa using hx
      rw [e] at hcx
      have hs := HSZ.out k
      have HS1 := hid (fun h => HSEP.out k h)
      have HS2 := hid (fun h => HNS.out k h)
      rw [hgv] at HS1 HS2
      have HD := hid (fun w => dec_c w v (by omega))
      obtain ⟨V, hV⟩ : ∃ V, V = chr 48 v := ⟨_, rfl⟩
      have sV : V.size ≤ 1 := by rw [hV]; exact Nat.le_refl _
      rw [← hV] at HS1 HS2 HD
      obtain ⟨T, hT⟩ : ∃ T, T = txtTo o k := ⟨_, rfl⟩
      rw [← hT] at HS1 HS2 hs ⊢
      have hlt' : (k : Int) < n := by omega
      clear hc hx hb hgv hv3 hV hT e
      by_cases hsep : 0 < k ∧ k % 3 = 0
      · have HE := hid (HS1.out hsep)
        have hk0 : (0 : Int) < k := by omega
        have hk3 : ((k : Int) % 3 == 0) = true := by rw [beq_iff_eq]; omega
        clear hsep
        go_wp2_with fail
        refine (HD.out _).mono ?_
        rintro e w2 ⟨rfl, hb2⟩
        have HB2 := hid (HB.out.trans (hb2.mono HB.out.size))
        clear hb2 hcx
        have hs3 : (T ++ ⟨#[47]⟩).size ≤ 2 * k + 1 := by rw [size_append']; show T.size + 1 ≤ _; omega
        go_wp2_with fail
        go_roundw
        case rel => exact ⟨k + 1, by omega, by go_num, by rw [HE.out], HB2⟩
        case measure => simp [intOf]; omega
      · have HE := hid (HS2.out hsep)
        have hko : k = 0 ∨ (0 < k ∧ ((k : Int) % 3 == 0) = false) := by
          by_cases h0 : k = 0
          · exact .inl h0
          · refine .inr ⟨by omega, ?_⟩
            rw [beq_eq_false_iff_ne]
            omega
        clear hsep
        rcases hko with h0 | ⟨h0, h3⟩
        · have hk0 : decide (0 < k) = false := by rw [decide_eq_false_iff_not]; omega
          clear h0
          go_wp2_with fail
          refine (HD.out _).mono ?_
          rintro e w2 ⟨rfl, hb2⟩
          have HB2 := hid (HB.out.trans (hb2.mono HB.out.size))
          clear hb2 hcx
          go_wp2_with fail
          go_roundw
          case rel => exact ⟨k + 1, by omega, by go_num, by rw [HE.out], HB2⟩
          case measure => simp [intOf]; omega
        · have hk0 : (0 : Int) < k := by omega
          go_wp2_with fail
          refine (HD.out _).mono ?_
          rintro e w2 ⟨rfl, hb2⟩
          have HB2 := hid (HB.out.trans (hb2.mono HB.out.size))
          clear hb2 hcx
          go_wp2_with fail
          go_roundw
          case rel => exact ⟨k + 1, by omega, by go_num, by rw [HE.out], HB2⟩
          case measure => simp [intOf]; omega
    · have HK := hid (show k = n by omega)
      go_wp2
      go_ret
      exact ⟨ret_str (by rw [HF.out, HK.out]), HB.out⟩

/-- The text of an outcome that may be invalid. -/
def fmtOut (p : Prg) (o : List Int) : ByteArray := if outValid p o then outTxt o else ⟨#[]⟩
theorem out_parts {p : Prg} {o : List Int} (h : outValid p o = true) : progValid p = true ∧ o.length = 3 * p.length + 3 ∧ o.all outB = true := by
  simp only [outValid, Bool.and_eq_true, decide_eq_true_eq] at h
  exact ⟨h.1.1, h.1.2, h.2⟩
theorem foS_c (w : World) (a : Option Addr) (cap : Nat) (p : Prg) (a' : Option Addr) (cap' : Nat) (o : List Int) (h : RdP w a p) (h' : Rd w a' (ints o)) (hl : sizeP p ≤ 1048576) (hl' : o.length ≤ 1048576) :
    Calls Try.prog 27 #[.slice a p.length cap, .slice a' o.length cap'] w fun e w' => e = .returned (.string (fmtOut p o)) ∧ Below w.heap.size w w' := by
  have HV := hid (ovS_c w a cap p a' cap' o h h' hl hl')
  by_cases hv : outValid p o = true
  · have HF := hid (show fmtOut p o = outTxt o by unfold fmtOut; rw [if_pos hv])
    obtain ⟨q1, q2, q3⟩ := out_parts hv
    have HT := hid (fun w' (hb : Below w.heap.size w w') => l3Text_c w' a' cap' o (h'.below hb) q3 (by have := (valid_of q1).len; omega))
    rw [hv] at HV
    clear h h' hl hl' hv q1 q2 q3
    go_enter Try.func27, Try.ntmps27
    go_wp2_with fail
    refine HV.out.mono ?_
    rintro e w1 ⟨rfl, hb1⟩
    have HB1 := hid hb1
    clear hb1
    go_wp2_with fail
    refine (HT.out _ HB1.out).mono ?_
    rintro e w2 ⟨rfl, hb2⟩
    have HB2 := hid (HB1.out.trans (hb2.mono HB1.out.size))
    clear hb2
    go_wp2
    go_ret
    exact ⟨ret_str HF.out.symm, HB2.out⟩
  · have hv : outValid p o = false := by simpa using hv
    have HF := hid (show fmtOut p o = ⟨#[]⟩ by unfold fmtOut; rw [hv]; rfl)
    rw [hv] at HV
    clear h h' hl hl' hv
    go_enter Try.func27, Try.ntmps27
    go_wp2_with fail
    refine HV.out.mono ?_
    rintro e w1 ⟨rfl, hb1⟩
    have HB1 := hid hb1
    clear hb1
    go_wp2
    go_ret
    exact ⟨ret_str HF.out.symm, HB1.out⟩
end Go.Proofs.Ythlmfjoiicnomaa
