/-
  PROVED HERE: what impl.FormatOutcome does. CONDITIONS: as each theorem states.
-/
import Derived.Test.YthlmfjoiicnomaaTxo
import Derived.Test.YthlmfjoiicnomaaShf
namespace Go.Proofs.Ythlmfjoiicnomaa
open Go.RowKit
set_option linter.unusedVariables false
set_option linter.unusedSimpArgs false

theorem bc_append (a : ByteArray) (c : UInt8) : Lib.byteCells (a ++ ⟨#[c]⟩).data.toList = Lib.byteCells a.data.toList ++ [.int .u8 (c.toNat : Int)] := by
  have e : (a ++ ⟨#[c]⟩).data.toList = a.data.toList ++ [c] := by
    rw [ByteArray.data_append]
    simp
  rw [e]
  simp [Lib.byteCells]
theorem chr_nat (c v : Nat) (h : c + v ≤ 255) : ((UInt8.ofNat (c + v)).toNat : Int) = c + v := by
  rw [UInt8.toNat_ofNat']
  omega
theorem idx_digit (w : World) (v : Nat) (h : v ≤ 3) : (Instr.index 9 (.string ⟨#[48, 49, 50, 51, 52, 53, 54, 55, 56, 57]⟩) (.int .i64 (v : Nat))).run Try.prog w = .ok (.int .u8 (48 + v)) w := by
  match v, h with
  | 0, _ =>
    simp [go_sem, Try.underlying9]
    rfl
  | 1, _ =>
    simp [go_sem, Try.underlying9]
    rfl
  | 2, _ =>
    simp [go_sem, Try.underlying9]
    rfl
  | 3, _ =>
    simp [go_sem, Try.underlying9]
    rfl

set_option maxHeartbeats 1600000 in
theorem foI_c (w : World) (a : Option Addr) (cap : Nat) (p : Prg) (a' : Option Addr) (cap' : Nat) (o : List Int) (h : RdP w a p) (h' : Rd w a' (ints o)) (hl : sizeP p ≤ 1048576) (hl' : o.length ≤ 1048576) :
    Calls Try.prog 25 #[.slice a p.length cap, .slice a' o.length cap'] w fun e w' => e = .returned (.string (fmtOut p o)) ∧ Below w.heap.size w w' := by
  have HV := hid (ovI_c w a cap p a' cap' o h h' hl hl')
  by_cases hv : outValid p o = true
  · have HF := hid (show fmtOut p o = txtTo o o.length by unfold fmtOut; rw [if_pos hv]; rfl)
    obtain ⟨q1, q2, q3⟩ := out_parts hv
    have hlo : o.length ≤ 12 := by have := (valid_of q1).len; omega
    have HSZ := hid (fun k => txtTo_size o k)
    have HSEP := hid (fun k h => txtTo_sep (o := o) (k := k) h)
    have HNS := hid (fun k h => txtTo_no (o := o) (k := k) h)
    have HAT := hid (fun k hk => out_at q3 (k := k) hk)
    have HH := hid h'
    obtain ⟨n, hn⟩ : ∃ n, n = o.length := ⟨_, rfl⟩
    have HN := hid hn
    rw [← hn] at hlo HF HV ⊢
    rw [hv] at HV
    clear h h' hl hl' hv q1 q2 q3 hn
    go_enter Try.func25, Try.ntmps25
    go_wp2_with fail
    refine HV.out.mono ?_
    rintro e w1 ⟨rfl, hb1⟩
    have HB1 := hid hb1
    have HI0 := hid (Lib.fresh_isBuilder 81 5 w1)
    have HB0 := hid ((Below.refl w1.heap.size w1).alloc (Nat.le_refl _) (.cells #[.pointer none, .slice none 0 0] 81))
    clear hb1
    go_wp2_with fail
    go_loopw [14] (fun i wr => ∃ k : Nat, k ≤ n ∧ i = .int .i64 k ∧ Hid (Lib.IsBuilder 81 5 w1.heap.size w1.heap.size (Lib.byteCells (txtTo o k).data.toList) wr) ∧ Hid (Below w1.heap.size w1 wr)) (fun i _ => n - (intOf i).toNat)
    case atStart => exact ⟨0, Nat.zero_le _, rfl, HI0, HB0⟩
    case round =>
      obtain ⟨k, hk, rfl, HI, HB⟩ := hrel
      by_cases hlt : k < n
      · obtain ⟨b, off, hab, hb, hc⟩ := HH.out.int k (by rw [← HN.out]; exact hlt)
        subst hab
        obtain ⟨v, hv3, hx, hgv⟩ := HAT.out k (by rw [← HN.out]; exact hlt)
        have hcx := (HB.out.cell (p := ⟨b, off + k, none⟩) (Nat.lt_of_lt_of_le hb HB1.out.size)).trans ((HB1.out.cell (p := ⟨b, off + k, none⟩) hb).trans hc)
        have e : o[k]'(by rw [← HN.out]; exact hlt) = (v : Int) := by
          rw [List.getElem?_eq_getElem (by rw [← HN.out]; exact hlt)] at hx
          simpa using hx
        rw [e] at hcx
        have hs := HSZ.out k
        have HS1 := hid (fun h => HSEP.out k h)
        have HS2 := hid (fun h => HNS.out k h)
        rw [hgv] at HS1 HS2
        have hidx := fun w => idx_digit w v hv3
        have HBC := hid (fun T => bc_append T (UInt8.ofNat (48 + v)))
        have HBS := hid (fun T => bc_append T 47)
        have HCN := hid (chr_nat 48 v (by omega))
        obtain ⟨T, hT⟩ : ∃ T, T = txtTo o k := ⟨_, rfl⟩
        rw [← hT] at HS1 HS2 hs HI
        have HIT := hid HI.out
        have hlt' : (k : Int) < n := by omega
        clear hc hx hb hgv e hT
        have HLB := hid (show (Lib.byteCells T.data.toList).length ≤ 2 * k by rw [Lib.byteCells_length]; exact hs)
        have HCV := hid (show ((48 : Nat) : Int) + (v : Int) = 48 + (v : Int) from rfl)
        by_cases hsep : 0 < k ∧ k % 3 = 0
        · have HE := hid (HS1.out hsep)
          have hk0 : (0 : Int) < k := by omega
          have hk3 : ((k : Int) % 3 == 0) = true := by rw [beq_iff_eq]; omega
          clear hsep
          go_wp2_with fail
          refine (Try.Builder_WriteByte _ _ _ _ _ HI.out (by have := HLB.out; omega) HB.out.size).mono ?_
          rintro e w2 ⟨rfl, hi2, hb2⟩
          have HI2 := hid hi2
          have HB2 := hid (HB.out.trans hb2)
          clear hb2 hi2 hcx
          go_wp2_with fail
          refine (Try.Builder_WriteByte _ _ _ _ _ (.inr HI2.out) (by have := HLB.out; simp; omega) HB2.out.size).mono ?_
          rintro e w3 ⟨rfl, hi3, hb3⟩
          have HI3 := hid hi3
          have HB3 := hid (HB2.out.trans hb3)
          clear hb3 hi3
          go_wp2_with fail
          go_roundw
          case rel => exact ⟨k + 1, by omega, by go_num, hid (by
            have h1 := HI3.out
            rw [HE.out]
            refine .inr ?_
            have e1 := HBC.out (T ++ ⟨#[47]⟩)
            have e2 := HBS.out T
            unfold chr
            rw [e1, e2, HCN.out]
            exact h1), HB3⟩
          case measure => simp [intOf]; omega
        · have HE := hid (HS2.out hsep)
          have hko : k = 0 ∨ (0 < k ∧ ((k : Int) % 3 == 0) = false) := by
            by_cases h0 : k = 0
            · exact .inl h0
            · refine .inr ⟨by omega, ?_⟩
              rw [beq_eq_false_iff_ne]
              omega
          clear hsep
          rcases hko with h0 | ⟨h0, h3⟩
          · have hk0 : decide (0 < k) = false := by rw [decide_eq_false_iff_not]; omega
            clear h0
            go_wp2_with fail
            refine (Try.Builder_WriteByte _ _ _ _ _ HI.out (by have := HLB.out; omega) HB.out.size).mono ?_
            rintro e w3 ⟨rfl, hi3, hb3⟩
            have HI3 := hid hi3
            have HB3 := hid (HB.out.trans hb3)
            clear hb3 hi3 hcx
            go_wp2_with fail
            go_roundw
            case rel => exact ⟨k + 1, by omega, by go_num, hid (by
              have h1 := HI3.out
              rw [HE.out]
              refine .inr ?_
              have e1 := HBC.out T
              unfold chr
              rw [e1, HCN.out]
              exact h1), HB3⟩
            case measure => simp [intOf]; omega
          · have hk0 : (0 : Int) < k := by omega
            go_wp2_with fail
            refine (Try.Builder_WriteByte _ _ _ _ _ HI.out (by have := HLB.out; omega) HB.out.size).mono ?_
            rintro e w3 ⟨rfl, hi3, hb3⟩
            have HI3 := hid hi3
            have HB3 := hid (HB.out.trans hb3)
            clear hb3 hi3 hcx
            go_wp2_with fail
            go_roundw
            case rel => exact ⟨k + 1, by omega, by go_num, hid (by
              have h1 := HI3.out
              rw [HE.out]
              refine .inr ?_
              have e1 := HBC.out T
              unfold chr
              rw [e1, HCN.out]
              exact h1), HB3⟩
            case measure => simp [intOf]; omega
      · have HK := hid (show k = n by omega)
        rw [HK.out, ← HF.out] at HI
        go_wp2_with fail
        refine (Try.Builder_String_any _ _ _ _ HI.out HB.out.size).mono ?_
        rintro e w3 ⟨rfl, hb3⟩
        have HB3 := hid (HB1.out.trans ((HB.out.trans hb3).mono HB1.out.size))
        clear hb3
        go_wp2
        go_ret
        exact ⟨ret_str rfl, HB3.out⟩
  · have hv : outValid p o = false := by simpa using hv
    have HF := hid (show fmtOut p o = ⟨#[]⟩ by unfold fmtOut; rw [hv]; rfl)
    rw [hv] at HV
    clear h h' hl hl' hv
    go_enter Try.func25, Try.ntmps25
    go_wp2_with fail
    refine HV.out.mono ?_
    rintro e w1 ⟨rfl, hb1⟩
    have HB1 := hid hb1
    clear hb1
    go_wp2
    go_ret
    exact ⟨ret_str HF.out.symm, HB1.out⟩
end Go.Proofs.Ythlmfjoiicnomaa
