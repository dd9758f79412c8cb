/-
  PROVED HERE: what FindCycle of both packages does. CONDITIONS: as each theorem states.
-/
import Derived.Test.YtdppidhnlbfpmaaRelM
namespace Go.Proofs.Ytdppidhnlbfpmaa
open Go.RowKit
set_option linter.unusedVariables false
set_option linter.unusedSimpArgs false

theorem specFind_c (w : World) (a : Option Addr) (cap : Nat) (xs : List Int) (h : Rd w a (ints xs)) (hl : xs.length ≤ 1048576) :
    Calls Try.prog 45 #[.slice a xs.length cap] w (RetI w (lift1 cycleN xs)) := by
  have C1 := hid (relValidS_c w a cap xs h hl)
  by_cases hv : relValid xs = true
  · rw [hv] at C1
    obtain ⟨us, rfl, ho⟩ := ok_of_valid hv
    rw [lift1_yes ho]
    rw [ints_castI] at h
    rw [length_castI] at C1 ⊢
    have C2 := hid (fun w h => l2Cycle_c w a cap us h ho)
    have H1 := hid h
    refine Calls.mono (R := RetN w (cycleN us)) ?_ (fun e w' h => h.castI)
    clear h hv hl ho
    go_enter Try.func45, Try.ntmps45
    go_wp2_with fail
    refine C1.out.mono ?_
    rintro e w1 ⟨rfl, hb1⟩
    go_wp2_with fail
    refine (C2.out _ (H1.out.below hb1)).mono ?_
    rintro e w2 ⟨a2, cap2, rfl, hown2, hb2⟩
    go_wp2
    go_ret
    exact ⟨a2, cap2, rfl, own_after hown2 hb1, hb1.trans (hb2.mono hb1.size)⟩
  · have hv : relValid xs = false := by simpa using hv
    rw [hv] at C1
    rw [lift1_no hv]
    refine Calls.mono (R := fun e w' => ∃ w1, e = .returned (.slice (some ⟨w1.heap.size, 0, none⟩) 0 0) ∧ w' = w1.alloc (.cells #[] 3) ∧ Below w.heap.size w w1) ?_ (fun e w' h => by
      obtain ⟨w1, rfl, rfl, hb⟩ := h
      exact ⟨_, _, rfl, own_lit0 w1 w.heap.size _ hb.size, hb.alloc hb.size _⟩)
    clear hv
    go_enter Try.func45, Try.ntmps45
    go_wp2_with fail
    refine C1.out.mono ?_
    rintro e w1 ⟨rfl, hb1⟩
    go_wp2
    go_ret
    exact ⟨w1, rfl, rfl, hb1⟩

set_option maxHeartbeats 1600000 in
theorem implFindYes_c (w : World) (a : Option Addr) (cap : Nat) (ns : List Nat) (h : Rd w a (natV ns)) (ho : Ok ns) :
    Calls Try.prog 44 #[.slice a ns.length cap] w (RetN w (cycleN ns)) := by
  have C1 := hid (relValidI_c w a cap (castI ns) (by rw [ints_castI]; exact h) (by rw [length_castI]; have := ho.len; omega))
  rw [valid_castI ho, length_castI] at C1
  have C := hid (fun (w : World) (i : Nat) h hi => cycleFrom_c w a cap ns i h ho hi)
  have hlen := ho.len
  have HLE := hid (fun k hk => cyc_len ho k hk)
  have HPL := hid (fun k (hk : k < ns.length) => path_len ho hk)
  have HE := hid (show cycleN ns = cycUpto ns ns.length from rfl)
  obtain ⟨n, hn⟩ : ∃ n, n = ns.length := ⟨_, rfl⟩
  rw [← hn] at C C1 HLE HE HPL hlen ⊢
  have HR := hid h
  have hnil := fun (w : World) (a : Option Addr) (n c : Nat) => Lib.run_eql_slice_nil (P := Try.prog) w 23 3 a n c 0 0 Try.underlying23
  have hnil' := fun (w : World) (a : Option Addr) (n c : Nat) => run_neq_slice_nil_any (P := Try.prog) w 23 3 a n c 0 0 Try.underlying23
  have HN1 := hid hnil
  have HN2 := hid hnil'
  clear h ho hn hnil hnil'
  go_enter Try.func44, Try.ntmps44
  go_wp2_with fail
  refine C1.out.mono ?_
  rintro e w0 ⟨rfl, hb0⟩
  go_wp2
  go_loopw [3, 11] (fun v i wr => ∃ (k : Nat) (best : List Nat) (ba : Option Addr) (bc : Nat), k ≤ n ∧ i = .int .i64 k ∧ best = cycUpto ns k ∧ v = .slice ba best.length bc ∧ (ba = none ↔ best = []) ∧ wr.ownsRow w.heap.size 3 1 (.slice ba best.length bc) best.length (natV best) ∧ Below w.heap.size w wr) (fun _ i _ => n - (intOf i).toNat)
  case atStart => exact ⟨0, [], none, 0, Nat.zero_le _, rfl, rfl, rfl, by simp, own_none _ _ _ _, hb0⟩
  case round =>
    obtain ⟨k, best, ba, bc, hk, rfl, hb, rfl, hbn, hown, hbel⟩ := hrel
    have hb17 : best.length ≤ 17 := by rw [hb]; exact HLE.out k hk
    have HB := hid hb
    obtain ⟨bl, hbl⟩ : ∃ bl, bl = best.length := ⟨_, rfl⟩
    rw [← hbl] at hown hb17 ⊢
    have HBL := hid hbl
    have HBN := hid hbn
    clear hb hbl hbn
    by_cases hlt : k < n
    · obtain ⟨p, hp⟩ : ∃ p, p = pathN ns k := ⟨_, rfl⟩
      have hp17 : p.length ≤ 17 := by rw [hp]; exact HPL.out k hlt
      have Ck := hid (C.out wr k (HR.out.below hbel) hlt)
      rw [← hp] at Ck
      obtain ⟨pl, hpl⟩ : ∃ pl, pl = p.length := ⟨_, rfl⟩
      rw [← hpl] at Ck hp17
      have HP := hid hp
      have HPLn := hid hpl
      clear hp hpl
      go_wp2_with fail
      refine Ck.out.mono ?_
      rintro e w1 ⟨a1, c1, rfl, hpn, hown1, hb1⟩
      have hbel1 := hbel.trans (hb1.mono hbel.size)
      have hown1 := own_mono hown1 hbel.size
      have hown := own_below hown hb1
      have hnil2 := HN2.out
      have hnil1 := HN1.out
      have HPN := hid hpn
      clear hpn hbel hb1
      cases a1 with
      | none =>
        have h1 : pl = 0 := by rw [HPLn.out, HPN.out.1 rfl]; rfl
        have HBT := hid (better_no (best := best) (p := p) (by rw [← HPLn.out, h1]; simp))
        go_wp2
        go_roundw
        case rel => exact ⟨k + 1, best, ba, bc, by omega, by go_num, by rw [cyc_succ, ← HB.out, ← HP.out, HBT.out], by rw [HBL.out], HBN.out, by rw [← HBL.out]; exact hown, hbel1⟩
        case measure => simp [intOf]; omega
      | some ad =>
        have h1 : 0 < pl := by
          rw [HPLn.out]
          rcases Nat.eq_zero_or_pos p.length with h0 | h0
          · have := HPN.out.2 (List.eq_nil_of_length_eq_zero h0)
            cases this
          · exact h0
        cases ba with
        | none =>
          have h2 : bl = 0 := by rw [HBL.out, HBN.out.1 rfl]; rfl
          have HBT := hid (better_yes (best := best) (p := p) (by rw [← HPLn.out, ← HBL.out]; simp [h1, h2]))
          go_wp2
          go_roundw
          case rel => exact ⟨k + 1, p, some ad, c1, by omega, by go_num, by rw [cyc_succ, ← HB.out, ← HP.out, HBT.out], by rw [HPLn.out], HPN.out, by rw [← HPLn.out]; exact hown1, hbel1⟩
          case measure => simp [intOf]; omega
        | some bd =>
          have h2 : ¬ bl = 0 := by
            rw [HBL.out]
            intro h0
            have := HBN.out.2 (List.eq_nil_of_length_eq_zero h0)
            cases this
          by_cases h3 : pl < bl
          · have HBT := hid (better_yes (best := best) (p := p) (by rw [← HPLn.out, ← HBL.out]; simp [h1, h3]))
            go_wp2
            go_roundw
            case rel => exact ⟨k + 1, p, some ad, c1, by omega, by go_num, by rw [cyc_succ, ← HB.out, ← HP.out, HBT.out], by rw [HPLn.out], HPN.out, by rw [← HPLn.out]; exact hown1, hbel1⟩
            case measure => simp [intOf]; omega
          · have HBT := hid (better_no (best := best) (p := p) (by rw [← HPLn.out, ← HBL.out]; simp [h3, h2]))
            have d3 : decide ((pl : Int) < bl) = false := by simp; omega
            go_wp2
            go_roundw
            case rel => exact ⟨k + 1, best, some bd, bc, by omega, by go_num, by rw [cyc_succ, ← HB.out, ← HP.out, HBT.out], by rw [HBL.out], HBN.out, by rw [← HBL.out]; exact hown, hbel1⟩
            case measure => simp [intOf]; omega
    · have HK := hid (show k = n by omega)
      go_wp2
      go_ret
      have e : cycleN ns = best := by rw [HE.out, HB.out, HK.out]
      rw [e]
      exact ⟨_, _, ret_slice HBL.out, by rw [← HBL.out]; exact hown, hbel⟩

theorem implFind_c (w : World) (a : Option Addr) (cap : Nat) (xs : List Int) (h : Rd w a (ints xs)) (hl : xs.length ≤ 1048576) :
    Calls Try.prog 44 #[.slice a xs.length cap] w (RetI w (lift1 cycleN xs)) := by
  by_cases hv : relValid xs = true
  · obtain ⟨us, rfl, ho⟩ := ok_of_valid hv
    rw [lift1_yes ho]
    rw [ints_castI] at h
    rw [length_castI]
    exact (implFindYes_c w a cap us h ho).mono fun e w' h => h.castI
  · have hv : relValid xs = false := by simpa using hv
    have C1 := hid (relValidI_c w a cap xs h hl)
    rw [hv] at C1
    rw [lift1_no hv]
    refine Calls.mono (R := fun e w' => e = .returned (.slice none 0 0) ∧ Below w.heap.size w w') ?_ (fun e w' h => ⟨none, 0, h.1, own_none _ _ _ _, h.2⟩)
    clear hv h
    go_enter Try.func44, Try.ntmps44
    go_wp2_with fail
    refine C1.out.mono ?_
    rintro e w1 ⟨rfl, hb1⟩
    go_wp2
    go_ret
    exact ⟨rfl, hb1⟩

theorem length_cycle (xs : List Int) : (lift1 cycleN xs).length ≤ 1048576 := by
  unfold lift1
  split
  · rename_i h
    obtain ⟨us, rfl, ha⟩ := ok_of_valid h
    rw [toNat_castI, length_castI]
    have := cycle_len ha
    omega
  · simp
end Go.Proofs.Ytdppidhnlbfpmaa
