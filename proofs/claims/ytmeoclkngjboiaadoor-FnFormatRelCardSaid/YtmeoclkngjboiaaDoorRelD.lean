/-
  PROVED HERE: what spec.l2Count, spec.CountRel, WithinRel of both packages and slices.Equal do. CONDITIONS: as each theorem states.
-/
import Derived.Test.YtmeoclkngjboiaaDoorRelC
namespace Go.Proofs.YtmeoclkngjboiaaDoor
open Go.RowKit
set_option linter.unusedVariables false
set_option linter.unusedSimpArgs false

/-- How many of the first k bits of x are set. -/
def popUpto (k x : Nat) : Nat := ((List.range k).filter fun j => x.testBit j).length
theorem pop_succ (k x : Nat) : popUpto (k + 1) x = popUpto k x + if x.testBit k then 1 else 0 := by
  unfold popUpto
  rw [List.range_succ, List.filter_append, List.length_append]
  cases h : x.testBit k <;> simp [h]
theorem pop_zero (x : Nat) : popUpto 0 x = 0 := rfl
theorem pop_le (k x : Nat) : popUpto k x ≤ k := by
  unfold popUpto
  exact Nat.le_trans (List.length_filter_le _ _) (by simp)
/-- How many pairs the first i rows of a relation have. -/
def cntUpto (i : Nat) (ns : List Nat) : Nat := ((ns.take i).map (popUpto ns.length)).sum
def countN (ns : List Nat) : Nat := cntUpto ns.length ns
theorem cnt_succ {i x : Nat} {ns : List Nat} (h : ns[i]? = some x) : cntUpto (i + 1) ns = cntUpto i ns + popUpto ns.length x := by
  obtain ⟨hi, rfl⟩ := List.getElem?_eq_some_iff.1 h
  unfold cntUpto
  rw [List.take_succ_eq_append_getElem hi, List.map_append, List.sum_append]
  simp
theorem cnt_le (i : Nat) (ns : List Nat) (h : ns.length ≤ 16) : cntUpto i ns ≤ 16 * i := by
  induction i with
  | zero => simp [cntUpto]
  | succ i ih =>
    by_cases hi : i < ns.length
    · rw [cnt_succ (List.getElem?_eq_getElem hi)]
      have := pop_le ns.length ns[i]
      omega
    · unfold cntUpto at *
      rw [List.take_of_length_le (by omega)] at *
      omega
theorem countN_le {ns : List Nat} (h : Ok ns) : countN ns ≤ 256 := by
  have := cnt_le ns.length ns h.len
  have := h.len
  unfold countN
  omega

theorem l2Count_c (w : World) (a : Option Addr) (cap : Nat) (ns : List Nat) (h : Rd w a (natV ns)) (ho : Ok ns) :
    Calls Tryd.prog 56 #[.slice a ns.length cap] w fun e w' => e = .returned (.int .i64 (countN ns : Nat)) ∧ w = w' := by
  have C := hid (fun (i k : Nat) hi hk => l2Has_c w a cap ns i k h ho hi hk)
  have HE := hid (show countN ns = cntUpto ns.length ns from rfl)
  have HO := hid ho
  have hlen := ho.len
  obtain ⟨n, hn⟩ : ∃ n, n = ns.length := ⟨_, rfl⟩
  rw [← hn] at C HE hlen ⊢
  have HN := hid hn
  clear hn h ho
  go_enter Tryd.func56, Tryd.ntmps56
  go_wp2
  go_loop [3, 4] (fun c i => ∃ k : Nat, k ≤ n ∧ i = .int .i64 k ∧ cntUpto k ns ≤ 16 * k ∧ c = .int .i64 (cntUpto k ns : Nat)) (fun _ i => n - (intOf i).toNat)
  case atStart => exact ⟨0, Nat.zero_le _, rfl, by simp [cntUpto], by simp [cntUpto]⟩
  case round =>
    obtain ⟨k, hk, rfl, hc, rfl⟩ := hrel
    by_cases hlt : k < n
    · obtain ⟨x, hx⟩ : ∃ x, ns[k]? = some x := ⟨_, List.getElem?_eq_getElem (by have := HN.out; omega)⟩
      have hg : ns.getD k 0 = x := by simp [List.getD, hx]
      have C' := hid (fun (j : Nat) hj => C.out k j hlt hj)
      rw [hg] at C'
      have HS := hid (cnt_succ hx)
      have HX := hid (fun j => pop_le j x)
      rw [← HN.out] at HS
      obtain ⟨c, hcc⟩ : ∃ c, c = cntUpto k ns := ⟨_, rfl⟩
      rw [← hcc] at hc HS ⊢
      clear hg C hx hcc
      go_wp2
      go_loop [3, 5] (fun s j => ∃ m : Nat, m ≤ n ∧ j = .int .i64 m ∧ popUpto m x ≤ m ∧ s = .int .i64 (c + popUpto m x : Nat)) (fun _ j => n - (intOf j).toNat)
      case atStart => exact ⟨0, Nat.zero_le _, rfl, by simp [pop_zero], by simp [pop_zero]⟩
      case round =>
        obtain ⟨m, hm, rfl, hp, rfl⟩ := hrel
        have HPS := hid (pop_succ m x)
        have HPL := hid (pop_le (m + 1) x)
        obtain ⟨p, hpp⟩ : ∃ p, p = popUpto m x := ⟨_, rfl⟩
        rw [← hpp] at hp HPS ⊢
        have HPP := hid hpp
        clear hpp
        by_cases hlm : m < n
        · by_cases hb : x.testBit m = true
          · go_wp2_with fail
            refine (C'.out m (by omega)).mono ?_
            rintro e w1 ⟨rfl, rfl⟩
            go_wp2
            go_round
            case rel => exact ⟨m + 1, by omega, by go_num, HPL.out, by rw [HPS.out, hb]; simp; omega⟩
            case measure => simp [intOf]; omega
          · have hb : x.testBit m = false := by simpa using hb
            go_wp2_with fail
            refine (C'.out m (by omega)).mono ?_
            rintro e w1 ⟨rfl, rfl⟩
            go_wp2
            go_round
            case rel => exact ⟨m + 1, by omega, by go_num, HPL.out, by rw [HPS.out, hb]; simp⟩
            case measure => simp [intOf]; omega
        · have hmn : m = n := by omega
          have HM := hid hmn
          clear hmn
          go_wp2
          go_round
          case rel =>
            have hS := HS.out
            rw [← HM.out, ← HPP.out] at hS
            exact ⟨k + 1, by omega, by go_num, by rw [hS]; omega, by rw [hS]⟩
          case measure => simp [intOf]; omega
    · have HK := hid (show k = n by omega)
      go_wp2
      go_ret
      exact ⟨ret_int (by rw [HE.out, HK.out]), rfl⟩
end Go.Proofs.YtmeoclkngjboiaaDoor
