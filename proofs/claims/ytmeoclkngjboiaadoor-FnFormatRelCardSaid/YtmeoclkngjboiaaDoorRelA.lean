/-
  PROVED HERE: what the tests of relations do: spec.RelValid, l2Full, l2Has, l2Fit; impl.RelValid, related, areRels; slices.ContainsFunc, IndexFunc at them. CONDITIONS: as each theorem states.
-/
import Derived.Test.YtmeoclkngjboiaaDoorLib
import Derived.Test.YtmeoclkngjboiaaDoorRel
import Derived.Test.YtmeoclkngjboiaaDoorMix
namespace Go.Proofs.YtmeoclkngjboiaaDoor
open Go.RowKit
set_option linter.unusedVariables false
set_option linter.unusedSimpArgs false

theorem l2Full_c (w : World) (n : Nat) (hn : n ≤ 16) :
    Calls Tryd.prog 75 #[.int .i64 n] w fun e w' => e = .returned (.int .i64 ((2 : Int) ^ n - 1)) ∧ w' = w := by
  go_enter Tryd.func75, Tryd.ntmps75
  go_wp2
  go_ret
  exact ⟨ret_int (full_i64 n hn), rfl⟩

theorem l2Has_c (w : World) (a : Option Addr) (cap : Nat) (ns : List Nat) (i k : Nat) (h : Rd w a (natV ns)) (ho : Ok ns) (hi : i < ns.length) (hk : k ≤ 16) :
    Calls Tryd.prog 49 #[.slice a ns.length cap, .int .i64 i, .int .i64 k] w fun e w' => e = .returned (.bool ((ns.getD i 0).testBit k)) ∧ w = w' := by
  obtain ⟨b, off, x, rfl, hb, hx, hc⟩ := h.nat i hi
  have e : ns.getD i 0 = x := by simp [List.getD, hx]
  rw [e]
  have HB := bit_i64 x k (ho.at? hx)
  have H : Hid _ := HB
  have hi' : (i : Int) < ns.length := by omega
  clear HB e hx ho h
  go_enter Tryd.func49, Tryd.ntmps49
  go_wp2
  go_ret
  exact ⟨ret_bool H.out, rfl⟩

theorem related_c (w : World) (a : Option Addr) (cap : Nat) (ns : List Nat) (i k : Nat) (h : Rd w a (natV ns)) (ho : Ok ns) (hi : i < ns.length) (hk : k ≤ 16) :
    Calls Tryd.prog 52 #[.slice a ns.length cap, .int .i64 i, .int .i64 k] w fun e w' => e = .returned (.bool ((ns.getD i 0).testBit k)) ∧ w = w' := by
  obtain ⟨b, off, x, rfl, hb, hx, hc⟩ := h.nat i hi
  have e : ns.getD i 0 = x := by simp [List.getD, hx]
  rw [e]
  have HB := bit_i64 x k (ho.at? hx)
  have H : Hid _ := HB
  have hi' : (i : Int) < ns.length := by omega
  clear HB e hx ho h
  go_enter Tryd.func52, Tryd.ntmps52
  go_wp2
  go_ret
  exact ⟨ret_bool H.out, rfl⟩

theorem all_upto {p : Int → Bool} {xs : List Int} (h : ∀ (j : Nat) x, xs[j]? = some x → p x = true) : xs.all p = true := by
  rw [List.all_eq_true]
  intro x hx
  obtain ⟨j, hj, rfl⟩ := List.mem_iff_getElem.1 hx
  exact h j _ (List.getElem?_eq_getElem hj)
theorem all_not {p : Int → Bool} {xs : List Int} {j : Nat} {x : Int} (h : xs[j]? = some x) (hp : p x = false) : xs.all p = false := by
  rw [Bool.eq_false_iff]
  intro e
  rw [List.all_eq_true] at e
  rw [e x (List.mem_of_getElem? h)] at hp
  cases hp

theorem relValidS_c (w : World) (a : Option Addr) (cap : Nat) (xs : List Int) (h : Rd w a (ints xs)) (hl : xs.length ≤ 1048576) :
    Calls Tryd.prog 48 #[.slice a xs.length cap] w fun e w' => e = .returned (.bool (relValid xs)) ∧ Below w.heap.size w w' := by
  by_cases hlen : xs.length ≤ 16
  · obtain ⟨n, hn⟩ : ∃ n, n = xs.length := ⟨_, rfl⟩
    have HN : Hid (n = xs.length) := hn
    rw [← hn] at hl hlen ⊢
    have hgt : decide ((16 : Int) < n) = false := by simp; omega
    clear hn
    go_enter Tryd.func48, Tryd.ntmps48
    go_wp2
    go_loopw [3] (fun i wr => ∃ k : Nat, k ≤ n ∧ i = .int .i64 k ∧ (∀ j x, j < k → xs[j]? = some x → (decide (0 ≤ x) && decide (x < 2 ^ n)) = true) ∧ Below w.heap.size w wr) (fun i _ => n - (intOf i).toNat)
    case atStart => exact ⟨0, Nat.zero_le _, rfl, fun j x hj => by omega, Below.refl _ _⟩
    case round =>
      obtain ⟨k, hk, rfl, hall, hbel⟩ := hrel
      have HS : Hid _ := hall
      clear hall
      by_cases hlt : k < n
      · obtain ⟨b, off, rfl, hb, hc⟩ := h.int k (by rw [← HN.out]; exact hlt)
        obtain ⟨x, hx⟩ : ∃ x, x = xs[k]'(by rw [← HN.out]; exact hlt) := ⟨_, rfl⟩
        rw [← hx] at hc
        have hX : Hid (xs[k]? = some x) := by rw [hx]; exact List.getElem?_eq_getElem _
        have hcx := (hbel.cell (p := ⟨b, off + k, none⟩) hb).trans hc
        have hlt' : (k : Int) < n := by omega
        obtain ⟨t, ht⟩ : ∃ t : Int, t = 2 ^ n := ⟨_, rfl⟩
        have htb := two_pow_le n hlen
        rw [← ht] at htb
        have hfull := fun w => l2Full_c w n hlen
        rw [← ht] at hfull
        have HT : Hid _ := ht
        have HF : Hid _ := hfull
        clear hc h hx ht hfull
        by_cases hx0 : x < 0
        · go_wp2_with fail
          go_quiet ((go_at_call 75; exact Calls.quiet_of_same (HF.out _)))
          go_wp2
          go_ret
          refine ⟨ret_bool ?_, below_drewN _ hbel⟩
          simp only [relValid, ← HN.out, ← HT.out]
          rw [all_not hX.out (by simp; omega), Bool.and_false]
        · have hd : decide (x < 0) = false := by simpa using hx0
          by_cases hxt : t - 1 < x
          · go_wp2_with fail
            go_quiet ((go_at_call 75; exact Calls.quiet_of_same (HF.out _)))
            go_wp2
            go_ret
            refine ⟨ret_bool ?_, below_drewN _ hbel⟩
            simp only [relValid, ← HN.out, ← HT.out]
            rw [all_not hX.out (by simp; omega), Bool.and_false]
          · have hd2 : decide (t - 1 < x) = false := by simpa using hxt
            go_wp2_with fail
            go_quiet ((go_at_call 75; exact Calls.quiet_of_same (HF.out _)))
            go_wp2
            go_roundw
            case rel => exact ⟨k + 1, by omega, by go_num, fun j y hj hy => by
              by_cases hjk : j = k
              · subst hjk
                rw [hX.out] at hy
                cases hy
                rw [← HT.out]
                simp
                omega
              · exact HS.out j y (by omega) hy, below_drewN _ hbel⟩
            case measure => simp [intOf]; omega
      · go_wp2
        go_ret
        refine ⟨ret_bool ?_, hbel⟩
        have hk' : k = n := by omega
        simp only [relValid, ← HN.out]
        rw [all_upto (fun j x hj => HS.out j x (by have := (List.getElem?_eq_some_iff.1 hj).1; have := HN.out; omega) hj)]
        simp [hlen]
  · have hgt : (16 : Int) < xs.length := by omega
    have hv : relValid xs = false := by simp [relValid, hlen]
    rw [hv]
    go_enter Tryd.func48, Tryd.ntmps48
    go_wp2
    go_ret
    exact ⟨rfl, Below.refl _ _⟩

theorem eq_len (m n : Nat) : (((m : Int) == n) : Bool) = (true && true && decide (m = n)) := by
  by_cases e : m = n <;> simp [e]
  omega

end Go.Proofs.YtmeoclkngjboiaaDoor
