/-
  PROVED HERE: what spec.l3Less does. CONDITIONS: as the theorem states.
-/
import Derived.Test.YtbncmeggnhggkaaMrk
namespace Go.Proofs.Ytbncmeggnhggkaa
open Go.RowKit
set_option linter.unusedVariables false
set_option linter.unusedSimpArgs false

theorem less_drop {xs ys : List Int} {k : Nat} {x y : Int} (hx : xs[k]? = some x) (hy : ys[k]? = some y) : lessTo (xs.drop k) (ys.drop k) = if x < y then -1 else if x > y then 1 else lessTo (xs.drop (k + 1)) (ys.drop (k + 1)) := by
  obtain ⟨h1, rfl⟩ := List.getElem?_eq_some_iff.1 hx
  obtain ⟨h2, rfl⟩ := List.getElem?_eq_some_iff.1 hy
  rw [List.drop_eq_getElem_cons h1, List.drop_eq_getElem_cons h2]
  rfl
theorem less_end {xs ys : List Int} {k : Nat} (h : xs.length ≤ k ∨ ys.length ≤ k) : lessTo (xs.drop k) (ys.drop k) = 0 := by
  rcases h with h | h
  · rw [List.drop_eq_nil_of_le h]
    cases ys.drop k <;> rfl
  · rw [List.drop_eq_nil_of_le h]
    cases xs.drop k <;> rfl
set_option maxHeartbeats 1600000 in
theorem l3Less_c (w : World) (a a' : Option Addr) (cap cap' : Nat) (xs ys : List Int) (h : Rd w a (ints xs)) (h' : Rd w a' (ints ys)) (hl : xs.length ≤ 1048576) (hl' : ys.length ≤ 1048576) :
    Calls Try.prog 81 #[.slice a xs.length cap, .slice a' ys.length cap'] w fun e w' => e = .returned (.int .i64 (lessTo xs ys)) ∧ Below w.heap.size w w' := by
  have HX := hid h
  have HY := hid h'
  obtain ⟨n, hn⟩ : ∃ n, n = xs.length := ⟨_, rfl⟩
  obtain ⟨m, hm⟩ : ∃ m, m = ys.length := ⟨_, rfl⟩
  have HN := hid (And.intro hn hm)
  obtain ⟨L, hL⟩ : ∃ L, L = lessTo xs ys := ⟨_, rfl⟩
  have HL0 := hid (show lessTo (xs.drop 0) (ys.drop 0) = L by rw [hL]; rfl)
  rw [← hL, ← hn, ← hm]
  rw [← hn] at hl
  rw [← hm] at hl'
  clear hn hm hL h h'
  go_enter Try.func81, Try.ntmps81
  go_wp2_with fail
  go_loopw [5] (fun i wr => ∃ k : Nat, k ≤ n ∧ i = .int .i64 k ∧ Hid (lessTo (xs.drop k) (ys.drop k) = L) ∧ Hid (Below w.heap.size w wr)) (fun i _ => n - (intOf i).toNat)
  case atStart => exact ⟨0, Nat.zero_le _, rfl, HL0, hid (Below.refl _ _)⟩
  case round =>
    obtain ⟨k, hk, rfl, HK, HB⟩ := hrel
    by_cases hkn : k < n
    · by_cases hkm : k < m
      · obtain ⟨b, off, hab, hb, hc⟩ := HX.out.int k (by rw [← HN.out.1]; exact hkn)
        obtain ⟨b', off', hab', hb', hc'⟩ := HY.out.int k (by rw [← HN.out.2]; exact hkm)
        subst hab
        subst hab'
        obtain ⟨x, hx⟩ : ∃ x, x = xs[k]'(by rw [← HN.out.1]; exact hkn) := ⟨_, rfl⟩
        obtain ⟨y, hy⟩ : ∃ y, y = ys[k]'(by rw [← HN.out.2]; exact hkm) := ⟨_, rfl⟩
        rw [← hx] at hc
        rw [← hy] at hc'
        have HD := hid (less_drop (xs := xs) (ys := ys) (k := k) (x := x) (y := y) (by rw [hx]; exact List.getElem?_eq_getElem _) (by rw [hy]; exact List.getElem?_eq_getElem _))
        have hcx := (HB.out.cell (p := ⟨b, off + k, none⟩) hb).trans hc
        have hcx' := (HB.out.cell (p := ⟨b', off' + k, none⟩) hb').trans hc'
        have hkn' : (k : Int) < n := by omega
        have hkm' : (k : Int) < m := by omega
        clear hc hc' hx hy
        by_cases h1 : x < y
        · have HF := hid (show L = -1 by rw [← HK.out, HD.out, if_pos h1])
          go_wp2_with fail
          go_quiet (fail)
          go_wp2
          go_ret
          exact ⟨by rw [HF.out]; rfl, below_drewN _ HB.out⟩
        · have h1' : decide (x < y) = false := by simpa using h1
          by_cases h2 : y < x
          · have HF := hid (show L = 1 by rw [← HK.out, HD.out, if_neg h1, if_pos h2])
            clear h1
            go_wp2_with fail
            go_quiet (fail)
            go_wp2_with fail
            go_quiet (fail)
            go_wp2
            go_ret
            exact ⟨by rw [HF.out]; rfl, below_drewN _ (below_drewN _ HB.out)⟩
          · have h2' : decide (y < x) = false := by simpa using h2
            have HF := hid (show lessTo (xs.drop (k + 1)) (ys.drop (k + 1)) = L by rw [← HK.out, HD.out, if_neg h1, if_neg (show ¬ x > y from h2)])
            clear h1 h2
            go_wp2_with fail
            go_quiet (fail)
            go_wp2_with fail
            go_quiet (fail)
            go_wp2_with fail
            go_roundw
            case rel => exact ⟨k + 1, by omega, by go_num, HF, hid (below_drewN _ HB.out)⟩
            case measure => simp [intOf]; omega
      · have HF := hid (show L = 0 by rw [← HK.out]; exact less_end (.inr (by have := HN.out.2; omega)))
        go_wp2_with fail
        go_ret
        exact ⟨by rw [HF.out]; rfl, HB.out⟩
    · have HF := hid (show L = 0 by rw [← HK.out]; exact less_end (.inl (by have := HN.out.1; omega)))
      go_wp2_with fail
      go_ret
      exact ⟨by rw [HF.out]; rfl, HB.out⟩
end Go.Proofs.Ytbncmeggnhggkaa
