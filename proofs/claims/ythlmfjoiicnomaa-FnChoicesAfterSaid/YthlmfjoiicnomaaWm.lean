/-
  PROVED HERE: what laws.wmInts does. CONDITIONS: as each theorem states.
-/
import Derived.Test.YthlmfjoiicnomaaBf
namespace Go.Proofs.Ythlmfjoiicnomaa
open Go.RowKit
set_option linter.unusedVariables false
set_option linter.unusedSimpArgs false

theorem wmInts_c (w : World) (a a' : Option Addr) (cap cap' : Nat) (xs ys : List Int) (h : Rd w a (ints xs)) (h' : Rd w a' (ints ys)) (hl : xs.length ≤ 1048576) (hl' : ys.length ≤ 1048576) :
    Calls Try.prog 11 #[.slice a xs.length cap, .slice a' ys.length cap'] w fun e w' => e = .returned (.bool (decide (xs = ys))) ∧ Below w.heap.size w w' := by
  by_cases hlen : xs.length = ys.length
  · obtain ⟨n, hn⟩ : ∃ n, n = ys.length := ⟨_, rfl⟩
    have HN : Hid (xs.length = n ∧ ys.length = n) := ⟨hlen.trans hn.symm, hn.symm⟩
    rw [hlen, ← hn]
    rw [← hn] at hl'
    clear hn hlen hl
    go_enter Try.func11, Try.ntmps11
    go_wp2
    go_loopw [5] (fun i wr => ∃ k : Nat, k ≤ n ∧ i = .int .i64 k ∧ (∀ j, j < k → xs[j]? = ys[j]?) ∧ Below w.heap.size w wr) (fun i _ => n - (intOf i).toNat)
    case atStart => exact ⟨0, Nat.zero_le _, rfl, fun j hj => by omega, Below.refl _ _⟩
    case round =>
      obtain ⟨k, hk, rfl, hsame, hbel⟩ := hrel
      have HS : Hid _ := hsame
      clear hsame
      by_cases hlt : k < n
      · obtain ⟨b, off, rfl, hb, hc⟩ := h.int k (by rw [HN.out.1]; exact hlt)
        obtain ⟨b', off', rfl, hb', hc'⟩ := h'.int k (by rw [HN.out.2]; exact hlt)
        obtain ⟨x, hx⟩ : ∃ x, x = xs[k]'(by rw [HN.out.1]; exact hlt) := ⟨_, rfl⟩
        obtain ⟨y, hy⟩ : ∃ y, y = ys[k]'(by rw [HN.out.2]; exact hlt) := ⟨_, rfl⟩
        rw [← hx] at hc
        rw [← hy] at hc'
        have hX : Hid (xs[k]? = some x ∧ ys[k]? = some y) := ⟨by rw [hx]; exact List.getElem?_eq_getElem _, by rw [hy]; exact List.getElem?_eq_getElem _⟩
        have hcx := (hbel.cell (p := ⟨b, off + k, none⟩) hb).trans hc
        have hcx' := (hbel.cell (p := ⟨b', off' + k, none⟩) hb').trans hc'
        have hlt' : (k : Int) < n := by omega
        clear hc hc' h h' hx hy
        go_wp2_with fail
        go_quiet (fail)
        go_wp2
        · go_ret
          have hne : ¬ x = y := by
            have : (x != y) = true := by assumption
            simpa using this
          refine ⟨ret_bool ?_, below_drewN _ hbel⟩
          symm
          rw [decide_eq_false_iff_not]
          intro e
          subst e
          have := hX.out.1.symm.trans hX.out.2
          simp at this
          exact hne this
        · go_roundw
          case rel =>
            have he : x = y := by
              have : (x != y) = false := by assumption
              simpa using this
            exact ⟨k + 1, by omega, by go_num, fun j hj => by
              by_cases hjk : j = k
              · subst hjk; rw [hX.out.1, hX.out.2, he]
              · exact HS.out j (by omega), below_drewN _ hbel⟩
          case measure => simp [intOf]; omega
      · go_wp2
        go_ret
        refine ⟨ret_bool ?_, hbel⟩
        symm
        rw [decide_eq_true_eq]
        apply List.ext_getElem?
        intro j
        by_cases hj : j < k
        · exact HS.out j hj
        · rw [List.getElem?_eq_none (by rw [HN.out.1]; omega), List.getElem?_eq_none (by rw [HN.out.2]; omega)]
  · have hd : decide (xs = ys) = false := by
      rw [decide_eq_false_iff_not]; intro e; rw [e] at hlen; exact hlen rfl
    have hne : ((xs.length : Int) == ys.length) = false := by simp; omega
    have hne' : ((xs.length : Int) != ys.length) = true := by simp; omega
    rw [hd]
    go_enter Try.func11, Try.ntmps11
    go_wp2
    go_ret
    exact ⟨rfl, Below.refl _ _⟩

theorem wmSame_c (w : World) (a a' : Option Addr) (cap cap' : Nat) (xs : List Int) (h : Rd w a (ints xs)) (h' : Rd w a' (ints xs)) (hl : xs.length ≤ 1048576) :
    Calls Try.prog 11 #[.slice a xs.length cap, .slice a' xs.length cap'] w fun e w' => e = .returned (.bool true) ∧ Below w.heap.size w w' :=
  (wmInts_c w a a' cap cap' xs xs h h' hl hl).mono fun e w' h => by simpa using h

end Go.Proofs.Ythlmfjoiicnomaa
