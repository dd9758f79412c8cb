/-
  PROVED HERE: what laws.toIntS, eqIntS, markIntS and heldIntS do. CONDITIONS: as each theorem states.
-/
import Derived.Test.YthlmfjoiicnomaaPrz
namespace Go.Proofs.Ythlmfjoiicnomaa
open Go.RowKit
set_option linter.unusedVariables false
set_option linter.unusedSimpArgs false

theorem toIntS_c (w : World) (a : Option Addr) (cap : Nat) (xs : List Int) (h : Rd w a (ints xs)) (hl : xs.length ≤ 1048576) :
    Calls Try.prog 18 #[.slice a xs.length cap] w fun e w' => ∃ a' cap', e = .returned (.slice a' xs.length cap') ∧ OwI w' w.heap.size a' cap' xs ∧ Below w.heap.size w w' := by
  obtain ⟨n, hn⟩ : ∃ n, xs.length = n := ⟨_, rfl⟩
  unfold OwI
  rw [hn] at hl ⊢
  have HN : Hid (xs.length = n) := hn
  clear hn
  obtain ⟨i0, hi, hz0, hz1, hz2⟩ := info_parts Try.info_int
  go_enter Try.func18, Try.ntmps18
  go_wp2_with (at_make; refine wpList_make_full _ rfl _ _ 24 rfl w.heap.size 3 i0 (.int .i64 0) 1 Try.underlying24 hi hz0 hz1 .i64 .i64 _ _ n rfl rfl rfl rfl (by rw [hz2]; omega) (by unfold maxLen; omega) (Nat.le_refl _) ?_; intro w1 hown hgrow)
  go_loopw [4] (fun i wr => ∃ k : Nat, k ≤ n ∧ i = .int .i64 k ∧ wr.ownsRow w.heap.size 3 1 (.slice (some ⟨w.heap.size, 0, none⟩) n n) n (ints (xs.take k ++ List.replicate (n - k) 0)) ∧ Below w.heap.size w wr) (fun i _ => n - (intOf i).toNat)
  case atStart => exact ⟨0, Nat.zero_le _, rfl, by simpa [toList_madeCells_one, Value.cells] using hown, (Below.refl _ _).grown hgrow (Nat.le_refl _) (by simp)⟩
  case round =>
    obtain ⟨k, hk, rfl, hown, hbel⟩ := hrel
    by_cases hlt : k < n
    · obtain ⟨b, off, rfl, hb, hc⟩ := h.int k (by rw [HN.out]; exact hlt)
      have hcx := (hbel.cell (p := ⟨b, off + k, none⟩) hb).trans hc
      have hfo := hown.frozenAt k
      have hst := hown.stored k (.int .i64 (xs[k]'(by rw [HN.out]; exact hlt)))
      rw [set_step xs k n HN.out hlt] at hst
      have hsz := (hown.cellAt k (by omega)).trans (at_step xs k n HN.out hlt)
      clear hc hown hgrow hi hz0 hz1 hz2 h
      have HS : Hid _ := hst
      clear hst
      go_wp2
      go_roundw
      case rel => exact ⟨k + 1, by omega, by go_num, HS.out.1, hbel.setCell (Nat.le_refl _) _⟩
      case measure => simp [intOf]; omega
    · go_wp2
      go_ret
      obtain rfl : k = n := by omega
      exact ⟨_, _, rfl, by simpa [HN.out, List.take_of_length_le (Nat.le_of_eq HN.out)] using hown, hbel⟩

theorem eqIntS_c (w : World) (a a' : Option Addr) (cap cap' : Nat) (xs ys : List Int) (h : Rd w a (ints xs)) (h' : Rd w a' (ints ys)) (hl : xs.length ≤ 1048576) (hl' : ys.length ≤ 1048576) :
    Calls Try.prog 19 #[.slice a xs.length cap, .slice a' ys.length cap'] w fun e w' => e = .returned (.bool (decide (xs = ys))) ∧ Below w.heap.size w w' := by
  by_cases hlen : xs.length = ys.length
  · obtain ⟨n, hn⟩ : ∃ n, n = ys.length := ⟨_, rfl⟩
    have HN : Hid (xs.length = n ∧ ys.length = n) := ⟨hlen.trans hn.symm, hn.symm⟩
    rw [hlen, ← hn]
    rw [← hn] at hl'
    clear hn hlen hl
    go_enter Try.func19, Try.ntmps19
    go_wp2
    go_loopw [5] (fun i wr => ∃ k : Nat, k ≤ n ∧ i = .int .i64 k ∧ (∀ j, j < k → xs[j]? = ys[j]?) ∧ Below w.heap.size w wr) (fun i _ => n - (intOf i).toNat)
    case atStart => exact ⟨0, Nat.zero_le _, rfl, fun j hj => by omega, Below.refl _ _⟩
    case round =>
      obtain ⟨k, hk, rfl, hsame, hbel⟩ := hrel
      have HS : Hid _ := hsame
      clear hsame
      by_cases hlt : k < n
      · obtain ⟨b, off, rfl, hb, hc⟩ := h.int k (by rw [HN.out.1]; exact hlt)
        obtain ⟨b', off', rfl, hb', hc'⟩ := h'.int k (by rw [HN.out.2]; exact hlt)
        obtain ⟨x, hx⟩ : ∃ x, x = xs[k]'(by rw [HN.out.1]; exact hlt) := ⟨_, rfl⟩
        obtain ⟨y, hy⟩ : ∃ y, y = ys[k]'(by rw [HN.out.2]; exact hlt) := ⟨_, rfl⟩
        rw [← hx] at hc
        rw [← hy] at hc'
        have hX : Hid (xs[k]? = some x ∧ ys[k]? = some y) := ⟨by rw [hx]; exact List.getElem?_eq_getElem _, by rw [hy]; exact List.getElem?_eq_getElem _⟩
        have hcx := (hbel.cell (p := ⟨b, off + k, none⟩) hb).trans hc
        have hcx' := (hbel.cell (p := ⟨b', off' + k, none⟩) hb').trans hc'
        have hlt' : (k : Int) < n := by omega
        clear hc hc' h h' hx hy
        go_wp2_with fail
        go_quiet (fail)
        go_wp2
        · go_ret
          have hne : ¬ x = y := by
            have : (x != y) = true := by assumption
            simpa using this
          refine ⟨ret_bool ?_, below_drewN _ hbel⟩
          symm
          rw [decide_eq_false_iff_not]
          intro e
          subst e
          have := hX.out.1.symm.trans hX.out.2
          simp at this
          exact hne this
        · go_roundw
          case rel =>
            have he : x = y := by
              have : (x != y) = false := by assumption
              simpa using this
            exact ⟨k + 1, by omega, by go_num, fun j hj => by
              by_cases hjk : j = k
              · subst hjk; rw [hX.out.1, hX.out.2, he]
              · exact HS.out j (by omega), below_drewN _ hbel⟩
          case measure => simp [intOf]; omega
      · go_wp2
        go_ret
        refine ⟨ret_bool ?_, hbel⟩
        symm
        rw [decide_eq_true_eq]
        apply List.ext_getElem?
        intro j
        by_cases hj : j < k
        · exact HS.out j hj
        · rw [List.getElem?_eq_none (by rw [HN.out.1]; omega), List.getElem?_eq_none (by rw [HN.out.2]; omega)]
  · have hd : decide (xs = ys) = false := by
      rw [decide_eq_false_iff_not]; intro e; rw [e] at hlen; exact hlen rfl
    have hne : ((xs.length : Int) == ys.length) = false := by simp; omega
    have hne' : ((xs.length : Int) != ys.length) = true := by simp; omega
    rw [hd]
    go_enter Try.func19, Try.ntmps19
    go_wp2
    go_ret
    exact ⟨rfl, Below.refl _ _⟩

theorem eqSame_c (w : World) (a a' : Option Addr) (cap cap' : Nat) (xs : List Int) (h : Rd w a (ints xs)) (h' : Rd w a' (ints xs)) (hl : xs.length ≤ 1048576) :
    Calls Try.prog 19 #[.slice a xs.length cap, .slice a' xs.length cap'] w fun e w' => e = .returned (.bool true) ∧ Below w.heap.size w w' :=
  (eqIntS_c w a a' cap cap' xs xs h h' hl hl).mono fun e w' h => by simpa using h

/-- The numbers from k on. -/
def marks (k : Int) (n : Nat) : List Int := (List.range n).map fun j => k + (j : Nat)
theorem marks_at (k : Int) (n j : Nat) (h : j < n) : (marks k n)[j]? = some (k + j) := by simp [marks, h]
theorem length_marks (k : Int) (n : Nat) : (marks k n).length = n := by simp [marks]

theorem markIntS_c (w : World) (base cap : Nat) (a : Option Addr) (xs : List Int) (k : Int) (h : OwI w base a cap xs) (hl : xs.length ≤ 1048576) (hk0 : 0 ≤ k) (hk1 : k ≤ 1000000000) :
    Calls Try.prog 22 #[.slice a xs.length cap, .int .i64 k] w fun e w' => e = .returned (.int .i64 (k + xs.length)) ∧ w'.ownsRow base 3 1 (.slice a xs.length cap) xs.length (ints (marks k xs.length)) ∧ w.grownBy w' (blk a) := by
  obtain ⟨n, hn⟩ : ∃ n, xs.length = n := ⟨_, rfl⟩
  unfold OwI at h
  rw [hn] at h hl ⊢
  have HN : Hid (xs.length = n) := hn
  clear hn
  go_enter Try.func22, Try.ntmps22
  go_wp2
  go_loopw [1, 5] (fun c i wr => ∃ j : Nat, j ≤ n ∧ i = .int .i64 j ∧ c = .int .i64 (k + j) ∧ wr.ownsRow base 3 1 (.slice a n cap) n (ints ((marks k n).take j ++ xs.drop j)) ∧ w.grownBy wr (blk a)) (fun _ i _ => n - (intOf i).toNat)
  case atStart => exact ⟨0, Nat.zero_le _, rfl, by simp, by simpa using h, ⟨rfl, rfl, rfl, Nat.le_refl _, fun _ _ _ => rfl⟩⟩
  case round =>
    obtain ⟨j, hj, rfl, rfl, hown, hgrow⟩ := hrel
    by_cases hlt : j < n
    · obtain ⟨g, rfl, hg1, hg2⟩ := own_some hown (by omega)
      have hfo := hown.frozenAt j
      have hst := hown.stored j (.int .i64 (k + j))
      have e : (ints ((marks k n).take j ++ xs.drop j)).set j (.int .i64 (k + j)) = ints ((marks k n).take (j + 1) ++ xs.drop (j + 1)) := by
        have hm : j < (marks k n).length := by rw [length_marks]; exact hlt
        have hx : j < xs.length := by rw [HN.out]; exact hlt
        rw [List.take_succ_eq_append_getElem hm, ← List.getElem_cons_drop hx]
        have em : (marks k n)[j] = k + j := by simp [marks]
        simp only [ints, List.map_append, List.map_cons, List.map_nil, List.append_assoc, List.cons_append, List.nil_append, em]
        rw [List.set_append_right _ _ (by simp; omega)]
        simp [length_marks, show j - min j n = 0 by omega]
      rw [e] at hst
      have hsz := hown.cellAt j (by omega)
      have hx : j < xs.length := by rw [HN.out]; exact hlt
      have e2 : (ints ((marks k n).take j ++ xs.drop j))[j]? = some (.int .i64 xs[j]) := by
        rw [← List.getElem_cons_drop hx]
        simp [List.getElem?_append, length_marks, show ¬ j < min j n by omega, show j - min j n = 0 by omega]
      rw [e2] at hsz
      obtain ⟨x0, hsx⟩ : ∃ x0, wr.cell? ⟨g, j, none⟩ = some (.int .i64 x0) := ⟨_, hsz⟩
      have HS : Hid _ := hst
      have HG : Hid _ := hgrow
      clear hst e e2 hown hgrow h hsz hx
      go_wp2
      go_roundw
      case rel => exact ⟨j + 1, by omega, by go_num, by simp; omega, HS.out.1, ⟨HG.out.os, HG.out.tape, HG.out.output, by have := HG.out.size; simpa using this, fun q hq hne => by
        have h1 := HG.out.block q hq hne
        have h2 := HS.out.2.block q (by have := HG.out.size; omega) hne
        exact h2.trans h1⟩⟩
      case measure => simp [intOf]; omega
    · go_wp2
      go_ret
      obtain rfl : j = n := by omega
      refine ⟨rfl, ?_, hgrow⟩
      rw [List.take_of_length_le (by rw [length_marks]; omega), List.drop_of_length_le (by rw [HN.out]; omega), List.append_nil] at hown
      exact hown

theorem heldIntS_c (w : World) (a : Option Addr) (cap n : Nat) (k : Int) (h : Rd w a (ints (marks k n))) (hl : n ≤ 1048576) (hk0 : 0 ≤ k) (hk1 : k ≤ 1000000000) :
    Calls Try.prog 23 #[.slice a n cap, .int .i64 k] w fun e w' => e = .returned (.int .i64 (k + n)) ∧ w = w' := by
  go_enter Try.func23, Try.ntmps23
  go_wp2
  go_loop [1, 5] (fun c i => ∃ j : Nat, j ≤ n ∧ i = .int .i64 j ∧ c = .int .i64 (k + j)) (fun _ i => n - (intOf i).toNat)
  case atStart => exact ⟨0, Nat.zero_le _, rfl, by simp⟩
  case round =>
    obtain ⟨j, hj, rfl, rfl⟩ := hrel
    by_cases hlt : j < n
    · obtain ⟨b, off, rfl, hb, hc⟩ := h.at j (by simpa [length_marks] using hlt)
      have e : (ints (marks k n))[j]'(by simpa [length_marks] using hlt) = .int .i64 (k + j) := by simp [marks]
      rw [e] at hc
      clear e h
      go_wp2
      go_round
      case rel => exact ⟨j + 1, by omega, by go_num, by simp; omega⟩
      case measure => simp [intOf]; omega
    · go_wp2
      go_ret
      obtain rfl : j = n := by omega
      exact ⟨rfl, rfl⟩
end Go.Proofs.Ythlmfjoiicnomaa
