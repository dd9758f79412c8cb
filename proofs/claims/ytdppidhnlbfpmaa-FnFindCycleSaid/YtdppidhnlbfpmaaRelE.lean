/-
  PROVED HERE: what spec.CountRel, WithinRel of both packages and slices.Equal do. CONDITIONS: as each theorem states.
-/
import Derived.Test.YtdppidhnlbfpmaaRelD
namespace Go.Proofs.Ytdppidhnlbfpmaa
open Go.RowKit
set_option linter.unusedVariables false
set_option linter.unusedSimpArgs false

theorem slicesEqual_c (w : World) (a a' : Option Addr) (cap cap' : Nat) (xs ys : List Int) (h : Rd w a (ints xs)) (h' : Rd w a' (ints ys)) (hl : xs.length ≤ 1048576) (hl' : ys.length ≤ 1048576) :
    Calls Try.prog 58 #[.slice a xs.length cap, .slice a' ys.length cap'] w fun e w' => e = .returned (.bool (decide (xs = ys))) ∧ Below w.heap.size w w' := by
  by_cases hlen : xs.length = ys.length
  · obtain ⟨n, hn⟩ : ∃ n, n = ys.length := ⟨_, rfl⟩
    have HN : Hid (xs.length = n ∧ ys.length = n) := ⟨hlen.trans hn.symm, hn.symm⟩
    rw [hlen, ← hn]
    rw [← hn] at hl'
    clear hn hlen hl
    go_enter Try.func58, Try.ntmps58
    go_wp2
    go_loopw [13] (fun i wr => ∃ k : Nat, k ≤ n ∧ i = .int .i64 k ∧ (∀ j, j < k → xs[j]? = ys[j]?) ∧ Below w.heap.size w wr) (fun i _ => n - (intOf i).toNat)
    case atStart => exact ⟨0, Nat.zero_le _, rfl, fun j hj => by omega, Below.refl _ _⟩
    case round =>
      obtain ⟨k, hk, rfl, hsame, hbel⟩ := hrel
      have HS : Hid _ := hsame
      clear hsame
      by_cases hlt : k < n
      · obtain ⟨b, off, rfl, hb, hc⟩ := h.int k (by rw [HN.out.1]; exact hlt)
        obtain ⟨b', off', rfl, hb', hc'⟩ := h'.int k (by rw [HN.out.2]; exact hlt)
        obtain ⟨x, hx⟩ : ∃ x, x = xs[k]'(by rw [HN.out.1]; exact hlt) := ⟨_, rfl⟩
        obtain ⟨y, hy⟩ : ∃ y, y = ys[k]'(by rw [HN.out.2]; exact hlt) := ⟨_, rfl⟩
        rw [← hx] at hc
        rw [← hy] at hc'
        have hX : Hid (xs[k]? = some x ∧ ys[k]? = some y) := ⟨by rw [hx]; exact List.getElem?_eq_getElem _, by rw [hy]; exact List.getElem?_eq_getElem _⟩
        have hcx := (hbel.cell (p := ⟨b, off + k, none⟩) hb).trans hc
        have hcx' := (hbel.cell (p := ⟨b', off' + k, none⟩) hb').trans hc'
        have hlt' : (k : Int) < n := by omega
        clear hc hc' h h' hx hy
        go_wp2_with fail
        go_quiet (fail)
        go_wp2
        · go_ret
          have hne : ¬ x = y := by
            have : (x != y) = true := by assumption
            simpa using this
          refine ⟨ret_bool ?_, below_drewN _ hbel⟩
          symm
          rw [decide_eq_false_iff_not]
          intro e
          subst e
          have := hX.out.1.symm.trans hX.out.2
          simp at this
          exact hne this
        · go_roundw
          case rel =>
            have he : x = y := by
              have : (x != y) = false := by assumption
              simpa using this
            exact ⟨k + 1, by omega, by go_num, fun j hj => by
              by_cases hjk : j = k
              · subst hjk; rw [hX.out.1, hX.out.2, he]
              · exact HS.out j (by omega), below_drewN _ hbel⟩
          case measure => simp [intOf]; omega
      · go_wp2
        go_ret
        refine ⟨ret_bool ?_, hbel⟩
        symm
        rw [decide_eq_true_eq]
        apply List.ext_getElem?
        intro j
        by_cases hj : j < k
        · exact HS.out j hj
        · rw [List.getElem?_eq_none (by rw [HN.out.1]; omega), List.getElem?_eq_none (by rw [HN.out.2]; omega)]
  · have hd : decide (xs = ys) = false := by
      rw [decide_eq_false_iff_not]; intro e; rw [e] at hlen; exact hlen rfl
    have hne : ((xs.length : Int) == ys.length) = false := by simp; omega
    have hne' : ((xs.length : Int) != ys.length) = true := by simp; omega
    rw [hd]
    go_enter Try.func58, Try.ntmps58
    go_wp2
    go_ret
    exact ⟨rfl, Below.refl _ _⟩


def countF (xs : List Int) : Nat := if relValid xs then countN (xs.map Int.toNat) else 0
theorem countF_no {xs : List Int} (h : relValid xs = false) : countF xs = 0 := by simp [countF, h]
theorem countF_yes {us : List Nat} (h : Ok us) : countF (castI us) = countN us := by simp [countF, valid_castI h, toNat_castI]
theorem countF_le (xs : List Int) : countF xs ≤ 256 := by
  unfold countF
  split
  · rename_i h
    obtain ⟨us, rfl, ho⟩ := ok_of_valid h
    rw [toNat_castI]
    exact countN_le ho
  · omega


/-- All pairs of the first relation are in the second one. -/
def withinN (us vs : List Nat) : Bool := decide (unionN us vs = vs)
def withinF (xs ys : List Int) : Bool := fitB xs ys && withinN (xs.map Int.toNat) (ys.map Int.toNat)
theorem withinF_no {xs ys : List Int} (h : fitB xs ys = false) : withinF xs ys = false := by simp [withinF, h]
theorem withinF_yes {us vs : List Nat} (ha : Ok us) (hb : Ok vs) (h : us.length = vs.length) : withinF (castI us) (castI vs) = withinN us vs := by
  simp [withinF, fit_castI ha hb h, toNat_castI]

theorem pop_eq_zero {n x : Nat} (hx : x < 2 ^ n) : popUpto n x = 0 ↔ x = 0 := by
  unfold popUpto
  rw [List.length_eq_zero_iff, List.filter_eq_nil_iff]
  constructor
  · intro h
    apply Nat.eq_of_testBit_eq
    intro j
    rw [Nat.zero_testBit]
    by_cases hj : j < n
    · simpa using h j (by simpa using hj)
    · exact Nat.testBit_lt_two_pow (Nat.lt_of_lt_of_le hx (Nat.pow_le_pow_right (by omega) (by omega)))
  · rintro rfl j _
    simp
theorem minus_zero (x y : Nat) : nMinus x y = 0 ↔ x ||| y = y := by
  constructor
  · intro h
    apply Nat.eq_of_testBit_eq
    intro j
    have := congrArg (·.testBit j) h
    simp only [testBit_nMinus, Nat.zero_testBit] at this
    rw [Nat.testBit_or]
    cases hx : x.testBit j <;> cases hy : y.testBit j <;> simp_all
  · intro h
    apply Nat.eq_of_testBit_eq
    intro j
    have := congrArg (·.testBit j) h
    simp only [Nat.testBit_or] at this
    rw [testBit_nMinus, Nat.zero_testBit]
    cases hx : x.testBit j <;> cases hy : y.testBit j <;> simp_all
theorem sum_eq_zero (l : List Nat) : l.sum = 0 ↔ ∀ x ∈ l, x = 0 := by
  induction l with
  | nil => simp
  | cons a l ih => simp [ih]
theorem ok_zip {f : Nat → Nat → Nat} {us vs : List Nat} (ha : Ok us) (hb : Ok vs) (h : us.length = vs.length) (hf : ∀ x y n : Nat, x < 2 ^ n → y < 2 ^ n → f x y < 2 ^ n) : Ok (List.zipWith f us vs) := by
  have hl : (List.zipWith f us vs).length = us.length := by simp [h]
  refine ⟨by rw [hl]; exact ha.len, ?_⟩
  intro z hz
  rw [hl]
  obtain ⟨j, hj, rfl⟩ := List.mem_iff_getElem.1 hz
  rw [List.getElem_zipWith]
  exact hf _ _ _ (ha.row _ (List.getElem_mem _)) (by rw [h]; exact hb.row _ (List.getElem_mem _))
theorem ok_union {us vs : List Nat} (ha : Ok us) (hb : Ok vs) (h : us.length = vs.length) : Ok (unionN us vs) := ok_zip ha hb h fun _ _ _ hx hy => Nat.or_lt_two_pow hx hy
theorem ok_meet {us vs : List Nat} (ha : Ok us) (hb : Ok vs) (h : us.length = vs.length) : Ok (meetN us vs) := ok_zip ha hb h fun _ _ _ hx hy => Nat.and_lt_two_pow _ hy
theorem ok_minus {us vs : List Nat} (ha : Ok us) (hb : Ok vs) (h : us.length = vs.length) : Ok (minusN us vs) := ok_zip ha hb h fun _ _ _ hx hy => nMinus_le _ _ _ hx
theorem count_minus {us vs : List Nat} (ha : Ok us) (hb : Ok vs) (h : us.length = vs.length) : decide ((countN (minusN us vs) : Int) = 0) = withinN us vs := by
  unfold withinN
  have hl : (minusN us vs).length = us.length := by simp [minusN, h]
  have key : countN (minusN us vs) = 0 ↔ unionN us vs = vs := by
    unfold countN cntUpto
    rw [sum_eq_zero, List.take_of_length_le (Nat.le_refl _)]
    constructor
    · intro hz
      apply List.ext_getElem
      · simp [unionN, h]
      · intro j h1 h2
        have hju : j < us.length := by omega
        have hm : nMinus us[j] vs[j] ∈ minusN us vs := by
          have : (minusN us vs)[j]'(by omega) = nMinus us[j] vs[j] := by simp [minusN]
          rw [← this]; exact List.getElem_mem _
        have := hz _ (List.mem_map_of_mem hm)
        rw [pop_eq_zero ((ok_minus ha hb h).row _ hm), minus_zero] at this
        simpa [unionN] using this
    · intro he x hx
      obtain ⟨z, hz, rfl⟩ := List.mem_map.1 hx
      rw [pop_eq_zero ((ok_minus ha hb h).row _ hz)]
      obtain ⟨j, hj, rfl⟩ := List.mem_iff_getElem.1 hz
      have h1 : j < us.length := by omega
      have h2 : j < vs.length := by omega
      have e1 : (unionN us vs)[j]'(by rw [he]; exact h2) = vs[j] := by simp [he]
      simp only [unionN, List.getElem_zipWith] at e1
      simp only [minusN, List.getElem_zipWith]
      exact (minus_zero _ _).2 e1
  by_cases hc : countN (minusN us vs) = 0
  · rw [decide_eq_true (key.1 hc), hc]; rfl
  · have : ¬ unionN us vs = vs := fun e => hc (key.2 e)
    rw [decide_eq_false this, decide_eq_false_iff_not]
    omega

theorem beq_dec (a b : Int) : (a == b) = decide (a = b) := by rw [Bool.eq_iff_iff]; simp

theorem specWithin_c (w : World) (a a' : Option Addr) (cap cap' : Nat) (xs ys : List Int) (h : Rd w a (ints xs)) (h' : Rd w a' (ints ys)) (hl : xs.length ≤ 1048576) (hl' : ys.length ≤ 1048576) :
    Calls Try.prog 40 #[.slice a xs.length cap, .slice a' ys.length cap'] w fun e w' => e = .returned (.bool (withinF xs ys)) ∧ Below w.heap.size w w' := by
  have C1 := hid (l2Fit_c w a a' cap cap' xs ys h h' hl hl')
  by_cases hfit : fitB xs ys = true
  · rw [hfit] at C1
    obtain ⟨us, vs, rfl, rfl, ha, hb, hlen⟩ := ok_of_fit hfit
    rw [withinF_yes ha hb hlen]
    rw [ints_castI] at h h'
    rw [length_castI, length_castI, ← hlen] at C1 ⊢
    have C2 := hid (fun w h h' => l2Minus_c w a a' cap cap' us vs h h' ha hb hlen.symm)
    have C3 := hid (fun w a cap h => l2Count_c w a cap (minusN us vs) h (ok_minus ha hb hlen))
    have HW := hid (count_minus ha hb hlen)
    have H1 := hid h
    have H2 := hid h'
    clear h h' hfit hlen ha hb hl hl'
    go_enter Try.func40, Try.ntmps40
    go_wp2_with fail
    refine C1.out.mono ?_
    rintro e w1 ⟨rfl, hb1⟩
    go_wp2_with fail
    refine (C2.out _ (H1.out.below hb1) (H2.out.below hb1)).mono ?_
    rintro e w2 ⟨a2, cap2, rfl, hown2, hb2⟩
    go_wp2_with fail
    refine (C3.out _ _ _ (Rd.own hown2)).mono ?_
    rintro e w3 ⟨rfl, rfl⟩
    go_wp2
    go_ret
    refine ⟨ret_bool ?_, hb1.trans (hb2.mono hb1.size)⟩
    rw [← HW.out]
    exact beq_dec _ _
  · have hfit : fitB xs ys = false := by simpa using hfit
    rw [hfit] at C1
    rw [withinF_no hfit]
    clear hfit
    go_enter Try.func40, Try.ntmps40
    go_wp2_with fail
    refine C1.out.mono ?_
    rintro e w1 ⟨rfl, hb1⟩
    go_wp2
    go_ret
    exact ⟨rfl, hb1⟩

theorem castI_inj {us vs : List Nat} : castI us = castI vs ↔ us = vs := by
  constructor
  · intro h
    have := congrArg (List.map Int.toNat) h
    rwa [toNat_castI, toNat_castI] at this
  · rintro rfl; rfl

theorem implWithin_c (w : World) (a a' : Option Addr) (cap cap' : Nat) (xs ys : List Int) (h : Rd w a (ints xs)) (h' : Rd w a' (ints ys)) (hl : xs.length ≤ 1048576) (hl' : ys.length ≤ 1048576) :
    Calls Try.prog 23 #[.slice a xs.length cap, .slice a' ys.length cap'] w fun e w' => e = .returned (.bool (withinF xs ys)) ∧ Below w.heap.size w w' := by
  have C1 := hid (areRels_c w a a' cap cap' xs ys h h' hl hl')
  by_cases hfit : fitB xs ys = true
  · rw [hfit] at C1
    have C2 := hid (fun w h h' => implUnion_c w a a' cap cap' xs ys h h' hl hl')
    have lz : (lift2 unionN xs ys).length ≤ 1048576 := length_lift2 (fun us vs h => by simp [unionN]; omega) _ _
    have C3 := hid (fun w a2 cap2 h2 h' => slicesEqual_c w a2 a' cap2 cap' (lift2 unionN xs ys) ys h2 h' lz hl')
    have HW : Hid (decide (lift2 unionN xs ys = ys) = withinF xs ys) := by
      obtain ⟨us, vs, rfl, rfl, ha, hb, hlen⟩ := ok_of_fit hfit
      rw [withinF_yes ha hb hlen, lift2_yes ha hb hlen]
      exact decide_eq_decide.2 castI_inj
    have H1 := hid h
    have H2 := hid h'
    clear h h' hfit hl hl'
    go_enter Try.func23, Try.ntmps23
    go_wp2_with fail
    refine C1.out.mono ?_
    rintro e w1 ⟨rfl, hb1⟩
    go_wp2_with fail
    refine (C2.out _ (H1.out.below hb1) (H2.out.below hb1)).mono ?_
    rintro e w2 ⟨a2, cap2, rfl, hown2, hb2⟩
    have hb12 := hb1.trans (hb2.mono hb1.size)
    go_wp2_with fail
    refine (C3.out _ _ _ (Rd.own hown2) (H2.out.below hb12)).mono ?_
    rintro e w3 ⟨rfl, hb3⟩
    go_wp2
    go_ret
    exact ⟨ret_bool HW.out, hb12.trans (hb3.mono hb12.size)⟩
  · have hfit : fitB xs ys = false := by simpa using hfit
    rw [hfit] at C1
    rw [withinF_no hfit]
    clear hfit
    go_enter Try.func23, Try.ntmps23
    go_wp2_with fail
    refine C1.out.mono ?_
    rintro e w1 ⟨rfl, hb1⟩
    go_wp2
    go_ret
    exact ⟨rfl, hb1⟩
end Go.Proofs.Ytdppidhnlbfpmaa
