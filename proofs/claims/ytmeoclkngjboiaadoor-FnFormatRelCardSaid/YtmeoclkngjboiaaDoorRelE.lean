/-
  PROVED HERE: what spec.CountRel, WithinRel of both packages and slices.Equal do. CONDITIONS: as each theorem states.
-/
import Derived.Test.YtmeoclkngjboiaaDoorRelD
namespace Go.Proofs.YtmeoclkngjboiaaDoor
open Go.RowKit
set_option linter.unusedVariables false
set_option linter.unusedSimpArgs false

def countF (xs : List Int) : Nat := if relValid xs then countN (xs.map Int.toNat) else 0
theorem countF_no {xs : List Int} (h : relValid xs = false) : countF xs = 0 := by simp [countF, h]
theorem countF_yes {us : List Nat} (h : Ok us) : countF (castI us) = countN us := by simp [countF, valid_castI h, toNat_castI]
theorem countF_le (xs : List Int) : countF xs ≤ 256 := by
  unfold countF
  split
  · rename_i h
    obtain ⟨us, rfl, ho⟩ := ok_of_valid h
    rw [toNat_castI]
    exact countN_le ho
  · omega

theorem specCount_c (w : World) (a : Option Addr) (cap : Nat) (xs : List Int) (h : Rd w a (ints xs)) (hl : xs.length ≤ 1048576) :
    Calls Tryd.prog 25 #[.slice a xs.length cap] w fun e w' => e = .returned (.int .i64 (countF xs : Nat)) ∧ Below w.heap.size w w' := by
  have C1 := hid (relValidS_c w a cap xs h hl)
  by_cases hv : relValid xs = true
  · rw [hv] at C1
    obtain ⟨us, rfl, ho⟩ := ok_of_valid hv
    rw [countF_yes ho]
    rw [ints_castI] at h
    rw [length_castI] at C1 ⊢
    have C2 := hid (fun w h => l2Count_c w a cap us h ho)
    have H1 := hid h
    clear h hv hl ho
    go_enter Tryd.func25, Tryd.ntmps25
    go_wp2_with fail
    refine C1.out.mono ?_
    rintro e w1 ⟨rfl, hb1⟩
    go_wp2_with fail
    refine (C2.out _ (H1.out.below hb1)).mono ?_
    rintro e w2 ⟨rfl, rfl⟩
    go_wp2
    go_ret
    exact ⟨rfl, hb1⟩
  · have hv : relValid xs = false := by simpa using hv
    rw [hv] at C1
    rw [countF_no hv]
    clear hv
    go_enter Tryd.func25, Tryd.ntmps25
    go_wp2_with fail
    refine C1.out.mono ?_
    rintro e w1 ⟨rfl, hb1⟩
    go_wp2
    go_ret
    exact ⟨rfl, hb1⟩

/-- All pairs of the first relation are in the second one. -/
def withinN (us vs : List Nat) : Bool := decide (unionN us vs = vs)
def withinF (xs ys : List Int) : Bool := fitB xs ys && withinN (xs.map Int.toNat) (ys.map Int.toNat)
theorem withinF_no {xs ys : List Int} (h : fitB xs ys = false) : withinF xs ys = false := by simp [withinF, h]
theorem withinF_yes {us vs : List Nat} (ha : Ok us) (hb : Ok vs) (h : us.length = vs.length) : withinF (castI us) (castI vs) = withinN us vs := by
  simp [withinF, fit_castI ha hb h, toNat_castI]

theorem pop_eq_zero {n x : Nat} (hx : x < 2 ^ n) : popUpto n x = 0 ↔ x = 0 := by
  unfold popUpto
  rw [List.length_eq_zero_iff, List.filter_eq_nil_iff]
  constructor
  · intro h
    apply Nat.eq_of_testBit_eq
    intro j
    rw [Nat.zero_testBit]
    by_cases hj : j < n
    · simpa using h j (by simpa using hj)
    · exact Nat.testBit_lt_two_pow (Nat.lt_of_lt_of_le hx (Nat.pow_le_pow_right (by omega) (by omega)))
  · rintro rfl j _
    simp
theorem minus_zero (x y : Nat) : nMinus x y = 0 ↔ x ||| y = y := by
  constructor
  · intro h
    apply Nat.eq_of_testBit_eq
    intro j
    have := congrArg (·.testBit j) h
    simp only [testBit_nMinus, Nat.zero_testBit] at this
    rw [Nat.testBit_or]
    cases hx : x.testBit j <;> cases hy : y.testBit j <;> simp_all
  · intro h
    apply Nat.eq_of_testBit_eq
    intro j
    have := congrArg (·.testBit j) h
    simp only [Nat.testBit_or] at this
    rw [testBit_nMinus, Nat.zero_testBit]
    cases hx : x.testBit j <;> cases hy : y.testBit j <;> simp_all
theorem sum_eq_zero (l : List Nat) : l.sum = 0 ↔ ∀ x ∈ l, x = 0 := by
  induction l with
  | nil => simp
  | cons a l ih => simp [ih]
theorem ok_zip {f : Nat → Nat → Nat} {us vs : List Nat} (ha : Ok us) (hb : Ok vs) (h : us.length = vs.length) (hf : ∀ x y n : Nat, x < 2 ^ n → y < 2 ^ n → f x y < 2 ^ n) : Ok (List.zipWith f us vs) := by
  have hl : (List.zipWith f us vs).length = us.length := by simp [h]
  refine ⟨by rw [hl]; exact ha.len, ?_⟩
  intro z hz
  rw [hl]
  obtain ⟨j, hj, rfl⟩ := List.mem_iff_getElem.1 hz
  rw [List.getElem_zipWith]
  exact hf _ _ _ (ha.row _ (List.getElem_mem _)) (by rw [h]; exact hb.row _ (List.getElem_mem _))
theorem ok_union {us vs : List Nat} (ha : Ok us) (hb : Ok vs) (h : us.length = vs.length) : Ok (unionN us vs) := ok_zip ha hb h fun _ _ _ hx hy => Nat.or_lt_two_pow hx hy
theorem ok_meet {us vs : List Nat} (ha : Ok us) (hb : Ok vs) (h : us.length = vs.length) : Ok (meetN us vs) := ok_zip ha hb h fun _ _ _ hx hy => Nat.and_lt_two_pow _ hy
theorem ok_minus {us vs : List Nat} (ha : Ok us) (hb : Ok vs) (h : us.length = vs.length) : Ok (minusN us vs) := ok_zip ha hb h fun _ _ _ hx hy => nMinus_le _ _ _ hx
theorem count_minus {us vs : List Nat} (ha : Ok us) (hb : Ok vs) (h : us.length = vs.length) : decide ((countN (minusN us vs) : Int) = 0) = withinN us vs := by
  unfold withinN
  have hl : (minusN us vs).length = us.length := by simp [minusN, h]
  have key : countN (minusN us vs) = 0 ↔ unionN us vs = vs := by
    unfold countN cntUpto
    rw [sum_eq_zero, List.take_of_length_le (Nat.le_refl _)]
    constructor
    · intro hz
      apply List.ext_getElem
      · simp [unionN, h]
      · intro j h1 h2
        have hju : j < us.length := by omega
        have hm : nMinus us[j] vs[j] ∈ minusN us vs := by
          have : (minusN us vs)[j]'(by omega) = nMinus us[j] vs[j] := by simp [minusN]
          rw [← this]; exact List.getElem_mem _
        have := hz _ (List.mem_map_of_mem hm)
        rw [pop_eq_zero ((ok_minus ha hb h).row _ hm), minus_zero] at this
        simpa [unionN] using this
    · intro he x hx
      obtain ⟨z, hz, rfl⟩ := List.mem_map.1 hx
      rw [pop_eq_zero ((ok_minus ha hb h).row _ hz)]
      obtain ⟨j, hj, rfl⟩ := List.mem_iff_getElem.1 hz
      have h1 : j < us.length := by omega
      have h2 : j < vs.length := by omega
      have e1 : (unionN us vs)[j]'(by rw [he]; exact h2) = vs[j] := by simp [he]
      simp only [unionN, List.getElem_zipWith] at e1
      simp only [minusN, List.getElem_zipWith]
      exact (minus_zero _ _).2 e1
  by_cases hc : countN (minusN us vs) = 0
  · rw [decide_eq_true (key.1 hc), hc]; rfl
  · have : ¬ unionN us vs = vs := fun e => hc (key.2 e)
    rw [decide_eq_false this, decide_eq_false_iff_not]
    omega

theorem beq_dec (a b : Int) : (a == b) = decide (a = b) := by rw [Bool.eq_iff_iff]; simp

theorem castI_inj {us vs : List Nat} : castI us = castI vs ↔ us = vs := by
  constructor
  · intro h
    have := congrArg (List.map Int.toNat) h
    rwa [toNat_castI, toNat_castI] at this
  · rintro rfl; rfl

end Go.Proofs.YtmeoclkngjboiaaDoor
