/-
  PROVED HERE: the laws of relations, at lists of numbers as the functions of both packages take them. CONDITIONS: as each theorem states.
-/
import Derived.Test.YtdppidhnlbfpmaaBits
import Derived.Test.YtdppidhnlbfpmaaRelE
namespace Go.Proofs.Ytdppidhnlbfpmaa
set_option linter.unusedVariables false
set_option linter.unusedSimpArgs false

theorem l2 {f : List Nat → List Nat → List Nat} {us vs : List Nat} (T : Two us vs) : lift2 f (castI us) (castI vs) = castI (f us vs) := lift2_yes T.a T.b T.len
theorem l1 {f : List Nat → List Nat} {us : List Nat} (h : Ok us) : lift1 f (castI us) = castI (f us) := lift1_yes h
theorem two_of {xs ys : List Int} (h : fitB xs ys = true) : ∃ us vs, xs = castI us ∧ ys = castI vs ∧ Two us vs := by
  obtain ⟨us, vs, rfl, rfl, hu, hv, hl⟩ := ok_of_fit h
  exact ⟨us, vs, rfl, rfl, hu, hv, hl⟩
theorem fit_two {us vs : List Nat} (T : Two us vs) : fitB (castI us) (castI vs) = true := fit_castI T.a T.b T.len
theorem fit_mk {xs ys : List Int} (h1 : relValid xs = true) (h2 : relValid ys = true) (h3 : xs.length = ys.length) : fitB xs ys = true := by simp [fitB, h1, h2, h3]
theorem fit_no1 {xs ys : List Int} (h1 : relValid xs = false) : fitB xs ys = false := by simp [fitB, h1]
theorem fit_no2 {xs ys : List Int} (h1 : relValid ys = false) : fitB xs ys = false := by simp [fitB, h1]
theorem fit_no3 {xs ys : List Int} (h1 : xs.length ≠ ys.length) : fitB xs ys = false := by simp [fitB, h1]
theorem w2 {us vs : List Nat} (T : Two us vs) : withinF (castI us) (castI vs) = withinN us vs := withinF_yes T.a T.b T.len
theorem valid_nil : relValid [] = true := rfl
theorem lift2_nil (f : List Nat → List Nat → List Nat) (hf : f [] [] = []) : lift2 f [] [] = [] := by simp [lift2, hf, fitB, relValid, castI]

theorem union_comm {xs ys : List Int} (h : fitB xs ys = true) : lift2 unionN ys xs = lift2 unionN xs ys := by
  obtain ⟨us, vs, rfl, rfl, T⟩ := two_of h
  rw [l2 T, l2 T.swap]
  congr 1
  exact rel_same ⟨T.swap.union.a, T.union.a, by rw [length_union T.swap.len, length_union T.len, T.len]⟩ fun i k => by rw [bit_union T.swap.len, bit_union T.len, Bool.or_comm]
theorem meet_comm {xs ys : List Int} (h : fitB xs ys = true) : lift2 meetN ys xs = lift2 meetN xs ys := by
  obtain ⟨us, vs, rfl, rfl, T⟩ := two_of h
  rw [l2 T, l2 T.swap]
  congr 1
  exact rel_same ⟨T.swap.meet.a, T.meet.a, by rw [length_meet T.swap.len, length_meet T.len, T.len]⟩ fun i k => by rw [bit_meet T.swap.len, bit_meet T.len, Bool.and_comm]
theorem union_split {xs ys : List Int} (h : fitB xs ys = true) : lift2 unionN (lift2 meetN xs ys) (lift2 minusN xs ys) = xs := by
  obtain ⟨us, vs, rfl, rfl, T⟩ := two_of h
  have T2 := T.meet.trans T.minus.swap
  rw [l2 T, l2 T, l2 T2]
  congr 1
  refine rel_same (T2.union.trans T.meet) fun i k => ?_
  rw [bit_union T2.len, bit_meet T.len, bit_minus T.len]
  cases bit us i k <;> cases bit vs i k <;> simp
theorem count_split {xs ys : List Int} (h : fitB xs ys = true) : countF (lift2 unionN xs ys) + countF (lift2 meetN xs ys) = countF xs + countF ys := by
  obtain ⟨us, vs, rfl, rfl, T⟩ := two_of h
  rw [l2 T, l2 T, countF_yes T.union.a, countF_yes T.meet.a, countF_yes T.a, countF_yes T.b]
  exact count_add T
theorem meet_within_union {xs ys : List Int} (h : fitB xs ys = true) : withinF (lift2 meetN xs ys) (lift2 unionN xs ys) = true := by
  obtain ⟨us, vs, rfl, rfl, T⟩ := two_of h
  have T2 := T.meet.trans T.union.swap
  rw [l2 T, l2 T, w2 T2, within_iff T2]
  intro i k hb
  rw [bit_meet T.len, Bool.and_eq_true] at hb
  rw [bit_union T.len, hb.1, Bool.true_or]
theorem meet_within {xs ys : List Int} (hv : relValid xs = true) (hl : (lift2 meetN xs ys).length = xs.length) : withinF (lift2 meetN xs ys) xs = true := by
  by_cases h : fitB xs ys = true
  · obtain ⟨us, vs, rfl, rfl, T⟩ := two_of h
    rw [l2 T, w2 T.meet, within_iff T.meet]
    intro i k hb
    rw [bit_meet T.len, Bool.and_eq_true] at hb
    exact hb.1
  · rw [lift2_no (by simpa using h)] at hl ⊢
    have : xs = [] := List.eq_nil_of_length_eq_zero hl.symm
    subst this
    rfl
theorem sym_fit {xs : List Int} (h : relValid xs = true) : fitB xs (lift1 inverseN xs) = true := by
  obtain ⟨us, rfl, hu⟩ := ok_of_valid h
  rw [l1 hu]
  exact fit_two (Two.inverse hu).swap
theorem sym_inverse {xs : List Int} (h : relValid xs = true) : lift1 inverseN (lift2 meetN xs (lift1 inverseN xs)) = lift2 meetN xs (lift1 inverseN xs) := by
  obtain ⟨us, rfl, hu⟩ := ok_of_valid h
  have T := (Two.inverse hu).swap
  rw [l1 hu, l2 T, l1 T.meet.a]
  congr 1
  refine rel_same (Two.inverse T.meet.a) fun i k => ?_
  rw [bit_inverse T.meet.a, bit_meet T.len, bit_meet T.len, bit_inverse hu, bit_inverse hu, Bool.and_comm]
theorem sym_within {xs : List Int} (h : relValid xs = true) : withinF (lift2 meetN xs (lift1 inverseN xs)) xs = true := by
  refine meet_within h ?_
  obtain ⟨us, rfl, hu⟩ := ok_of_valid h
  have T := (Two.inverse hu).swap
  rw [l1 hu, l2 T, length_castI, length_castI, length_meet T.len]

theorem compose_assoc {xs ys zs : List Int} (h : fitB xs ys = true) (h' : fitB xs zs = true) : lift2 composeN (lift2 composeN xs ys) zs = lift2 composeN xs (lift2 composeN ys zs) := by
  obtain ⟨us, vs, rfl, rfl, T⟩ := two_of h
  obtain ⟨us', ws, e, rfl, T'⟩ := two_of h'
  obtain rfl : us = us' := by
    have := congrArg (List.map Int.toNat) e
    rwa [toNat_castI, toNat_castI] at this
  have T3 := T.swap.trans T'
  have T1 := T.compose.trans T'
  have T2 := T.trans T3.compose.swap
  rw [l2 T, l2 T1, l2 T3, l2 T2]
  congr 1
  refine rel_same (T1.compose.trans (T.compose.trans T2.compose.swap)) fun i k => ?_
  rw [bit_compose T1, bit_compose T2]
  constructor
  · rintro ⟨m, h1, h2⟩
    obtain ⟨j, h3, h4⟩ := (bit_compose T i m).1 h1
    exact ⟨j, h3, (bit_compose T3 j k).2 ⟨m, h4, h2⟩⟩
  · rintro ⟨j, h1, h2⟩
    obtain ⟨m, h3, h4⟩ := (bit_compose T3 j k).1 h2
    exact ⟨m, (bit_compose T i m).2 ⟨j, h1, h3⟩, h4⟩
theorem compose_inverse {xs ys : List Int} (h : fitB xs ys = true) : lift1 inverseN (lift2 composeN xs ys) = lift2 composeN (lift1 inverseN ys) (lift1 inverseN xs) := by
  obtain ⟨us, vs, rfl, rfl, T⟩ := two_of h
  have T1 := ((Two.inverse T.b).trans T.swap).trans (Two.inverse T.a).swap
  rw [l2 T, l1 T.compose.a, l1 T.a, l1 T.b, l2 T1]
  congr 1
  refine rel_same (((Two.inverse T.compose.a).trans T.compose).trans ((T.trans (Two.inverse T.b).swap).trans T1.compose.swap)) fun i k => ?_
  rw [bit_inverse T.compose.a, bit_compose T, bit_compose T1]
  simp only [bit_inverse T.a, bit_inverse T.b]
  constructor <;> rintro ⟨m, h1, h2⟩ <;> exact ⟨m, h2, h1⟩
theorem compose_union {xs ys zs : List Int} (h : fitB xs ys = true) (h' : fitB xs zs = true) : lift2 composeN (lift2 unionN xs zs) ys = lift2 unionN (lift2 composeN xs ys) (lift2 composeN zs ys) := by
  obtain ⟨us, vs, rfl, rfl, T⟩ := two_of h
  obtain ⟨us', ws, e, rfl, T'⟩ := two_of h'
  obtain rfl : us = us' := by
    have := congrArg (List.map Int.toNat) e
    rwa [toNat_castI, toNat_castI] at this
  have T1 := T'.union.trans T
  have T2 := T'.swap.trans T
  have T3 := T.compose.trans (T'.trans T2.compose.swap)
  rw [l2 T', l2 T1, l2 T, l2 T2, l2 T3]
  congr 1
  refine rel_same ((T1.compose.trans T'.union).trans (T.compose.swap.trans T3.union.swap)) fun i k => ?_
  rw [bit_compose T1, bit_union T3.len, Bool.or_eq_true, bit_compose T, bit_compose T2]
  simp only [bit_union T'.len, Bool.or_eq_true]
  constructor
  · rintro ⟨m, h1 | h1, h2⟩
    · exact .inl ⟨m, h1, h2⟩
    · exact .inr ⟨m, h1, h2⟩
  · rintro (⟨m, h1, h2⟩ | ⟨m, h1, h2⟩)
    · exact ⟨m, .inl h1, h2⟩
    · exact ⟨m, .inr h1, h2⟩

theorem closure_within {xs : List Int} (h : relValid xs = true) : withinF xs (lift1 closureN xs) = true := by
  obtain ⟨us, rfl, hu⟩ := ok_of_valid h
  have T := (Two.closure hu).swap
  rw [l1 hu, w2 T, within_iff T]
  exact closure_sub hu
theorem closure_square {xs : List Int} (h : relValid xs = true) : withinF (lift2 composeN (lift1 closureN xs) (lift1 closureN xs)) (lift1 closureN xs) = true := by
  obtain ⟨us, rfl, hu⟩ := ok_of_valid h
  have T := Two.refl (ok_closure hu)
  rw [l1 hu, l2 T, w2 T.compose, within_iff T.compose]
  intro i k hb
  obtain ⟨m, h1, h2⟩ := (bit_compose T i k).1 hb
  exact closure_trans hu _ _ _ h1 h2
theorem closure_twice {xs : List Int} (h : relValid xs = true) : lift1 closureN (lift1 closureN xs) = lift1 closureN xs := by
  obtain ⟨us, rfl, hu⟩ := ok_of_valid h
  rw [l1 hu, l1 (ok_closure hu), closure_idem hu]
theorem length_closure {xs : List Int} (h : relValid xs = true) : (lift1 closureN xs).length = xs.length := by
  obtain ⟨us, rfl, hu⟩ := ok_of_valid h
  rw [l1 hu, length_castI, length_castI, length_closureN]
theorem closure_union_within {xs ys : List Int} (h : relValid xs = true) (hl : (lift1 closureN (lift2 unionN xs ys)).length = xs.length) : withinF (lift1 closureN xs) (lift1 closureN (lift2 unionN xs ys)) = true := by
  by_cases hf : fitB xs ys = true
  · obtain ⟨us, vs, rfl, rfl, T⟩ := two_of hf
    have T1 := ((Two.closure T.a).trans T.union.swap).trans (Two.closure T.union.a).swap
    rw [l2 T, l1 T.a, l1 T.union.a, w2 T1, within_iff T1]
    exact closure_mono T.a T.union.a fun i k hb => by rw [bit_union T.len, hb, Bool.true_or]
  · rw [lift2_no (by simpa using hf)] at hl ⊢
    have e : lift1 closureN ([] : List Int) = [] := rfl
    rw [e] at hl ⊢
    have : xs = [] := List.eq_nil_of_length_eq_zero hl.symm
    subst this
    rfl
theorem closure_fixed {xs : List Int} (h : relValid xs = true) : lift2 unionN xs (lift2 composeN xs (lift1 closureN xs)) = lift1 closureN xs := by
  obtain ⟨us, rfl, hu⟩ := ok_of_valid h
  have hc := ok_closure hu
  have T := (Two.closure hu).swap
  have T1 := T.compose.swap
  rw [l1 hu, l2 T, l2 T1]
  congr 1
  refine rel_eq (T1.union.trans T) ?_ ?_
  · intro i k hb
    rw [bit_union T1.len, Bool.or_eq_true, bit_compose T] at hb
    rcases hb with hb | ⟨m, h1, h2⟩
    · exact closure_sub hu _ _ hb
    · exact closure_trans hu _ _ _ (closure_sub hu _ _ h1) h2
  · have hb : ∀ i k, bit (unionN us (composeN us (closureN us))) i k = true ↔ bit us i k = true ∨ ∃ m, bit us i m = true ∧ bit (closureN us) m k = true := by
      intro i k
      rw [bit_union T1.len, Bool.or_eq_true, bit_compose T]
    refine closure_least hu (fun i k h => (hb i k).2 (.inl h)) ?_
    intro i j k h1 h2
    rw [hb] at h1 h2 ⊢
    have hjk : bit (closureN us) j k = true := by
      rcases h2 with h2 | ⟨m, h2, h3⟩
      · exact closure_sub hu _ _ h2
      · exact closure_trans hu _ _ _ (closure_sub hu _ _ h2) h3
    rcases h1 with h1 | ⟨m, h1, h3⟩
    · exact .inr ⟨j, h1, hjk⟩
    · exact .inr ⟨m, h1, closure_trans hu _ _ _ h3 hjk⟩

theorem acyclic_mono {us vs : List Nat} (hu : Ok us) (hv : Ok vs) (h : Sub us vs) (ha : acyclicN vs = true) : acyclicN us = true := by
  rw [acyclic_iff] at ha ⊢
  intro i
  cases e : bit (closureN us) i i with
  | false => rfl
  | true => rw [← ha i]; exact (closure_mono hu hv h i i e).symm
theorem acyclic_closure {xs : List Int} (h : relValid xs = true) : acyclicF (lift1 closureN xs) = acyclicF xs := by
  obtain ⟨us, rfl, hu⟩ := ok_of_valid h
  rw [l1 hu, acyclicF_yes hu, acyclicF_yes (ok_closure hu)]
  unfold acyclicN
  rw [closure_idem hu]
theorem acyclic_inverse {xs : List Int} (h : relValid xs = true) : acyclicF (lift1 inverseN xs) = acyclicF xs := by
  obtain ⟨us, rfl, hu⟩ := ok_of_valid h
  rw [l1 hu, acyclicF_yes hu, acyclicF_yes (ok_inverse hu), Bool.eq_iff_iff, acyclic_iff, acyclic_iff, closure_inverse hu]
  simp only [bit_inverse (ok_closure hu)]
theorem acyclic_meet {xs ys : List Int} (h : relValid xs = true) (ha : acyclicF xs = true) (hl : (lift2 meetN xs ys).length = xs.length) : acyclicF (lift2 meetN xs ys) = true := by
  by_cases hf : fitB xs ys = true
  · obtain ⟨us, vs, rfl, rfl, T⟩ := two_of hf
    rw [acyclicF_yes T.a] at ha
    rw [l2 T, acyclicF_yes T.meet.a]
    refine acyclic_mono T.meet.a T.a ?_ ha
    intro i k hb
    rw [bit_meet T.len, Bool.and_eq_true] at hb
    exact hb.1
  · rw [lift2_no (by simpa using hf)]
    rfl
theorem acyclic_union {xs ys : List Int} (hf : fitB xs ys = true) (ha : acyclicF (lift2 unionN xs ys) = true) : acyclicF xs = true ∧ acyclicF ys = true := by
  obtain ⟨us, vs, rfl, rfl, T⟩ := two_of hf
  rw [l2 T, acyclicF_yes T.union.a] at ha
  rw [acyclicF_yes T.a, acyclicF_yes T.b]
  exact ⟨acyclic_mono T.a T.union.a (fun i k hb => by rw [bit_union T.len, hb, Bool.true_or]) ha, acyclic_mono T.b T.union.a (fun i k hb => by rw [bit_union T.len, hb, Bool.or_true]) ha⟩

theorem minus_count {xs ys : List Int} (h : fitB xs ys = true) : countF (lift2 meetN (lift2 minusN xs ys) ys) = 0 := by
  obtain ⟨us, vs, rfl, rfl, T⟩ := two_of h
  have T1 := T.minus.trans T
  rw [l2 T, l2 T1, countF_yes T1.meet.a]
  refine count_none fun i k => ?_
  rw [bit_meet T1.len, bit_minus T.len]
  cases bit us i k <;> cases bit vs i k <;> rfl
theorem minus_union {xs ys : List Int} (h : fitB xs ys = true) : lift2 unionN (lift2 minusN xs ys) ys = lift2 unionN xs ys := by
  obtain ⟨us, vs, rfl, rfl, T⟩ := two_of h
  have T1 := T.minus.trans T
  rw [l2 T, l2 T1, l2 T]
  congr 1
  refine rel_same ((T1.union.trans T.minus).trans T.union.swap) fun i k => ?_
  rw [bit_union T1.len, bit_union T.len, bit_minus T.len]
  cases bit us i k <;> cases bit vs i k <;> simp
theorem minus_within {xs ys : List Int} (h : fitB xs ys = true) : withinF (lift2 minusN xs ys) xs = true := by
  obtain ⟨us, vs, rfl, rfl, T⟩ := two_of h
  rw [l2 T, w2 T.minus, within_iff T.minus]
  intro i k hb
  rw [bit_minus T.len, Bool.and_eq_true] at hb
  exact hb.1

theorem inverse_twice {xs : List Int} (h : relValid xs = true) : lift1 inverseN (lift1 inverseN xs) = xs := by
  obtain ⟨us, rfl, hu⟩ := ok_of_valid h
  rw [l1 hu, l1 (ok_inverse hu)]
  congr 1
  refine rel_same ((Two.inverse (ok_inverse hu)).trans (Two.inverse hu)) fun i k => ?_
  rw [bit_inverse (ok_inverse hu), bit_inverse hu]
theorem inverse_count {xs : List Int} (h : relValid xs = true) : countF (lift1 inverseN xs) = countF xs := by
  obtain ⟨us, rfl, hu⟩ := ok_of_valid h
  rw [l1 hu, countF_yes hu, countF_yes (ok_inverse hu), count_inverse hu]
theorem inverse_closure {xs : List Int} (h : relValid xs = true) : lift1 closureN (lift1 inverseN xs) = lift1 inverseN (lift1 closureN xs) := by
  obtain ⟨us, rfl, hu⟩ := ok_of_valid h
  rw [l1 hu, l1 hu, l1 (ok_inverse hu), l1 (ok_closure hu), closure_inverse hu]

theorem within_self (xs : List Int) : withinF xs xs = relValid xs := by
  by_cases h : relValid xs = true
  · obtain ⟨us, rfl, hu⟩ := ok_of_valid h
    rw [w2 (Two.refl hu), h, within_iff (Two.refl hu)]
    exact fun _ _ h => h
  · have h : relValid xs = false := by simpa using h
    rw [h, withinF_no (fit_no1 h)]
theorem within_fit {xs ys : List Int} (h : withinF xs ys = true) : fitB xs ys = true := by
  cases hf : fitB xs ys with
  | true => rfl
  | false => rw [withinF_no hf] at h; cases h
theorem within_count {xs ys : List Int} (h : withinF xs ys = true) : countF xs ≤ countF ys := by
  obtain ⟨us, vs, rfl, rfl, T⟩ := two_of (within_fit h)
  rw [w2 T, within_iff T] at h
  rw [countF_yes T.a, countF_yes T.b]
  exact count_sub T h
theorem within_back {xs ys : List Int} (h : withinF xs ys = true) : withinF ys xs = decide (xs = ys) := by
  obtain ⟨us, vs, rfl, rfl, T⟩ := two_of (within_fit h)
  rw [w2 T, within_iff T] at h
  rw [w2 T.swap, Bool.eq_iff_iff, within_iff T.swap, decide_eq_true_iff]
  constructor
  · intro h'
    rw [rel_eq T h h']
  · intro e
    obtain rfl := castI_inj.1 e
    exact fun _ _ h => h
theorem within_union {xs ys : List Int} (h : withinF xs ys = true) : lift2 unionN xs ys = ys := by
  obtain ⟨us, vs, rfl, rfl, T⟩ := two_of (within_fit h)
  rw [w2 T, within_iff T] at h
  rw [l2 T]
  congr 1
  refine rel_same (T.union.trans T) fun i k => ?_
  rw [bit_union T.len, Bool.or_eq_true]
  constructor
  · rintro (hb | hb)
    · exact h i k hb
    · exact hb
  · exact .inr
end Go.Proofs.Ytdppidhnlbfpmaa
