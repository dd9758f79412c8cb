/-
  PROVED HERE: the laws of relations as sets of pairs: union, meet, difference, composition, inverse, closure, counts. CONDITIONS: as each theorem states.
-/
import Derived.Test.YtdppidhnlbfpmaaRelJ
namespace Go.Proofs.Ytdppidhnlbfpmaa
set_option linter.unusedVariables false
set_option linter.unusedSimpArgs false

/-- Two lists are relations over the same elements. -/
structure Two (us vs : List Nat) : Prop where
  a : Ok us
  b : Ok vs
  len : us.length = vs.length
theorem Two.swap {us vs : List Nat} (h : Two us vs) : Two vs us := ⟨h.b, h.a, h.len.symm⟩
theorem Two.refl {us : List Nat} (h : Ok us) : Two us us := ⟨h, h, rfl⟩

theorem length_union {us vs : List Nat} (h : us.length = vs.length) : (unionN us vs).length = us.length := by simp [unionN, h]
theorem length_meet {us vs : List Nat} (h : us.length = vs.length) : (meetN us vs).length = us.length := by simp [meetN, h]
theorem length_minus {us vs : List Nat} (h : us.length = vs.length) : (minusN us vs).length = us.length := by simp [minusN, h]
theorem length_inverse (us : List Nat) : (inverseN us).length = us.length := length_ofBits _ _
theorem ok_inverse {us : List Nat} (h : Ok us) : Ok (inverseN us) := ok_ofBits h.len _
theorem ok_compose {us : List Nat} (h : Ok us) (vs : List Nat) : Ok (composeN us vs) := ok_ofBits h.len _

theorem bit_zip (f : Nat → Nat → Nat) (g : Bool → Bool → Bool) (hg : g false false = false) (hf : ∀ x y k, (f x y).testBit k = g (x.testBit k) (y.testBit k)) {us vs : List Nat} (h : us.length = vs.length) (i k : Nat) :
    bit (List.zipWith f us vs) i k = g (bit us i k) (bit vs i k) := by
  by_cases hi : i < us.length
  · have h1 : us[i]? = some us[i] := List.getElem?_eq_getElem hi
    have h2 : vs[i]? = some (vs[i]'(by omega)) := List.getElem?_eq_getElem (by omega)
    rw [bit_at (zip_at h1 h2), bit_at h1, bit_at h2, hf]
  · rw [bit_out (by simp; omega), bit_out (by omega), bit_out (by omega), hg]
theorem bit_union {us vs : List Nat} (h : us.length = vs.length) (i k : Nat) : bit (unionN us vs) i k = (bit us i k || bit vs i k) :=
  bit_zip _ (· || ·) rfl (fun _ _ _ => Nat.testBit_or ..) h i k
theorem bit_meet {us vs : List Nat} (h : us.length = vs.length) (i k : Nat) : bit (meetN us vs) i k = (bit us i k && bit vs i k) :=
  bit_zip _ (· && ·) rfl (fun _ _ _ => Nat.testBit_and ..) h i k
theorem bit_minus {us vs : List Nat} (h : us.length = vs.length) (i k : Nat) : bit (minusN us vs) i k = (bit us i k && !bit vs i k) :=
  bit_zip _ (fun x y => x && !y) rfl (fun _ _ _ => testBit_nMinus ..) h i k
theorem bit_inverse {us : List Nat} (h : Ok us) (i k : Nat) : bit (inverseN us) i k = bit us k i := by
  by_cases hi : i < us.length
  · by_cases hk : k < us.length
    · exact bit_ofBits _ hi hk
    · rw [bit_out (by omega : us.length ≤ k), Bool.eq_false_iff]
      intro hb
      have := ((ok_inverse h).bit_lt hb).2
      rw [length_inverse] at this
      omega
  · rw [bit_out (by rw [length_inverse]; omega)]
    symm
    rw [Bool.eq_false_iff]
    intro hb
    exact hi (h.bit_lt hb).2
theorem bit_compose {us vs : List Nat} (h : Two us vs) (i k : Nat) : bit (composeN us vs) i k = true ↔ ∃ m, bit us i m = true ∧ bit vs m k = true := by
  constructor
  · intro hb
    obtain ⟨hi, hk⟩ := (ok_compose h.a vs).bit_lt hb
    rw [length_composeN] at hi hk
    unfold composeN at hb
    rw [bit_ofBits _ hi hk] at hb
    simp only [midB, List.any_eq_true, List.mem_range, Bool.and_eq_true] at hb
    obtain ⟨m, _, hm⟩ := hb
    exact ⟨m, hm⟩
  · rintro ⟨m, h1, h2⟩
    have hi := (h.a.bit_lt h1).1
    have hm := (h.a.bit_lt h1).2
    have hk := (h.b.bit_lt h2).2
    unfold composeN
    rw [bit_ofBits _ hi (by have := h.len; omega)]
    simp only [midB, List.any_eq_true, List.mem_range, Bool.and_eq_true]
    exact ⟨m, hm, h1, h2⟩

/-- One relation is part of the other. -/
def Sub (us vs : List Nat) : Prop := ∀ i k, bit us i k = true → bit vs i k = true
theorem rel_eq {us vs : List Nat} (h : Two us vs) (h1 : Sub us vs) (h2 : Sub vs us) : us = vs :=
  rel_ext h.a h.b h.len fun i k _ _ => by
    cases e : bit us i k with
    | true => exact (h1 i k e).symm
    | false =>
      cases e' : bit vs i k with
      | false => rfl
      | true => rw [h2 i k e'] at e; cases e
theorem rel_same {us vs : List Nat} (h : Two us vs) (h1 : ∀ i k, bit us i k = true ↔ bit vs i k = true) : us = vs := rel_eq h (fun i k => (h1 i k).1) (fun i k => (h1 i k).2)

theorem Two.union {us vs : List Nat} (h : Two us vs) : Two (unionN us vs) us := ⟨ok_union h.a h.b h.len, h.a, length_union h.len⟩
theorem Two.meet {us vs : List Nat} (h : Two us vs) : Two (meetN us vs) us := ⟨ok_meet h.a h.b h.len, h.a, length_meet h.len⟩
theorem Two.minus {us vs : List Nat} (h : Two us vs) : Two (minusN us vs) us := ⟨ok_minus h.a h.b h.len, h.a, length_minus h.len⟩
theorem Two.compose {us vs : List Nat} (h : Two us vs) : Two (composeN us vs) us := ⟨ok_compose h.a vs, h.a, length_composeN us vs⟩
theorem Two.inverse {us : List Nat} (h : Ok us) : Two (inverseN us) us := ⟨ok_inverse h, h, length_inverse us⟩
theorem Two.closure {us : List Nat} (h : Ok us) : Two (closureN us) us := ⟨ok_closure h, h, length_closureN us⟩
theorem Two.trans {us vs ws : List Nat} (h : Two us vs) (h' : Two vs ws) : Two us ws := ⟨h.a, h'.b, h.len.trans h'.len⟩

theorem within_iff {us vs : List Nat} (h : Two us vs) : withinN us vs = true ↔ Sub us vs := by
  unfold withinN
  rw [decide_eq_true_iff]
  constructor
  · intro e i k hb
    rw [← e, bit_union h.len, hb]
    rfl
  · intro hs
    refine rel_same (h.union.trans h) fun i k => ?_
    rw [bit_union h.len]
    constructor
    · intro hb
      rcases Bool.or_eq_true _ _ ▸ hb with hb | hb
      · exact hs i k hb
      · exact hb
    · intro hb
      rw [hb, Bool.or_true]

/-! Closure. -/
theorem bit_wStep {rs : List Nat} (m i a k : Nat) (hi : i < rs.length) : bit (wStep m rs i) a k = (bit rs a k || (decide (a = i) && bit rs i m && bit rs m k)) := by
  unfold wStep
  split
  · rename_i hb
    rw [bit_set hi]
    split
    · rename_i e
      subst e
      simp [bit, Nat.testBit_or] at hb ⊢
      rw [hb, Bool.true_and]
    · rename_i e
      simp [e]
  · rename_i hb
    have hb : bit rs i m = false := by simpa using hb
    rw [hb]
    simp
theorem bit_cloRow (m : Nat) (rs : List Nat) (k : Nat) (hk : k ≤ rs.length) (a c : Nat) : bit (cloRow m k rs) a c = (bit rs a c || (decide (a < k) && bit rs a m && bit rs m c)) := by
  induction k generalizing a c with
  | zero => simp [cloRow]
  | succ k ih =>
    rw [cloRow_succ, bit_wStep m k a c (by rw [length_cloRow]; omega), ih (by omega), ih (by omega) k m, ih (by omega) m c]
    by_cases e : a = k
    · subst e
      have h1 : decide (a < a) = false := by simp
      have h2 : decide (a < a + 1) = true := by simp
      rw [h1, h2]
      cases bit rs a c <;> cases bit rs a m <;> cases bit rs m c <;> cases bit rs m m <;> simp
    · have h1 : decide (a = k) = false := by simpa using e
      have h2 : decide (a < k + 1) = decide (a < k) := by
        apply decide_eq_decide.2; omega
      rw [h1, h2]
      simp

/-- What the closure has after m rounds. -/
structure Clo (us rs : List Nat) (m : Nat) : Prop where
  len : rs.length = us.length
  sub : Sub us rs
  mid : ∀ i j k, j < m → bit rs i j = true → bit rs j k = true → bit rs i k = true
  least : ∀ t : List Nat, Sub us t → (∀ i j k, bit t i j = true → bit t j k = true → bit t i k = true) → Sub rs t
theorem clo_upto (us : List Nat) (n m : Nat) (hn : n = us.length) (h : m ≤ n) (ho : Ok us) : Clo us (cloUpto n m us) m := by
  induction m with
  | zero => exact ⟨rfl, fun _ _ h => h, fun _ _ _ h => by omega, fun _ h _ => h⟩
  | succ m ih =>
    have ih := ih (by omega)
    rw [cloUpto_succ]
    generalize cloUpto n m us = rs at ih
    have hl : rs.length = n := by rw [ih.len, hn]
    have hb : ∀ a c, bit (cloRow m n rs) a c = true ↔ bit rs a c = true ∨ (bit rs a m = true ∧ bit rs m c = true) := by
      intro a c
      rw [bit_cloRow m rs n (by omega)]
      simp only [Bool.or_eq_true, Bool.and_eq_true, decide_eq_true_eq]
      constructor
      · rintro (h | ⟨⟨_, h1⟩, h2⟩)
        · exact .inl h
        · exact .inr ⟨h1, h2⟩
      · rintro (h | ⟨h1, h2⟩)
        · exact .inl h
        · refine .inr ⟨⟨?_, h1⟩, h2⟩
          by_cases ha : a < n
          · exact ha
          · rw [bit_out (by omega)] at h1; cases h1
    refine ⟨by rw [length_cloRow]; exact ih.len, fun i k h => (hb i k).2 (.inl (ih.sub i k h)), ?_, ?_⟩
    · intro i j k hj h1 h2
      rw [hb] at h1 h2 ⊢
      by_cases hjm : j = m
      · subst hjm
        rcases h1 with h1 | ⟨h1, _⟩ <;> rcases h2 with h2 | ⟨_, h2⟩ <;> exact .inr ⟨h1, h2⟩
      · have hj' : j < m := by omega
        rcases h1 with h1 | ⟨h1, h1'⟩ <;> rcases h2 with h2 | ⟨h2, h2'⟩
        · exact .inl (ih.mid i j k hj' h1 h2)
        · exact .inr ⟨ih.mid i j m hj' h1 h2, h2'⟩
        · exact .inr ⟨h1, ih.mid m j k hj' h1' h2⟩
        · exact .inr ⟨h1, h2'⟩
    · intro t ht htr i k h
      rcases (hb i k).1 h with h | ⟨h1, h2⟩
      · exact ih.least t ht htr i k h
      · exact htr i m k (ih.least t ht htr i m h1) (ih.least t ht htr m k h2)
theorem closure_clo {us : List Nat} (h : Ok us) : Clo us (closureN us) us.length := clo_upto us _ _ rfl (Nat.le_refl _) h
theorem closure_sub {us : List Nat} (h : Ok us) : Sub us (closureN us) := (closure_clo h).sub
theorem closure_trans {us : List Nat} (h : Ok us) (i j k : Nat) (h1 : bit (closureN us) i j = true) (h2 : bit (closureN us) j k = true) : bit (closureN us) i k = true := by
  refine (closure_clo h).mid i j k ?_ h1 h2
  have := ((ok_closure h).bit_lt h1).2
  rw [length_closureN] at this
  exact this
theorem closure_least {us t : List Nat} (h : Ok us) (ht : Sub us t) (htr : ∀ i j k, bit t i j = true → bit t j k = true → bit t i k = true) : Sub (closureN us) t := (closure_clo h).least t ht htr
theorem closure_mono {us vs : List Nat} (hu : Ok us) (hv : Ok vs) (h : Sub us vs) : Sub (closureN us) (closureN vs) :=
  closure_least hu (fun i k hb => closure_sub hv i k (h i k hb)) (closure_trans hv)
theorem closure_idem {us : List Nat} (h : Ok us) : closureN (closureN us) = closureN us := by
  have ho := ok_closure h
  exact rel_eq (Two.closure ho) (closure_least ho (fun _ _ h => h) (closure_trans h)) (closure_sub ho)
theorem closure_inverse {us : List Nat} (h : Ok us) : closureN (inverseN us) = inverseN (closureN us) := by
  have hi := ok_inverse h
  have hc := ok_closure h
  refine rel_eq ⟨ok_closure hi, ok_inverse hc, by rw [length_closureN, length_inverse, length_inverse, length_closureN]⟩ (closure_least hi ?_ ?_) ?_
  · intro i k hb
    rw [bit_inverse h] at hb
    rw [bit_inverse hc]
    exact closure_sub h _ _ hb
  · intro i j k h1 h2
    rw [bit_inverse hc] at h1 h2 ⊢
    exact closure_trans h _ _ _ h2 h1
  · intro i k hb
    rw [bit_inverse hc] at hb
    -- the closure of us lies in the inverse of the closure of the inverse
    have hci := ok_closure hi
    have key : Sub (closureN us) (inverseN (closureN (inverseN us))) := by
      refine closure_least h ?_ ?_
      · intro i k hb
        rw [bit_inverse hci]
        refine closure_sub hi _ _ ?_
        rw [bit_inverse h]
        exact hb
      · intro i j k h1 h2
        rw [bit_inverse hci] at h1 h2 ⊢
        exact closure_trans hi _ _ _ h2 h1
    have := key _ _ hb
    rw [bit_inverse hci] at this
    exact this

theorem loose_iff {us : List Nat} : looseN us = true ↔ ∀ i, bit us i i = false := by
  unfold looseN looseUpto
  simp only [List.all_eq_true, List.mem_range, Bool.not_eq_true']
  constructor
  · intro h i
    by_cases hi : i < us.length
    · exact h i hi
    · exact bit_out (by omega)
  · intro h i _
    exact h i
theorem acyclic_iff {us : List Nat} : acyclicN us = true ↔ ∀ i, bit (closureN us) i i = false := loose_iff

/-! Counts. -/
theorem pop_eq (k x : Nat) : popUpto k x = ((List.range k).map fun j => if x.testBit j then 1 else 0).sum := by
  induction k with
  | zero => rfl
  | succ k ih => rw [pop_succ, ih, List.range_succ, List.map_append, List.sum_append]; simp
/-- The number of pairs. -/
def total (n : Nat) (p : Nat → Nat → Bool) : Nat := ((List.range n).map fun i => ((List.range n).map fun k => if p i k then 1 else 0).sum).sum
theorem take_range (us : List Nat) (f : Nat → Nat) (k : Nat) (hk : k ≤ us.length) : ((us.take k).map f).sum = ((List.range k).map fun i => f (us.getD i 0)).sum := by
  induction k with
  | zero => simp
  | succ k ih =>
    rw [List.take_succ_eq_append_getElem (by omega), List.map_append, List.sum_append, ih (by omega), List.range_succ, List.map_append, List.sum_append]
    simp [List.getD, List.getElem?_eq_getElem (show k < us.length by omega)]
theorem count_eq (us : List Nat) : countN us = total us.length (bit us) := by
  unfold countN cntUpto total
  rw [take_range us _ _ (Nat.le_refl _)]
  congr 1
  apply List.map_congr_left
  intro i _
  exact pop_eq _ _
theorem sum_add (l : List Nat) (f g : Nat → Nat) : (l.map fun i => f i + g i).sum = (l.map f).sum + (l.map g).sum := by
  induction l with
  | nil => rfl
  | cons a l ih => simp only [List.map_cons, List.sum_cons, ih]; omega
theorem sum_swap (l l' : List Nat) (f : Nat → Nat → Nat) : (l.map fun i => (l'.map fun k => f i k).sum).sum = (l'.map fun k => (l.map fun i => f i k).sum).sum := by
  induction l with
  | nil =>
    simp only [List.map_nil, List.sum_nil]
    induction l' with
    | nil => rfl
    | cons a l ih => rw [List.map_cons, List.sum_cons]; omega
  | cons a l ih =>
    simp only [List.map_cons, List.sum_cons]
    rw [ih, sum_add]
theorem sum_le (l : List Nat) (f g : Nat → Nat) (h : ∀ i ∈ l, f i ≤ g i) : (l.map f).sum ≤ (l.map g).sum := by
  induction l with
  | nil => exact Nat.le_refl _
  | cons a l ih =>
    simp only [List.map_cons, List.sum_cons]
    have := h a List.mem_cons_self
    have := ih (fun i hi => h i (List.mem_cons_of_mem _ hi))
    omega
theorem count_inverse {us : List Nat} (h : Ok us) : countN (inverseN us) = countN us := by
  rw [count_eq, count_eq, length_inverse]
  unfold total
  simp only [bit_inverse h]
  exact sum_swap _ _ _
theorem count_add {us vs : List Nat} (h : Two us vs) : countN (unionN us vs) + countN (meetN us vs) = countN us + countN vs := by
  rw [count_eq, count_eq, count_eq, count_eq, length_union h.len, length_meet h.len, ← h.len]
  unfold total
  rw [← sum_add, ← sum_add]
  congr 1
  apply List.map_congr_left
  intro i _
  rw [← sum_add, ← sum_add]
  congr 1
  apply List.map_congr_left
  intro k _
  rw [bit_union h.len, bit_meet h.len]
  cases bit us i k <;> cases bit vs i k <;> rfl
theorem count_sub {us vs : List Nat} (h : Two us vs) (hs : Sub us vs) : countN us ≤ countN vs := by
  rw [count_eq, count_eq, ← h.len]
  unfold total
  refine sum_le _ _ _ fun i _ => sum_le _ _ _ fun k _ => ?_
  cases e : bit us i k with
  | false => exact Nat.zero_le _
  | true => rw [hs i k e]; exact Nat.le_refl _
theorem count_none {us : List Nat} (h : ∀ i k, bit us i k = false) : countN us = 0 := by
  rw [count_eq]
  unfold total
  simp only [h]
  have : ∀ n, ((List.range n).map fun _ => (0 : Nat)).sum = 0 := fun n => by
    induction n with
    | zero => rfl
    | succ n ih => rw [List.range_succ, List.map_append, List.sum_append, ih]; rfl
  simp only [Bool.false_eq_true, if_false]
  rw [this, this]
end Go.Proofs.Ytdppidhnlbfpmaa
