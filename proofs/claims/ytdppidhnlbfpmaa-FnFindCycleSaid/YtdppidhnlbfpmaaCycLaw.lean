/-
  PROVED HERE: the search finds a cycle if and only if there is one, and what it finds is a cycle without repetition. CONDITIONS: as each theorem states.
-/
import Derived.Test.YtdppidhnlbfpmaaCyc
import Derived.Test.YtdppidhnlbfpmaaBits
namespace Go.Proofs.Ytdppidhnlbfpmaa
set_option linter.unusedVariables false
set_option linter.unusedSimpArgs false

/-- A path from start: edge by edge, without repetition. -/
structure Path (r : List Nat) (start : Nat) (p : List Nat) : Prop where
  head : p[0]? = some start
  chain : ∀ (j x y : Nat), p[j]? = some x → p[j + 1]? = some y → bit r x y = true
  once : ∀ (j k x : Nat), p[j]? = some x → p[k]? = some x → j = k
structure Inv (r : List Nat) (start : Nat) (ps : List (List Nat)) (seen : Nat) : Prop where
  path : ∀ p ∈ ps, Path r start p ∧ ∀ (j x : Nat), p[j + 1]? = some x → seen.testBit x = true
  fresh : seen.testBit start = false
  last : ∀ k, seen.testBit k = true → ∃ p ∈ ps, lastD p = k
def Done (r : List Nat) (start : Nat) (ps : List (List Nat)) (seen i : Nat) : Prop := ∀ (j : Nat) (p : List Nat), j < i → ps[j]? = some p → bit r (lastD p) start = false ∧ ∀ k, bit r (lastD p) k = true → seen.testBit k = true

theorem lastD_snoc (p : List Nat) (k : Nat) : lastD (p ++ [k]) = k := by simp [lastD, List.getLastD_eq_getLast?]
theorem path_snoc {r : List Nat} {start : Nat} {p : List Nat} {k : Nat} (h : Path r start p) (h1 : 1 ≤ p.length) (hb : bit r (lastD p) k = true) (hk : ∀ (j : Nat), p[j]? ≠ some k) : Path r start (p ++ [k]) := by
  refine ⟨by rw [List.getElem?_append_left h1]; exact h.head, fun j x y hx hy => ?_, fun j m x hx hy => ?_⟩
  · by_cases hj : j + 1 < p.length
    · rw [List.getElem?_append_left (by omega)] at hx
      rw [List.getElem?_append_left hj] at hy
      exact h.chain j x y hx hy
    · have hlt := (List.getElem?_eq_some_iff.1 hy).1
      simp at hlt
      have e : j = p.length - 1 := by omega
      subst e
      rw [List.getElem?_append_left (by omega), lastD_at h1] at hx
      rw [show p.length - 1 + 1 = p.length by omega] at hy
      simp at hx hy
      subst hx; subst hy
      exact hb
  · have h2 : ∀ (j x : Nat), (p ++ [k])[j]? = some x → (j < p.length ∧ p[j]? = some x) ∨ (j = p.length ∧ x = k) := by
      intro j x hx
      by_cases hj : j < p.length
      · rw [List.getElem?_append_left hj] at hx; exact .inl ⟨hj, hx⟩
      · have hlt := (List.getElem?_eq_some_iff.1 hx).1
        simp at hlt
        have e : j = p.length := by omega
        subst e
        simp at hx
        exact .inr ⟨rfl, hx.symm⟩
    rcases h2 j x hx with ⟨_, e1⟩ | ⟨e1, e1'⟩ <;> rcases h2 m x hy with ⟨_, e2⟩ | ⟨e2, e2'⟩
    · exact h.once j m x e1 e2
    · subst e2'; exact absurd e1 (hk j)
    · subst e1'; exact absurd e2 (hk m)
    · omega

theorem ext_inv {r : List Nat} (ho : Ok r) {start i : Nat} {ps : List (List Nat)} {seen : Nat} {p : List Nat} (hB : Bfs r.length ps seen) (hI : Inv r start ps seen) (hp : ps[i]? = some p) (hs : bit r (lastD p) start = false) (k : Nat) (hk : k ≤ r.length) :
    Bfs r.length (extUpto r p k (ps, seen)).1 (extUpto r p k (ps, seen)).2 ∧ Inv r start (extUpto r p k (ps, seen)).1 (extUpto r p k (ps, seen)).2 ∧
    (∀ (j : Nat) (q : List Nat), ps[j]? = some q → (extUpto r p k (ps, seen)).1[j]? = some q) ∧ (∀ m, seen.testBit m = true → (extUpto r p k (ps, seen)).2.testBit m = true) ∧
    (∀ m, m < k → bit r (lastD p) m = true → (extUpto r p k (ps, seen)).2.testBit m = true) := by
  induction k with
  | zero => exact ⟨hB, hI, fun _ _ h => h, fun _ h => h, fun _ h => by omega⟩
  | succ k ih =>
    obtain ⟨b1, i1, k1, s1, d1⟩ := ih (by omega)
    rw [ext_succ]
    generalize extUpto r p k (ps, seen) = st at b1 i1 k1 s1 d1
    obtain ⟨qs, sn⟩ := st
    simp only at b1 i1 k1 s1 d1
    unfold extStep
    simp only
    split
    · rename_i hc
      simp only [Bool.and_eq_true, Bool.not_eq_true'] at hc
      obtain ⟨hc1, hc2⟩ := hc
      have hpi := k1 i p hp
      have hmem : p ∈ qs := List.mem_of_getElem? hpi
      have hlen := (b1.path i p hpi).2.1
      obtain ⟨hpath, hseen⟩ := i1.path p hmem
      have hks : k ≠ start := fun e => by rw [e, hs] at hc1; cases hc1
      have hnot : ∀ (j : Nat), p[j]? ≠ some k := by
        intro j hj
        cases j with
        | zero => rw [hpath.head] at hj; cases hj; exact hks rfl
        | succ j => rw [hseen j k hj] at hc2; cases hc2
      refine ⟨bfs_step b1 hpi (by omega) hc2, ⟨?_, ?_, ?_⟩, ?_, ?_, ?_⟩
      · intro q hq
        rcases List.mem_append.1 hq with hq | hq
        · refine ⟨(i1.path q hq).1, fun j x hx => ?_⟩
          rw [Nat.testBit_or, (i1.path q hq).2 j x hx, Bool.true_or]
        · simp at hq
          subst hq
          refine ⟨path_snoc hpath hlen hc1 hnot, fun j x hx => ?_⟩
          rw [Nat.testBit_or, Nat.testBit_two_pow]
          by_cases hj : j + 1 < p.length
          · rw [List.getElem?_append_left hj] at hx
            rw [hseen j x hx, Bool.true_or]
          · have hlt := (List.getElem?_eq_some_iff.1 hx).1
            simp at hlt
            rw [show j + 1 = p.length by omega] at hx
            simp at hx
            simp [hx]
      · rw [Nat.testBit_or, i1.fresh, Nat.testBit_two_pow]
        simp [hks]
      · intro m hm
        rw [Nat.testBit_or, Nat.testBit_two_pow, Bool.or_eq_true, decide_eq_true_eq] at hm
        rcases hm with hm | hm
        · obtain ⟨q, hq, e⟩ := i1.last m hm
          exact ⟨q, List.mem_append_left _ hq, e⟩
        · exact ⟨p ++ [k], List.mem_append_right _ List.mem_cons_self, by rw [lastD_snoc]; exact hm⟩
      · intro j q hq
        have := k1 j q hq
        rw [List.getElem?_append_left (List.getElem?_eq_some_iff.1 this).1]
        exact this
      · intro m hm
        rw [Nat.testBit_or, s1 m hm, Bool.true_or]
      · intro m hm hb
        rw [Nat.testBit_or, Nat.testBit_two_pow]
        by_cases e : k = m
        · simp [e]
        · rw [d1 m (by omega) hb, Bool.true_or]
    · rename_i hc
      refine ⟨b1, i1, k1, s1, fun m hm hb => ?_⟩
      by_cases e : m = k
      · subst e
        rw [hb, Bool.true_and, Bool.not_eq_true', Bool.not_eq_false] at hc
        exact hc
      · exact d1 m (by omega) hb

/-- What the search hands back. -/
def Found (r : List Nat) (start : Nat) (q : List Nat) : Prop :=
  (q = [] ∧ bit (closureN r) start start = false) ∨ (q ≠ [] ∧ Path r start q ∧ bit r (lastD q) start = true)

theorem no_cycle {r : List Nat} (ho : Ok r) {start i : Nat} {ps : List (List Nat)} {seen : Nat} (hst : start < r.length) (hB : Bfs r.length ps seen) (hI : Inv r start ps seen) (hD : Done r start ps seen i) (hi : ps.length ≤ i) (h0 : [start] ∈ ps) : bit (closureN r) start start = false := by
  have succ : ∀ v, v = start ∨ seen.testBit v = true → ∀ k, bit r v k = true → seen.testBit k = true := by
    intro v hv k hb
    have hp : ∃ p ∈ ps, lastD p = v := by
      rcases hv with rfl | hv
      · exact ⟨[v], h0, rfl⟩
      · exact hI.last v hv
    obtain ⟨p, hp, rfl⟩ := hp
    obtain ⟨j, hj⟩ := List.getElem?_of_mem hp
    have hlt := (List.getElem?_eq_some_iff.1 hj).1
    exact (hD j p (by omega) hj).2 k hb
  obtain ⟨t, ht⟩ : ∃ t, t = ofBits r.length (fun i k => !(decide (i = start) || seen.testBit i) || seen.testBit k) := ⟨_, rfl⟩
  have hok : Ok t := by rw [ht]; exact ok_ofBits ho.len _
  have hlen : t.length = r.length := by rw [ht]; exact length_ofBits _ _
  have hbit : ∀ i k, i < r.length → k < r.length → (bit t i k = true ↔ ((i = start ∨ seen.testBit i = true) → seen.testBit k = true)) := by
    intro i k hi hk
    rw [ht, bit_ofBits _ hi hk]
    cases h1 : seen.testBit i <;> cases h2 : seen.testBit k <;> by_cases h3 : i = start <;> simp [h3]
  have hsub : Sub (closureN r) t := by
    refine closure_least ho ?_ ?_
    · intro i k hb
      obtain ⟨hi, hk⟩ := ho.bit_lt hb
      exact (hbit i k hi hk).2 fun hv => succ i hv k hb
    · intro i j k h1 h2
      have l1 := hok.bit_lt h1
      have l2 := hok.bit_lt h2
      rw [hlen] at l1 l2
      rw [hbit i j l1.1 l1.2] at h1
      rw [hbit j k l2.1 l2.2] at h2
      exact (hbit i k l1.1 l2.2).2 fun hv => h2 (.inr (h1 hv))
  cases e : bit (closureN r) start start with
  | false => rfl
  | true =>
    have := (hbit start start hst hst).1 (hsub _ _ e) (.inl rfl)
    rw [hI.fresh] at this
    cases this

theorem bfs_found {r : List Nat} (ho : Ok r) {start : Nat} (hst : start < r.length) : ∀ (f i : Nat) (ps : List (List Nat)) (seen : Nat), 17 < f + i → Bfs r.length ps seen → Inv r start ps seen → Done r start ps seen i → [start] ∈ ps →
    Found r start (bfsGo r start f i ps seen) := by
  intro f
  induction f with
  | zero =>
    intro i ps seen hf hB hI hD h0
    exact Or.inl ⟨rfl, no_cycle ho hst hB hI hD (by have := hB.le ho.len; omega) h0⟩
  | succ f ih =>
    intro i ps seen hf hB hI hD h0
    cases hp : ps[i]? with
    | none =>
      rw [go_end hp]
      exact .inl ⟨rfl, no_cycle ho hst hB hI hD (by have := List.getElem?_eq_none_iff.1 hp; exact this) h0⟩
    | some p =>
      have hlen := (hB.path i p hp).2.1
      cases hb : bit r (lastD p) start with
      | true =>
        rw [go_hit hp hb]
        exact .inr ⟨by intro e; rw [e] at hlen; simp at hlen, (hI.path p (List.mem_of_getElem? hp)).1, hb⟩
      | false =>
        rw [go_miss hp hb]
        obtain ⟨b1, i1, k1, s1, d1⟩ := ext_inv ho hB hI hp hb r.length (Nat.le_refl _)
        refine ih (i + 1) _ _ (by omega) b1 i1 ?_ ?_
        · intro j q hj hq
          by_cases e : j = i
          · subst e
            rw [k1 j p hp] at hq
            cases hq
            exact ⟨hb, fun k hk => d1 k (ho.bit_lt hk).2 hk⟩
          · have hlt := (List.getElem?_eq_some_iff.1 hp).1
            have hq0 : ps[j]? = some (ps[j]'(by omega)) := List.getElem?_eq_getElem (by omega)
            have := k1 j _ hq0
            rw [this] at hq
            cases hq
            have := hD j _ (by omega) hq0
            exact ⟨this.1, fun k hk => s1 k (this.2 k hk)⟩
        · obtain ⟨j, hj⟩ := List.getElem?_of_mem h0
          exact List.mem_of_getElem? (k1 j _ hj)

theorem path_found {r : List Nat} (ho : Ok r) {start : Nat} (hst : start < r.length) : Found r start (pathN r start) := by
  refine bfs_found ho hst 20 0 [[start]] 0 (by omega) (bfs_start hst) ⟨?_, by simp, fun k hk => by simp at hk⟩ (fun j p hj => by omega) List.mem_cons_self
  intro p hp
  simp at hp
  subst hp
  refine ⟨⟨rfl, fun j x y hx hy => by simp at hy, fun j k x hx hy => ?_⟩, fun j x hx => by simp at hx⟩
  have h1 := (List.getElem?_eq_some_iff.1 hx).1
  have h2 := (List.getElem?_eq_some_iff.1 hy).1
  simp at h1 h2
  omega
theorem path_closure {r : List Nat} (ho : Ok r) {start : Nat} {q : List Nat} (h : Path r start q) (j : Nat) : ∀ x, q[j + 1]? = some x → bit (closureN r) start x = true := by
  induction j with
  | zero => intro x hx; exact closure_sub ho _ _ (h.chain 0 start x h.head hx)
  | succ j ih =>
    intro x hx
    have hlt := (List.getElem?_eq_some_iff.1 hx).1
    have h0 : q[j + 1]? = some (q[j + 1]'(by omega)) := List.getElem?_eq_getElem (by omega)
    exact closure_trans ho _ _ _ (ih _ h0) (closure_sub ho _ _ (h.chain (j + 1) _ _ h0 hx))
theorem found_cycle {r : List Nat} (ho : Ok r) {start : Nat} {q : List Nat} (h : Found r start q) : q = [] ↔ bit (closureN r) start start = false := by
  rcases h with ⟨rfl, hc⟩ | ⟨hne, hp, hb⟩
  · simp [hc]
  · refine ⟨fun e => absurd e hne, fun hc => ?_⟩
    exfalso
    have h1 : 1 ≤ q.length := List.length_pos_iff.2 hne
    have hl := lastD_at h1
    have : bit (closureN r) start start = true := by
      by_cases e : q.length = 1
      · rw [e] at hl
        have := hp.head
        rw [show (1 - 1) = 0 from rfl, this] at hl
        cases hl
        exact closure_sub ho _ _ hb
      · have := path_closure ho hp (q.length - 2) (lastD q) (by rw [show q.length - 2 + 1 = q.length - 1 by omega]; exact hl)
        exact closure_trans ho _ _ _ this (closure_sub ho _ _ hb)
    rw [hc] at this
    cases this

/-- A cycle without repetition. -/
structure IsCycle (r c : List Nat) : Prop where
  next : ∀ (j x y : Nat), c[j]? = some x → c[(j + 1) % c.length]? = some y → bit r x y = true
  once : ∀ (j k x : Nat), c[j]? = some x → c[k]? = some x → j = k
theorem cycle_of_path {r : List Nat} {start : Nat} {q : List Nat} (h : Path r start q) (hne : q ≠ []) (hb : bit r (lastD q) start = true) : IsCycle r q := by
  refine ⟨fun j x y hx hy => ?_, h.once⟩
  have hlt := (List.getElem?_eq_some_iff.1 hx).1
  by_cases e : j + 1 = q.length
  · rw [e, Nat.mod_self, h.head] at hy
    cases hy
    have := lastD_at (show 1 ≤ q.length by omega)
    rw [show q.length - 1 = j by omega, hx] at this
    cases this
    exact hb
  · rw [Nat.mod_eq_of_lt (by omega)] at hy
    exact h.chain j x y hx hy
theorem cycle_law {r : List Nat} (ho : Ok r) : IsCycle r (cycleN r) ∧ (cycleN r = [] ↔ acyclicN r = true) := by
  have gen : ∀ k, k ≤ r.length → IsCycle r (cycUpto r k) ∧ (cycUpto r k = [] ↔ ∀ i, i < k → bit (closureN r) i i = false) := by
    intro k
    induction k with
    | zero => intro _; exact ⟨⟨fun j x y hx => by simp [cycUpto] at hx, fun j k x hx => by simp [cycUpto] at hx⟩, by simp [cycUpto]⟩
    | succ k ih =>
      intro hk
      obtain ⟨h1, h2⟩ := ih (by omega)
      have hf := path_found ho (show k < r.length by omega)
      have hfc := found_cycle ho hf
      rw [cyc_succ]
      generalize cycUpto r k = b at h1 h2
      generalize pathN r k = q at hf hfc
      have hall : (∀ i, i < k + 1 → bit (closureN r) i i = false) ↔ b = [] ∧ q = [] := by
        rw [h2, hfc]
        constructor
        · intro h; exact ⟨fun i hi => h i (by omega), h k (by omega)⟩
        · rintro ⟨ha, hb⟩ i hi
          by_cases e : i = k
          · subst e; exact hb
          · exact ha i (by omega)
      rw [hall]
      unfold better
      split
      · rename_i hc
        simp only [Bool.and_eq_true, Bool.or_eq_true, decide_eq_true_eq] at hc
        have hne : q ≠ [] := List.length_pos_iff.1 hc.1
        refine ⟨?_, ⟨fun e => absurd e hne, fun e => e.2⟩⟩
        rcases hf with ⟨e, _⟩ | ⟨_, hp, hb⟩
        · exact absurd e hne
        · exact cycle_of_path hp hne hb
      · rename_i hc
        refine ⟨h1, ⟨fun e => ⟨e, ?_⟩, fun e => e.1⟩⟩
        subst e
        by_cases hq : q = []
        · exact hq
        · exact absurd (by simp [List.length_pos_iff.2 hq]) hc
  obtain ⟨h1, h2⟩ := gen r.length (Nat.le_refl _)
  refine ⟨h1, h2.trans ?_⟩
  rw [acyclic_iff]
  constructor
  · intro h i
    by_cases hi : i < r.length
    · exact h i hi
    · exact bit_out (by rw [length_closureN]; omega)
  · intro h i _
    exact h i
end Go.Proofs.Ytdppidhnlbfpmaa
