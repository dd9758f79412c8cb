/-
  PROVED HERE: a region whose acts come one behind the other and whose loads come in any order: what holds when so many acts have been carried out. CONDITIONS: as each lemma states.
-/
import Derived.Test.YtbncmeggnhggkaaFrp
namespace Go.Proofs.Ytbncmeggnhggkaa
open Go.RowKit
set_option linter.unusedVariables false
set_option linter.unusedSimpArgs false

/-- The first m acts of A have been carried out, and R m holds; J holds all along. -/
def ChI (A : List Nat) (R : Nat → (Nat → Value) → World → Prop) (J : World → Prop) (S : Nat → Bool) (ρ : Nat → Value) (w : World) : Prop :=
  J w ∧ ∃ m, m ≤ A.length ∧ (∀ j, S j = true ↔ j ∈ A.take m) ∧ R m ρ w
theorem nodup_lt {A : List Nat} (hn : A.Nodup) {i j : Nat} (hij : i < j) (hj : j < A.length) (e : A[i] = A[j]) : False :=
  (List.pairwise_iff_getElem.1 hn) i j (by omega) hj hij e
section
variable {A : List Nat} {R : Nat → (Nat → Value) → World → Prop} {J : World → Prop} {S : Nat → Bool} {ρ : Nat → Value} {w w' : World}
theorem ChI.start (hJ : J w) (h : R 0 ρ w) : ChI A R J (fun _ => false) ρ w :=
  ⟨hJ, 0, Nat.zero_le _, fun j => by simp, h⟩
theorem ChI.j (h : ChI A R J S ρ w) : J w := h.1
theorem ChI.place (h : ChI A R J S ρ w) (hn : A.Nodup) {i k : Nat} (hk : A[i]? = some k) (hS : S k = false) (hp : ∀ j ∈ A.take i, S j = true) : (∀ j, S j = true ↔ j ∈ A.take i) ∧ R i ρ w := by
  obtain ⟨_, m, hm, hs, hr⟩ := h
  obtain ⟨hi, hki⟩ := List.getElem?_eq_some_iff.1 hk
  have h1 : m ≤ i := by
    by_cases hlt : i < m
    · exfalso
      have : k ∈ A.take m := by
        rw [← hki]
        exact List.mem_take_iff_getElem.2 ⟨i, by omega, rfl⟩
      have := (hs k).2 this
      rw [hS] at this
      cases this
    · omega
  have h2 : i ≤ m := by
    by_cases hlt : m < i
    · exfalso
      have hml : m < A.length := by omega
      have h3 : A[m] ∈ A.take i := List.mem_take_iff_getElem.2 ⟨m, by omega, rfl⟩
      have h4 := (hs _).1 (hp _ h3)
      obtain ⟨j, hj, e⟩ := List.mem_take_iff_getElem.1 h4
      have := nodup_lt hn (by omega : j < m) hml e
      exact this.elim
    · omega
  obtain rfl : m = i := by omega
  exact ⟨hs, hr⟩
theorem ChI.at (h : ChI A R J S ρ w) (hn : A.Nodup) {i k : Nat} (hk : A[i]? = some k) (hS : S k = false) (hp : ∀ j ∈ A.take i, S j = true) : R i ρ w := (h.place hn hk hS hp).2
theorem ChI.next (h : ChI A R J S ρ w) (hn : A.Nodup) {i k : Nat} (hk : A[i]? = some k) (hS : S k = false) (hp : ∀ j ∈ A.take i, S j = true) {v : Value} (hJ : J w') (hR : R (i + 1) (FR.upd ρ k v) w') : ChI A R J (FR.upd S k true) (FR.upd ρ k v) w' := by
  obtain ⟨hs, _⟩ := h.place hn hk hS hp
  obtain ⟨hi, hki⟩ := List.getElem?_eq_some_iff.1 hk
  refine ⟨hJ, i + 1, hi, fun j => ?_, hR⟩
  rw [List.take_succ_eq_append_getElem hi, List.mem_append, List.mem_singleton, hki]
  by_cases e : j = k
  · subst e
    rw [FR.upd_same]
    simp
  · rw [FR.upd_ne _ _ e, hs j]
    simp [e]
theorem ChI.done (h : ChI A R J S ρ w) (hn : A.Nodup) (hall : ∀ j ∈ A, S j = true) : R A.length ρ w := by
  obtain ⟨_, m, hm, hs, hr⟩ := h
  by_cases e : m = A.length
  · rw [← e]; exact hr
  · exfalso
    have hml : m < A.length := by omega
    have h4 := (hs _).1 (hall _ (List.getElem_mem hml))
    obtain ⟨j, hj, e2⟩ := List.mem_take_iff_getElem.1 h4
    have := nodup_lt hn (by omega : j < m) hml e2
    exact this.elim
end
/-- 'append(s, x...)', s the call's own. -/
theorem oper_append_rd {P : Program} {o : Oper} {a : Act} {w : World} {K : Act → World → Prop} {Q : Exit → Act → World → Prop} (s x : Operand) (t : TypeId)
    (ho : o.op = .call { callee := .builtin .append, args := #[s, x], argTypes := #[t, t] })
    (base : Nat) (e : TypeId) (z : Value) (size bytes : Nat) (ht : P.underlying t = some (.slice e)) (hi : (P.info? e).map (fun i => (i.zero, i.size, i.bytes)) = some (some z, size, bytes)) (hzs : z.cells.size = size) (hsz : 0 < size)
    (v : Value) (n : Nat) (xs : List Value) (hs : a.eval s = v) (hown : w.ownsRow base e size v n xs)
    (src : Option Addr) (m c : Nat) (cs : List Value) (hx : a.eval x = .slice src m c) (hrd : Rd w src cs) (hl : cs.length = m * size) (h1 : ∀ u ∈ cs, u.oneCell' = true)
    (h63 : n + m ≤ 1000000000) (hbytes : bytes ≤ 1000) (hbase : base ≤ w.heap.size)
    (h : ∀ a' c' w', w'.ownsRow base e size (.slice a' (n + m) c') (n + m) (xs ++ cs) → w.grownBy w' v.ownBlock → (blk a' = v.ownBlock ∨ blk a' = some w.heap.size) → K (a.put o.dst (.slice a' (n + m) c')) w') : o.wp P a w K Q := by
  obtain ⟨v', w', hrun, q1, q2, q3⟩ := run_append_rd (P := P) w t o.type base e z size bytes ht hi hzs hsz v n xs hown src m c cs hrd hl h1 h63 hbytes hbase
  obtain ⟨a', c', rfl, _⟩ := own_shape q1
  rw [ownBlock_slice] at q3
  unfold Oper.wp execOp
  simp only [ho, resolve, invoke, builtin, Sem.run_bind, Sem.run_pure, Result.andThen_ok, List.map_toArray, List.map_cons, List.map_nil, hs, hx, hrun]
  exact h a' c' w' q1 q2 q3
end Go.Proofs.Ytbncmeggnhggkaa
