/-
  PROVED HERE: what InverseRel of both packages does. CONDITIONS: as each theorem states.
-/
import Derived.Test.YtmeoclkngjboiaaDoorRelE
namespace Go.Proofs.YtmeoclkngjboiaaDoor
open Go.RowKit
set_option linter.unusedVariables false
set_option linter.unusedSimpArgs false

/-- The relation has the pair. -/
def bit (ns : List Nat) (i k : Nat) : Bool := (ns.getD i 0).testBit k
theorem bit_at {ns : List Nat} {i k x : Nat} (h : ns[i]? = some x) : bit ns i k = x.testBit k := by simp [bit, List.getD, h]
theorem bit_out {ns : List Nat} {i k : Nat} (h : ns.length ≤ i) : bit ns i k = false := by simp [bit, List.getD, List.getElem?_eq_none h]
theorem Ok.bit_lt {ns : List Nat} (h : Ok ns) {i k : Nat} (hb : bit ns i k = true) : i < ns.length ∧ k < ns.length := by
  by_cases hi : i < ns.length
  · refine ⟨hi, ?_⟩
    rw [bit_at (List.getElem?_eq_getElem hi)] at hb
    by_cases hk : k < ns.length
    · exact hk
    · have := Nat.testBit_lt_two_pow (Nat.lt_of_lt_of_le (h.row _ (List.getElem_mem hi)) (Nat.pow_le_pow_right (n := 2) (by omega) (show ns.length ≤ k by omega)))
      rw [this] at hb; cases hb
  · rw [bit_out (by omega)] at hb; cases hb
theorem rel_ext {us vs : List Nat} (ha : Ok us) (hb : Ok vs) (hl : us.length = vs.length) (h : ∀ i k, i < us.length → k < us.length → bit us i k = bit vs i k) : us = vs := by
  apply List.ext_getElem hl
  intro i h1 h2
  apply Nat.eq_of_testBit_eq
  intro k
  have e1 : us[i].testBit k = bit us i k := (bit_at (List.getElem?_eq_getElem h1)).symm
  have e2 : vs[i].testBit k = bit vs i k := (bit_at (List.getElem?_eq_getElem h2)).symm
  rw [e1, e2]
  by_cases hk : k < us.length
  · exact h i k h1 hk
  · have f1 : bit us i k = false := by
      cases hc : bit us i k with
      | false => rfl
      | true => exact absurd (ha.bit_lt hc).2 hk
    have f2 : bit vs i k = false := by
      cases hc : bit vs i k with
      | false => rfl
      | true => exact absurd (hb.bit_lt hc).2 (by omega)
    rw [f1, f2]
/-- The number whose first n bits are given. -/
def rowN (p : Nat → Bool) : Nat → Nat
  | 0 => 0
  | k + 1 => rowN p k ||| (if p k then 2 ^ k else 0)
theorem testBit_rowN (p : Nat → Bool) (n k : Nat) : (rowN p n).testBit k = (decide (k < n) && p k) := by
  induction n with
  | zero => simp [rowN]
  | succ n ih =>
    rw [rowN, Nat.testBit_or, ih]
    by_cases hp : p n = true
    · rw [if_pos hp, Nat.testBit_two_pow]
      by_cases hk : n = k
      · subst hk; simp [hp]
      · simp [hk, show (k < n + 1) = (k < n) from by apply propext; omega]
    · rw [if_neg hp, Nat.zero_testBit]
      by_cases hk : n = k
      · subst hk; simpa using hp
      · simp [show (k < n + 1) = (k < n) from by apply propext; omega]
theorem rowN_lt (p : Nat → Bool) (n : Nat) : rowN p n < 2 ^ n := by
  induction n with
  | zero => simp [rowN]
  | succ n ih =>
    have h2 : 2 ^ (n + 1) = 2 ^ n + 2 ^ n := by rw [Nat.pow_succ]; omega
    rw [rowN]
    refine Nat.or_lt_two_pow (by omega) ?_
    split <;> omega
/-- The relation on n elements with these pairs. -/
def ofBits (n : Nat) (p : Nat → Nat → Bool) : List Nat := (List.range n).map fun i => rowN (p i) n
theorem length_ofBits (n : Nat) (p : Nat → Nat → Bool) : (ofBits n p).length = n := by simp [ofBits]
theorem ok_ofBits {n : Nat} (h : n ≤ 16) (p : Nat → Nat → Bool) : Ok (ofBits n p) := by
  refine ⟨by rw [length_ofBits]; exact h, fun x hx => ?_⟩
  rw [length_ofBits]
  obtain ⟨i, _, rfl⟩ := List.mem_map.1 hx
  exact rowN_lt _ _
theorem bit_ofBits {n : Nat} (p : Nat → Nat → Bool) {i k : Nat} (hi : i < n) (hk : k < n) : bit (ofBits n p) i k = p i k := by
  rw [bit_at (x := rowN (p i) n) (by simp [ofBits, hi]), testBit_rowN]
  simp [hk]
theorem eq_ofBits {n : Nat} {p : Nat → Nat → Bool} {us : List Nat} (ha : Ok us) (hl : us.length = n) (h : ∀ i k, i < n → k < n → bit us i k = p i k) : us = ofBits n p := by
  refine rel_ext ha (ok_ofBits (by rw [← hl]; exact ha.len) p) (by rw [length_ofBits, hl]) fun i k hi hk => ?_
  rw [hl] at hi hk
  rw [h i k hi hk, bit_ofBits p hi hk]
theorem ok_zero (n : Nat) (h : n ≤ 16) : Ok (List.replicate n 0) := ⟨by simpa using h, fun x hx => by rw [(List.mem_replicate.1 hx).2]; exact Nat.two_pow_pos _⟩
theorem bit_zero (n i k : Nat) : bit (List.replicate n 0) i k = false := by
  unfold bit
  by_cases h : i < n
  · simp [List.getD, h]
  · simp [List.getD, h]
/-- One row gets more pairs. -/
theorem ok_set {ns : List Nat} (h : Ok ns) {i x : Nat} (hx : x < 2 ^ ns.length) : Ok (ns.set i x) := by
  refine ⟨by simpa using h.len, fun y hy => ?_⟩
  rw [List.length_set]
  rcases List.mem_or_eq_of_mem_set hy with hy | rfl
  · exact h.row y hy
  · exact hx
theorem bit_set {ns : List Nat} {i x : Nat} (hi : i < ns.length) (a k : Nat) : bit (ns.set i x) a k = if a = i then x.testBit k else bit ns a k := by
  unfold bit
  by_cases h : a = i
  · subst h; simp [List.getD, hi]
  · have h' : ¬ i = a := fun e => h e.symm
    simp [List.getD, List.getElem?_set, h, h']
theorem natV_set (ns : List Nat) (i x : Nat) : (natV ns).set i (.int .i64 (x : Nat)) = natV (ns.set i x) := by simp [natV]
theorem at_natV {ns : List Nat} {i x : Nat} (h : ns[i]? = some x) : (natV ns)[i]? = some (.int .i64 (x : Nat)) := by simp [natV, h]

theorem shl_one (n : Nat) (hn : n ≤ 15) : wrap64 (2 ^ n) = (2 : Int) ^ n := by
  have := two_pow_le n (by omega)
  rw [IntWalk.wrap64_in _ (by omega)]
theorem or_shl (x n : Nat) (hx : x < 65536) (hn : n ≤ 15) : bits .or .i64 x ((2 : Int) ^ n) = ((x ||| 2 ^ n : Nat) : Int) := by
  have e : (2 : Int) ^ n = ((2 ^ n : Nat) : Int) := by simp
  rw [e]
  exact bits_or_i64 x (2 ^ n) hx (Nat.lt_of_le_of_lt (Nat.pow_le_pow_right (n := 2) (by omega) hn) (by decide))
theorem two_pow_lt (n : Nat) (hn : n ≤ 15) : 2 ^ n < 65536 := by
  have : 2 ^ n ≤ 2 ^ 15 := Nat.pow_le_pow_right (by omega) hn
  omega

def inverseN (ns : List Nat) : List Nat := ofBits ns.length fun i k => bit ns k i

end Go.Proofs.YtmeoclkngjboiaaDoor
