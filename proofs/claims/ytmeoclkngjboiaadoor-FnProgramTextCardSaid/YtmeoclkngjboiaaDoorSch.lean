/-
  PROVED HERE: what CountSchedules of both packages does. CONDITIONS: as each theorem states.
-/
import Derived.Test.YtmeoclkngjboiaaDoorVav
import Derived.Test.YtmeoclkngjboiaaDoorApp
namespace Go.Proofs.YtmeoclkngjboiaaDoor
open Go.RowKit
set_option linter.unusedVariables false
set_option linter.unusedSimpArgs false

/-- The number n after k rounds, at the sum s; after i threads. -/
def wIn (n s : Nat) : Nat → Nat
  | 0 => n
  | k + 1 => wIn n s k * (s - k) / (k + 1)
def wTo (ls : List Nat) : Nat → Nat
  | 0 => 1
  | i + 1 => wIn (wTo ls i) (ls.sum - (ls.take i).sum) (ls.getD i 0)
/-- The number c after k rounds, after s others; after i threads. -/
def cIn (n s : Nat) : Nat → Nat
  | 0 => n
  | k + 1 => cIn n s k * (s + k + 1) / (k + 1)
def cTo (ls : List Nat) : Nat → Nat
  | 0 => 1
  | i + 1 => cIn (cTo ls i) (ls.take i).sum (ls.getD i 0)
def okB (ls : List Nat) : Bool :=
  (List.range ls.length).all (fun i => (List.range (ls.getD i 0 + 1)).all fun k => decide (wIn (wTo ls i) (ls.sum - (ls.take i).sum) k ≤ 20000000000) && decide (cIn (cTo ls i) (ls.take i).sum k ≤ 20000000000)) &&
  (wTo ls ls.length == cTo ls ls.length)
theorem ok1 : ∀ a < 8, okB [a] = true := by decide +kernel
theorem ok2 : ∀ a < 8, ∀ b < 8, okB [a, b] = true := by decide +kernel
theorem ok3 : ∀ a < 8, ∀ b < 8, ∀ c < 8, okB [a, b, c] = true := by decide +kernel
structure LsOk (ls : List Nat) : Prop where
  len : ls.length ≤ 3
  sum : ls.sum ≤ 21
  w : ∀ i < ls.length, ∀ k ≤ ls.getD i 0, wIn (wTo ls i) (ls.sum - (ls.take i).sum) k ≤ 20000000000
  c : ∀ i < ls.length, ∀ k ≤ ls.getD i 0, cIn (cTo ls i) (ls.take i).sum k ≤ 20000000000
  same : wTo ls ls.length = cTo ls ls.length
theorem lsOk {ls : List Nat} (h : ls.length ≤ 3) (h7 : ∀ n ∈ ls, n ≤ 7) : LsOk ls := by
  have key : okB ls = true ∧ ls.sum ≤ 21 := by
    match ls, h with
    | [], _ => exact ⟨by decide, by simp⟩
    | [a], _ => exact ⟨ok1 a (by have := h7 a (by simp); omega), by have := h7 a (by simp); simp; omega⟩
    | [a, b], _ => exact ⟨ok2 a (by have := h7 a (by simp); omega) b (by have := h7 b (by simp); omega), by have := h7 a (by simp); have := h7 b (by simp); simp; omega⟩
    | [a, b, c], _ => exact ⟨ok3 a (by have := h7 a (by simp); omega) b (by have := h7 b (by simp); omega) c (by have := h7 c (by simp); omega), by have := h7 a (by simp); have := h7 b (by simp); have := h7 c (by simp); simp; omega⟩
  obtain ⟨key, hs⟩ := key
  unfold okB at key
  simp only [Bool.and_eq_true, List.all_eq_true, List.mem_range, decide_eq_true_eq, beq_iff_eq] at key
  exact ⟨h, hs, fun i hi k hk => (key.1 i hi k (by omega)).1, fun i hi k hk => (key.1 i hi k (by omega)).2, key.2⟩
theorem sum_take_succ {ls : List Nat} {i : Nat} (h : i < ls.length) : (ls.take (i + 1)).sum = (ls.take i).sum + ls.getD i 0 := by
  rw [List.take_succ_eq_append_getElem h, List.sum_append]
  simp [h]
theorem sum_take_le (ls : List Nat) (i : Nat) : (ls.take i).sum ≤ ls.sum := by
  conv => rhs; rw [← List.take_append_drop i ls, List.sum_append]
  omega
theorem val_quo (n s k : Nat) : Value.int .i64 ((n : Int) * (s : Int) / (k : Int)) = .int .i64 ((n * s / k : Nat) : Int) := by rw [Int.natCast_ediv, Int.natCast_mul]
theorem val_quo1 (n s k : Nat) : Value.int .i64 ((n : Int) * (s : Int) / ((k : Int) + 1)) = .int .i64 ((n * s / (k + 1) : Nat) : Int) := by rw [Int.natCast_ediv, Int.natCast_mul, Int.natCast_add]; rfl
theorem val_quo2 (n s k : Nat) : Value.int .i64 ((n : Int) * ((s : Int) + 1) / ((k : Int) + 1)) = .int .i64 ((n * (s + 1) / (k + 1) : Nat) : Int) := by rw [Int.natCast_ediv, Int.natCast_mul, Int.natCast_add, Int.natCast_add]; rfl
theorem mul_bd2 (N u : Nat) (h1 : N ≤ 20000000000) (h2 : u ≤ 22) : (N : Int) * (u : Int) ≤ 440000000000 ∧ 0 ≤ (N : Int) * (u : Int) := by
  have h : N * u ≤ 20000000000 * 22 := Nat.mul_le_mul h1 h2
  have h1 : ((N * u : Nat) : Int) ≤ ((440000000000 : Nat) : Int) := Int.ofNat_le.2 h
  rw [Int.natCast_mul] at h1
  exact ⟨h1, Int.mul_nonneg (by omega) (by omega)⟩

abbrev natI (ls : List Nat) : List Value := ls.map fun n : Nat => Value.int .i64 (n : Int)
theorem Rd.natI {w : World} {a : Option Addr} {ls : List Nat} (h : Rd w a (natI ls)) (k : Nat) (hk : k < ls.length) :
    ∃ b off, a = some ⟨b, off, none⟩ ∧ b < w.heap.size ∧ w.cell? ⟨b, off + k, none⟩ = some (.int .i64 (ls.getD k 0 : Nat)) := by
  obtain ⟨b, off, h1, h2, h3⟩ := h.at k (by simpa using hk)
  exact ⟨b, off, h1, h2, by simpa [hk] using h3⟩

/-- The lengths of the threads. -/
def lensP (p : Prg) : List Nat := p.map List.length
def countSch (p : Prg) : Nat := if progValid p then wTo (lensP p) p.length else 0
theorem lensP_ok {p : Prg} (h : Valid p) : LsOk (lensP p) := lsOk (by simp [lensP]; exact h.len) fun n hn => by
  simp only [lensP, List.mem_map] at hn
  obtain ⟨xs, hx, rfl⟩ := hn
  obtain ⟨i, hi, rfl⟩ := List.mem_iff_getElem.1 hx
  exact h.row i _ (List.getElem?_eq_getElem hi)

end Go.Proofs.YtmeoclkngjboiaaDoor
