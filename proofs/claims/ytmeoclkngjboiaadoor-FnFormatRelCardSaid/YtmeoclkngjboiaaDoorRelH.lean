/-
  PROVED HERE: what ComposeRel of both packages does. CONDITIONS: as each theorem states.
-/
import Derived.Test.YtmeoclkngjboiaaDoorRelG
namespace Go.Proofs.YtmeoclkngjboiaaDoor
open Go.RowKit
set_option linter.unusedVariables false
set_option linter.unusedSimpArgs false

/-- Append of one cell that has just been laid in a block of its own, in a region that draws nothing. -/
theorem wpList_append_one {P : Program} {ops : Array Oper} {Q : Exit → Act → World → Prop} {a : Act} {w : World} {o : Oper} {rest : List Oper} (hgd : o.guard = none) (s x : Operand) (t : TypeId)
    (ho : o.op = .call { callee := .builtin .append, args := #[s, x], argTypes := #[t, t] })
    (base : Nat) (e : TypeId) (z : Value) (bytes : Nat) (ht : P.underlying t = some (.slice e)) (hi : (P.info? e).map (fun i => (i.zero, i.size, i.bytes)) = some (some z, 1, bytes)) (hzs : z.cells.size = 1)
    (v : Value) (n : Nat) (xs : List Value) (hs : a.eval s = v) (hown : w.ownsRow base e 1 v n xs)
    (ad : Addr) (u : Value) (hx : a.eval x = .slice (some ad) 1 1) (hu : w.cell? ad = some u) (h1 : u.oneCell' = true)
    (h63 : n + 1 ≤ 1000000000) (hbytes : bytes ≤ 1000) (hbase : base ≤ w.heap.size)
    (h : ∀ v' w', w'.ownsRow base e 1 v' (n + 1) (xs ++ [u]) → w.grownBy w' v.ownBlock → wpList P ops Q rest (a.put o.dst v') w') : wpList P ops Q (o :: rest) a w := by
  obtain ⟨i, h2, hz, h3, h4⟩ := info_parts hi
  refine wpList_append_own _ hgd s x t ho base e i z 1 bytes ht h2 hz h3 h4 hzs (by omega) v n xs hs hown ad 1 1 [u] hx rfl ?_ (by simpa using h1) (by unfold maxLen; omega) ?_ hbase fun v' w' h2 h3 _ => h v' w' h2 h3
  · intro j u' hj
    match j, hj with
    | 0, hj => simp at hj; subst hj; simpa [Addr.add] using hu
  · have : (n + 1) * bytes ≤ 1000000000 * 1000 := Nat.mul_le_mul h63 hbytes
    omega

/-- Some m below j lies between. -/
def midB (us vs : List Nat) (i c : Nat) (j : Nat) : Bool := (List.range j).any fun m => bit us i m && bit vs m c
theorem mid_succ (us vs : List Nat) (i c j : Nat) : midB us vs i c (j + 1) = (midB us vs i c j || (bit us i j && bit vs j c)) := by
  simp [midB, List.range_succ]
theorem mid_zero (us vs : List Nat) (i c : Nat) : midB us vs i c 0 = false := rfl
def composeN (us vs : List Nat) : List Nat := ofBits us.length fun i c => midB us vs i c us.length
theorem length_composeN (us vs : List Nat) : (composeN us vs).length = us.length := length_ofBits _ _

theorem row_eq {x n : Nat} {p : Nat → Bool} (hx : x < 2 ^ n) (h : ∀ c, c < n → x.testBit c = p c) : x = rowN p n := by
  apply Nat.eq_of_testBit_eq
  intro c
  rw [testBit_rowN]
  by_cases hc : c < n
  · rw [h c hc]; simp [hc]
  · rw [Nat.testBit_lt_two_pow (Nat.lt_of_lt_of_le hx (Nat.pow_le_pow_right (by omega) (by omega)))]; simp [hc]

end Go.Proofs.YtmeoclkngjboiaaDoor
