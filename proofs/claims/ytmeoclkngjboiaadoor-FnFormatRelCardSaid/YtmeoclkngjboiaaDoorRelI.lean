/-
  PROVED HERE: what slices.Clone, ClosureRel and AcyclicRel of both packages do. CONDITIONS: as each theorem states.
-/
import Derived.Test.YtmeoclkngjboiaaDoorRelH
import Derived.WalkSpells
namespace Go.Proofs.YtmeoclkngjboiaaDoor
open Go.RowKit
set_option linter.unusedVariables false
set_option linter.unusedSimpArgs false

theorem run_append_empty {P : Program} (w : World) (base : Nat) (t ty e : TypeId) (i : TypeInfo) (size : Nat) (ht : P.underlying t = some (.slice e)) (hi : P.info? e = some i) (hsize : i.size = size)
    (v : Value) (n : Nat) (xs : List Value) (hown : w.ownsRow base e size v n xs) (c : Nat) :
    (Builtin.append_ #[t, t] ty #[v, .slice none 0 c]).run P w = .ok v w := by
  rcases hown.2 with ⟨rfl, rfl⟩ | ⟨g, cap, cur, rfl, _, _, hnc, _⟩
  · simp [Builtin.append_, run_underlying ht, sizeOf, typeInfo, hi, Builtin.lenOf, Builtin.firstCells]
  · simp [Builtin.append_, run_underlying ht, sizeOf, typeInfo, hi, Builtin.lenOf, Builtin.firstCells, hnc, storeCells]

/-- 'append(s, x...)', s the call's own, x any slice that can be read: nil or empty too. -/
theorem wpList_append_rd {P : Program} {ops : Array Oper} {Q : Exit → Act → World → Prop} {a : Act} {w : World} {o : Oper} {rest : List Oper} (hgd : o.guard = none) (s x : Operand) (t : TypeId)
    (ho : o.op = .call { callee := .builtin .append, args := #[s, x], argTypes := #[t, t] })
    (base : Nat) (e : TypeId) (z : Value) (bytes : Nat) (ht : P.underlying t = some (.slice e)) (hi : (P.info? e).map (fun i => (i.zero, i.size, i.bytes)) = some (some z, 1, bytes)) (hzs : z.cells.size = 1)
    (v : Value) (n : Nat) (xs : List Value) (hs : a.eval s = v) (hown : w.ownsRow base e 1 v n xs)
    (src : Option Addr) (m c : Nat) (cs : List Value) (hx : a.eval x = .slice src m c) (hrd : Rd w src cs) (hl : cs.length = m) (h1 : ∀ u ∈ cs, u.oneCell' = true)
    (h63 : n + m ≤ 1000000000) (hbytes : bytes ≤ 1000) (hbase : base ≤ w.heap.size)
    (h : ∀ v' w', w'.ownsRow base e 1 v' (n + m) (xs ++ cs) → w.grownBy w' v.ownBlock → wpList P ops Q rest (a.put o.dst v') w') : wpList P ops Q (o :: rest) a w := by
  obtain ⟨i, h2, hz, h3, h4⟩ := info_parts hi
  cases src with
  | some ad =>
    refine wpList_append_own _ hgd s x t ho base e i z 1 bytes ht h2 hz h3 h4 hzs (by omega) v n xs hs hown ad m c cs hx (by omega) ?_ h1 (by unfold maxLen; omega) ?_ hbase fun v' w' h2 h3 _ => h v' w' h2 h3
    · intro j u hj
      rcases hrd with rfl | ⟨b, off, hb, _, hc⟩
      · simp at hj
      · cases hb
        rw [Addr.add_lit]
        exact hc j u hj
    · have : (n + m) * bytes ≤ 1000000000 * 1000 := Nat.mul_le_mul h63 hbytes
      omega
  | none =>
    rcases hrd with rfl | ⟨b, off, hb, _⟩
    · obtain rfl : m = 0 := by simpa using hl.symm
      refine wpList_plain hgd fun K hK => ?_
      have hrun := run_append_empty (P := P) w base t o.type e i 1 ht h2 h3 v n xs hown c
      unfold Oper.wp execOp
      simp only [ho, resolve, invoke, builtin, Sem.run_bind, Sem.run_pure, Result.andThen_ok, List.map_toArray, List.map_cons, List.map_nil, hs, hx, hrun]
      exact hK _ _ (h v w (by simpa using hown) ⟨rfl, rfl, rfl, Nat.le_refl _, fun _ _ _ => rfl⟩)
    · cases hb

theorem natV_oneCell (ns : List Nat) : ∀ u ∈ natV ns, u.oneCell' = true := by
  intro u hu
  obtain ⟨n, _, rfl⟩ := List.mem_map.1 hu
  rfl

/-- One step of the closure: row i gets row m, if it has m. -/
def wStep (m : Nat) (rs : List Nat) (i : Nat) : List Nat := if bit rs i m then rs.set i (rs.getD i 0 ||| rs.getD m 0) else rs
def cloRow (m k : Nat) (rs : List Nat) : List Nat := (List.range k).foldl (wStep m) rs
def cloUpto (n k : Nat) (rs : List Nat) : List Nat := (List.range k).foldl (fun rs m => cloRow m n rs) rs
def closureN (rs : List Nat) : List Nat := cloUpto rs.length rs.length rs
theorem cloRow_succ (m k : Nat) (rs : List Nat) : cloRow m (k + 1) rs = wStep m (cloRow m k rs) k := by simp [cloRow, List.range_succ]
theorem cloUpto_succ (n k : Nat) (rs : List Nat) : cloUpto n (k + 1) rs = cloRow k n (cloUpto n k rs) := by simp [cloUpto, List.range_succ]
theorem length_wStep (m : Nat) (rs : List Nat) (i : Nat) : (wStep m rs i).length = rs.length := by unfold wStep; split <;> simp
theorem length_cloRow (m k : Nat) (rs : List Nat) : (cloRow m k rs).length = rs.length := by
  induction k with
  | zero => rfl
  | succ k ih => rw [cloRow_succ, length_wStep, ih]
theorem length_cloUpto (n k : Nat) (rs : List Nat) : (cloUpto n k rs).length = rs.length := by
  induction k with
  | zero => rfl
  | succ k ih => rw [cloUpto_succ, length_cloRow, ih]
theorem length_closureN (rs : List Nat) : (closureN rs).length = rs.length := length_cloUpto _ _ _
theorem getD_lt {rs : List Nat} (h : Ok rs) (i : Nat) : rs.getD i 0 < 2 ^ rs.length := by
  by_cases hi : i < rs.length
  · simp only [List.getD, List.getElem?_eq_getElem hi, Option.getD_some]
    exact h.row _ (List.getElem_mem hi)
  · have h0 : rs[i]? = none := List.getElem?_eq_none (by omega)
    have e : rs.getD i 0 = 0 := by simp [List.getD, h0]
    rw [e]
    exact Nat.two_pow_pos _
theorem ok_wStep (m : Nat) {rs : List Nat} (h : Ok rs) (i : Nat) : Ok (wStep m rs i) := by
  unfold wStep
  split
  · exact ok_set h (Nat.or_lt_two_pow (getD_lt h i) (getD_lt h m))
  · exact h
theorem ok_cloRow (m k : Nat) {rs : List Nat} (h : Ok rs) : Ok (cloRow m k rs) := by
  induction k with
  | zero => exact h
  | succ k ih => rw [cloRow_succ]; exact ok_wStep m ih k
theorem ok_cloUpto (n k : Nat) {rs : List Nat} (h : Ok rs) : Ok (cloUpto n k rs) := by
  induction k with
  | zero => exact h
  | succ k ih => rw [cloUpto_succ]; exact ok_cloRow _ _ ih
theorem ok_closure {rs : List Nat} (h : Ok rs) : Ok (closureN rs) := ok_cloUpto _ _ h
theorem wStep_yes {m i x y : Nat} {rs : List Nat} (hb : bit rs i m = true) (hx : rs[i]? = some x) (hy : rs[m]? = some y) : wStep m rs i = rs.set i (x ||| y) := by
  unfold wStep
  rw [if_pos hb]
  simp [List.getD, hx, hy]
theorem wStep_no {m i : Nat} {rs : List Nat} (hb : bit rs i m = false) : wStep m rs i = rs := by
  unfold wStep
  rw [if_neg (by simp [hb])]

end Go.Proofs.YtmeoclkngjboiaaDoor
