/-
  PROVED HERE: the breadth-first search for a cycle as a function on lists; slices of slices of numbers in memory. CONDITIONS: as each lemma states.
-/
import Derived.Test.YtdppidhnlbfpmaaRelI
import Derived.Test.YtdppidhnlbfpmaaRelE
namespace Go.Proofs.Ytdppidhnlbfpmaa
open Go.RowKit
set_option linter.unusedVariables false
set_option linter.unusedSimpArgs false

def lastD (p : List Nat) : Nat := p.getLastD 0
def extStep (r p : List Nat) (st : List (List Nat) × Nat) (k : Nat) : List (List Nat) × Nat :=
  if bit r (lastD p) k && !st.2.testBit k then (st.1 ++ [p ++ [k]], st.2 ||| 2 ^ k) else st
def extUpto (r p : List Nat) (k : Nat) (st : List (List Nat) × Nat) : List (List Nat) × Nat := (List.range k).foldl (extStep r p) st
def bfsGo (r : List Nat) (start : Nat) : Nat → Nat → List (List Nat) → Nat → List Nat
  | 0, _, _, _ => []
  | f + 1, i, ps, seen => match ps[i]? with
    | none => []
    | some p => if bit r (lastD p) start then p else bfsGo r start f (i + 1) (extUpto r p r.length (ps, seen)).1 (extUpto r p r.length (ps, seen)).2
/-- A shortest cycle from an element, or nothing. -/
def pathN (r : List Nat) (start : Nat) : List Nat := bfsGo r start 20 0 [[start]] 0
def better (best p : List Nat) : List Nat := if decide (0 < p.length) && (decide (best.length = 0) || decide (p.length < best.length)) then p else best
def cycUpto (r : List Nat) (k : Nat) : List Nat := (List.range k).foldl (fun best i => better best (pathN r i)) []
def cycleN (r : List Nat) : List Nat := cycUpto r r.length

theorem ext_succ (r p : List Nat) (k : Nat) (st : List (List Nat) × Nat) : extUpto r p (k + 1) st = extStep r p (extUpto r p k st) k := by simp [extUpto, List.range_succ]
theorem cyc_succ (r : List Nat) (k : Nat) : cycUpto r (k + 1) = better (cycUpto r k) (pathN r k) := by simp [cycUpto, List.range_succ]
theorem go_hit {r : List Nat} {start f i seen : Nat} {ps : List (List Nat)} {p : List Nat} (h : ps[i]? = some p) (hb : bit r (lastD p) start = true) : bfsGo r start (f + 1) i ps seen = p := by
  rw [bfsGo, h]; simp [hb]
theorem go_miss {r : List Nat} {start f i seen : Nat} {ps : List (List Nat)} {p : List Nat} (h : ps[i]? = some p) (hb : bit r (lastD p) start = false) :
    bfsGo r start (f + 1) i ps seen = bfsGo r start f (i + 1) (extUpto r p r.length (ps, seen)).1 (extUpto r p r.length (ps, seen)).2 := by
  rw [bfsGo, h]; simp [hb]
theorem go_end {r : List Nat} {start f i seen : Nat} {ps : List (List Nat)} (h : ps[i]? = none) : bfsGo r start (f + 1) i ps seen = [] := by
  rw [bfsGo, h]

/-- What holds of the paths that have been extended. -/
structure Bfs (n : Nat) (ps : List (List Nat)) (seen : Nat) : Prop where
  len : ps.length = popUpto n seen + 1
  lt : seen < 2 ^ n
  path : ∀ (j : Nat) (p : List Nat), ps[j]? = some p → p.length ≤ j + 1 ∧ 1 ≤ p.length ∧ ∀ x ∈ p, x < n
theorem lastD_mem {p : List Nat} (h : 1 ≤ p.length) : lastD p ∈ p := by
  cases p with
  | nil => simp at h
  | cons a l => simp only [lastD]; rw [List.getLastD_eq_getLast?, List.getLast?_eq_some_getLast (by simp)]; exact List.getLast_mem _
theorem lastD_at {p : List Nat} (h : 1 ≤ p.length) : p[p.length - 1]? = some (lastD p) := by
  cases p with
  | nil => simp at h
  | cons a l =>
    simp only [lastD]
    rw [List.getLastD_eq_getLast?, List.getLast?_eq_getElem?, List.getElem?_eq_getElem (show (a :: l).length - 1 < (a :: l).length by simp)]
    rfl
theorem pop_or {n seen k : Nat} (hk : k < n) (h : seen.testBit k = false) : popUpto n (seen ||| 2 ^ k) = popUpto n seen + 1 := by
  have gen : ∀ m, popUpto m (seen ||| 2 ^ k) = popUpto m seen + if k < m then 1 else 0 := by
    intro m
    induction m with
    | zero => simp [pop_zero]
    | succ m ih =>
      rw [pop_succ, pop_succ, ih, Nat.testBit_or, Nat.testBit_two_pow]
      by_cases hkm : k = m
      · subst hkm; simp [h]
      · have : (k < m + 1) = (k < m) := by apply propext; omega
        simp [hkm, this]
        omega
  rw [gen, if_pos hk]
theorem Bfs.le {n seen : Nat} {ps : List (List Nat)} (h : Bfs n ps seen) (hn : n ≤ 16) : ps.length ≤ 17 := by
  have := h.len; have := pop_le n seen; omega
theorem bfs_start {n start : Nat} (h : start < n) : Bfs n [[start]] 0 := by
  refine ⟨by simp [popUpto], Nat.two_pow_pos _, fun j p hp => ?_⟩
  match j, hp with
  | 0, hp => simp at hp; subst hp; simpa using h
theorem bfs_step {n seen i k : Nat} {ps : List (List Nat)} {p : List Nat} (h : Bfs n ps seen) (hp : ps[i]? = some p) (hk : k < n) (hs : seen.testBit k = false) : Bfs n (ps ++ [p ++ [k]]) (seen ||| 2 ^ k) := by
  obtain ⟨h1, h2, h3⟩ := h.path i p hp
  have hi := (List.getElem?_eq_some_iff.1 hp).1
  refine ⟨by rw [List.length_append, pop_or hk hs, h.len]; rfl, Nat.or_lt_two_pow h.lt (Nat.pow_lt_pow_right (by omega) hk), fun j q hq => ?_⟩
  by_cases hj : j < ps.length
  · rw [List.getElem?_append_left hj] at hq
    exact h.path j q hq
  · have hj' : j = ps.length := by
      have := (List.getElem?_eq_some_iff.1 hq).1
      simp at this
      omega
    subst hj'
    simp at hq
    subst hq
    refine ⟨by simp; omega, by simp, fun x hx => ?_⟩
    rcases List.mem_append.1 hx with hx | hx
    · exact h3 x hx
    · simp at hx; omega

/-- The paths as they lie in memory: each in a slice of the call's own. -/
def Cells (w : World) (base : Nat) (vs : List Value) (ps : List (List Nat)) : Prop :=
  vs.length = ps.length ∧ ∀ (j : Nat) (u : Value) (p : List Nat), vs[j]? = some u → ps[j]? = some p → ∃ a cap, u = .slice a p.length cap ∧ w.ownsRow base 3 1 (.slice a p.length cap) p.length (natV p)

theorem Cells.at {w : World} {base : Nat} {vs : List Value} {ps : List (List Nat)} (h : Cells w base vs ps) {i : Nat} {p : List Nat} (hp : ps[i]? = some p) :
    ∃ a cap, vs[i]? = some (.slice a p.length cap) ∧ w.ownsRow base 3 1 (.slice a p.length cap) p.length (natV p) := by
  have hi := (List.getElem?_eq_some_iff.1 hp).1
  obtain ⟨a, cap, hu, ho⟩ := h.2 i _ p (List.getElem?_eq_getElem (by rw [h.1]; exact hi)) hp
  exact ⟨a, cap, by rw [List.getElem?_eq_getElem (by rw [h.1]; exact hi), hu], ho⟩
theorem Cells.below {w w' : World} {base : Nat} {vs : List Value} {ps : List (List Nat)} (h : Cells w base vs ps) (hb : Below w.heap.size w w') : Cells w' base vs ps :=
  ⟨h.1, fun j u p hu hp => by obtain ⟨a, cap, e, ho⟩ := h.2 j u p hu hp; exact ⟨a, cap, e, own_below ho hb⟩⟩
/-- A write to a block of slices, or to none that was there, turns no path. -/
theorem Cells.grown {w w' : World} {base : Nat} {vs : List Value} {ps : List (List Nat)} {row : Option Nat} (h : Cells w base vs ps) (hg : w.grownBy w' row)
    (hne : ∀ b, row = some b → (∃ cur fz, w.heap[b]? = some (.cells cur 23 fz)) ∨ w.heap.size ≤ b) : Cells w' base vs ps :=
  ⟨h.1, fun j u p hu hp => by
    obtain ⟨a, cap, e, ho⟩ := h.2 j u p hu hp
    refine ⟨a, cap, e, own_kept ho hg fun b hb he => ?_⟩
    rcases hne b he.symm with ⟨cur, fz, hc⟩ | hb'
    · rcases ho.2 with ⟨hv, _⟩ | ⟨g, cap', cur', hv, _, hg', _⟩
      · simp only [Value.slice.injEq] at hv
        rw [hv.1] at hb; cases hb
      · simp only [Value.slice.injEq] at hv
        rw [hv.1] at hb
        simp only [blk, Option.some.injEq] at hb
        subst hb
        rw [hg'] at hc
        simp at hc
    · have := (own_blk ho b hb).2
      omega⟩
theorem Cells.snoc {w : World} {base : Nat} {vs : List Value} {ps : List (List Nat)} (h : Cells w base vs ps) {a : Option Addr} {cap : Nat} {p : List Nat} (ho : w.ownsRow base 3 1 (.slice a p.length cap) p.length (natV p)) :
    Cells w base (vs ++ [.slice a p.length cap]) (ps ++ [p]) := by
  refine ⟨by simp [h.1], fun j u q hu hq => ?_⟩
  by_cases hj : j < ps.length
  · rw [List.getElem?_append_left (by rw [h.1]; exact hj)] at hu
    rw [List.getElem?_append_left hj] at hq
    exact h.2 j u q hu hq
  · have hj' : j = ps.length := by
      have := (List.getElem?_eq_some_iff.1 hq).1
      simp at this
      omega
    subst hj'
    simp at hq
    subst hq
    rw [← h.1] at hu
    simp at hu
    exact ⟨a, cap, hu.symm, ho⟩

theorem Try.info_ints : (Try.prog.info? 23).map (fun i => (i.zero, i.size, i.bytes)) = some (some (.slice none 0 0), 1, 24) := by kernel_rfl

/-- A slice in the middle of a row of the call's own: what it holds from its start on. -/
def Mid (w : World) (base e : Nat) (v : Value) (n : Nat) (xs : List Value) : Prop :=
  xs.length = n ∧ ∃ G off cap cur, v = .slice (some ⟨G, off, none⟩) n cap ∧ base ≤ G ∧ w.heap[G]? = some (.cells cur e (0, 0)) ∧ n ≤ cap ∧ cap ≤ maxLen ∧ off + cap ≤ cur.size ∧ ∀ j u, xs[j]? = some u → cur[off + j]? = some u
theorem Mid.own {w : World} {base e n : Nat} {g : Nat} {cap : Nat} {xs : List Value} (h : w.ownsRow base e 1 (.slice (some ⟨g, 0, none⟩) n cap) n xs) : Mid w base e (.slice (some ⟨g, 0, none⟩) n cap) n xs := by
  refine ⟨by simpa using h.1, ?_⟩
  rcases h.2 with ⟨hv, _⟩ | ⟨g', cap', cur, hv, hb, hg, hnc, hcm, hcs, ht⟩
  · simp at hv
  · simp only [Value.slice.injEq, Option.some.injEq, Addr.mk.injEq, and_true, true_and] at hv
    obtain ⟨rfl, rfl⟩ := hv
    refine ⟨g, 0, cap, cur, rfl, hb, hg, hnc, hcm, by omega, fun j u hj => ?_⟩
    rw [← ht, List.getElem?_take] at hj
    split at hj
    · simpa using hj
    · cases hj
theorem Mid.shape {w : World} {base e n : Nat} {v : Value} {xs : List Value} (h : Mid w base e v n xs) : ∃ G off cap, v = .slice (some ⟨G, off, none⟩) n cap ∧ base ≤ G ∧ G < w.heap.size := by
  obtain ⟨_, G, off, cap, cur, hv, hb, hg, _⟩ := h
  exact ⟨G, off, cap, hv, hb, (Array.getElem?_eq_some_iff.1 hg).1⟩
theorem Mid.cell {w : World} {base e n G off cap : Nat} {xs : List Value} (h : Mid w base e (.slice (some ⟨G, off, none⟩) n cap) n xs) {j : Nat} {u : Value} (hj : xs[j]? = some u) : w.cell? ⟨G, off + j, none⟩ = some u := by
  obtain ⟨_, G', off', cap', cur, hv, hb, hg, _, _, _, hc⟩ := h
  simp only [Value.slice.injEq, Option.some.injEq, Addr.mk.injEq, and_true, true_and] at hv
  obtain ⟨⟨rfl, rfl⟩, rfl⟩ := hv
  rw [cell_of_row w G (off + j) cur e (0, 0) hg]
  exact hc j u hj
theorem Mid.block {w : World} {base e n : Nat} {v : Value} {xs : List Value} (h : Mid w base e v n xs) : ∀ b, v.ownBlock = some b → base ≤ b ∧ ∃ cur fz, w.heap[b]? = some (.cells cur e fz) := by
  obtain ⟨_, G, off, cap, cur, rfl, hb, hg, _⟩ := h
  intro b hb'
  simp [Value.ownBlock] at hb'
  subst hb'
  exact ⟨hb, cur, (0, 0), hg⟩
theorem Mid.kept {w w' : World} {base e n : Nat} {v : Value} {xs : List Value} (h : Mid w base e v n xs) {row : Option Nat} (hg : w.grownBy w' row) (hne : row = none ∨ v.ownBlock ≠ row) : Mid w' base e v n xs := by
  obtain ⟨h1, G, off, cap, cur, rfl, hb, hh, r⟩ := h
  refine ⟨h1, G, off, cap, cur, rfl, hb, ?_, r⟩
  rw [hg.block G (Array.getElem?_eq_some_iff.1 hh).1 (by
    rcases hne with h | h
    · rw [h]; simp
    · simpa [Value.ownBlock] using h)]
  exact hh
theorem Mid.below {w w' : World} {base e n : Nat} {v : Value} {xs : List Value} (h : Mid w base e v n xs) (hb : Below w.heap.size w w') : Mid w' base e v n xs :=
  h.kept (row := none) ⟨hb.os, hb.tape, hb.output, hb.size, fun k hk _ => hb.block k hk⟩ (.inl rfl)
/-- 's[1:]'. -/
theorem Mid.tail {w : World} {base e n G off cap : Nat} {xs : List Value} (h : Mid w base e (.slice (some ⟨G, off, none⟩) n cap) n xs) (hn : 1 ≤ n) :
    Mid w base e (.slice (if cap = 1 then some ⟨G, off, none⟩ else some ⟨G, off + 1, none⟩) (n - 1) (cap - 1)) (n - 1) xs.tail := by
  obtain ⟨h1, G', off', cap', cur, hv, hb, hg, hnc, hcm, hcs, hc⟩ := h
  simp only [Value.slice.injEq, Option.some.injEq, Addr.mk.injEq, and_true, true_and] at hv
  obtain ⟨⟨rfl, rfl⟩, rfl⟩ := hv
  refine ⟨by simp [h1], ?_⟩
  by_cases h2 : cap = 1
  · rw [if_pos h2]
    refine ⟨G, off, cap - 1, cur, rfl, hb, hg, by omega, by omega, by omega, fun j u hj => ?_⟩
    rw [← List.drop_one] at hj
    have := (List.getElem?_eq_some_iff.1 hj).1
    simp at this
    omega
  · rw [if_neg h2]
    refine ⟨G, off + 1, cap - 1, cur, rfl, hb, hg, by omega, by omega, by omega, fun j u hj => ?_⟩
    rw [← List.drop_one, List.getElem?_drop] at hj
    have := hc _ u hj
    rw [show off + 1 + j = off + (1 + j) by omega]
    exact this

theorem run_append_mid {P : Program} {w : World} (base : Nat) (t ty e : TypeId) (i : TypeInfo) (z : Value) (bytes : Nat) (ht : P.underlying t = some (.slice e)) (hi : P.info? e = some i) (hz : i.zero = some z)
    (hsize : i.size = 1) (hby : i.bytes = bytes) (hzs : z.cells.size = 1)
    (v : Value) (n : Nat) (xs : List Value) (hown : Mid w base e v n xs)
    (a : Addr) (u : Value) (hu : w.cell? a = some u) (h1 : u.oneCell' = true)
    (h63 : n + 1 ≤ maxLen) (hbytes : (n + 1) * bytes ≤ 140737488355328) (hbase : base ≤ w.heap.size) :
    ∃ v' w', (Builtin.append_ #[t, t] ty #[v, .slice (some a) 1 1]).run P w = .ok v' w' ∧ Mid w' base e v' (n + 1) (xs ++ [u]) ∧ w.grownBy w' v.ownBlock := by
  obtain ⟨hl, G, off, cap, cur, rfl, hb, hg, hnc, hcm, hcs, hc⟩ := hown
  have hcells : ∀ j u', [u][j]? = some u' → w.cell? (a.add j) = some u' := by
    intro j u' hj
    match j, hj with
    | 0, hj => simp at hj; subst hj; simpa [Addr.add] using hu
  by_cases hroom : n + 1 ≤ cap
  · have hcell : w.cell? ⟨G, off + n, none⟩ = cur[off + n]? := cell_of_row w G (off + n) cur e (0, 0) hg
    have hin : off + n < cur.size := by omega
    have hr := run_append_room_cells (P := P) w t ty e i ht hi G off n cap a 1 1 [u] (by rw [hsize]; rfl) hcells (by simpa using h1) hroom
      (fun j hj => by
        have : j = 0 := by simpa using hj
        subst this
        rw [hsize, Nat.mul_one, Nat.add_zero, hcell]; simp [hin])
      (fun j hj => by
        have : j = 0 := by simpa using hj
        subst this
        exact frozen_of_row w G _ cur e hg)
    rw [hsize, Nat.mul_one] at hr
    have hset : w.setCells G (off + n) [u] = w.setCell ⟨G, off + n, none⟩ u := by simp [World.setCells]
    rw [hset] at hr
    refine ⟨_, _, hr, ⟨by simp [hl], G, off, cap, cur.setIfInBounds (off + n) u, rfl, hb, heap_setCell_same w G (off + n) cur e u hg, hroom, hcm, by simpa using hcs, ?_⟩, ⟨rfl, rfl, rfl, by simp, fun k _ hk => heap_setCell_other w ⟨G, off + n, none⟩ k u (fun e => hk (by simp [Value.ownBlock, e]))⟩⟩
    intro j u' hj
    by_cases hjn : j < xs.length
    · rw [List.getElem?_append_left hjn] at hj
      rw [Array.getElem?_setIfInBounds_ne (by omega)]
      exact hc j u' hj
    · have hjn' : j = n := by
        have := (List.getElem?_eq_some_iff.1 hj).1
        simp at this
        omega
      subst hjn'
      rw [← hl] at hj
      simp at hj
      subst hj
      simp [hin]
  · have holds : ∀ j u', xs[j]? = some u' → w.cell? ((⟨G, off, none⟩ : Addr).add j) = some u' := by
      intro j u' hj
      rw [Addr.add_lit, cell_of_row w G (off + j) cur e (0, 0) hg]
      exact hc j u' hj
    obtain ⟨v', w', hr, ho, hgr⟩ := run_append_arg_grows (P := P) w t ty e i z 1 bytes ht hi hz hsize hby hzs (by omega) ⟨G, off, none⟩ n cap xs (by simpa using hl) holds a 1 1 [u] rfl hcells (by omega) h63 hbytes
    refine ⟨v', w', hr, ?_, ⟨hgr.os, hgr.tape, hgr.output, hgr.size, fun k hk _ => hgr.block k hk (by simp)⟩⟩
    obtain ⟨a', cap', rfl, hb'⟩ := own_shape ho
    obtain ⟨g, rfl, hg1, hg2⟩ := own_some ho (by omega)
    have hm := Mid.own ho
    obtain ⟨h1', G', off', cap'', cur', hv, hb'', r⟩ := hm
    exact ⟨h1', G', off', cap'', cur', hv, Nat.le_trans hbase hb'', r⟩

theorem wpList_append_mid {P : Program} {ops : Array Oper} {Q : Exit → Act → World → Prop} {a : Act} {w : World} {o : Oper} {rest : List Oper} (hgd : o.guard = none) (s x : Operand) (t : TypeId)
    (ho : o.op = .call { callee := .builtin .append, args := #[s, x], argTypes := #[t, t] })
    (base : Nat) (e : TypeId) (z : Value) (bytes : Nat) (ht : P.underlying t = some (.slice e)) (hi : (P.info? e).map (fun i => (i.zero, i.size, i.bytes)) = some (some z, 1, bytes)) (hzs : z.cells.size = 1)
    (v : Value) (n : Nat) (xs : List Value) (hs : a.eval s = v) (hown : Mid w base e v n xs)
    (ad : Addr) (u : Value) (hx : a.eval x = .slice (some ad) 1 1) (hu : w.cell? ad = some u) (h1 : u.oneCell' = true)
    (h63 : n + 1 ≤ 1000000000) (hbytes : bytes ≤ 1000) (hbase : base ≤ w.heap.size)
    (h : ∀ v' w', Mid w' base e v' (n + 1) (xs ++ [u]) → w.grownBy w' v.ownBlock → wpList P ops Q rest (a.put o.dst v') w') : wpList P ops Q (o :: rest) a w := by
  obtain ⟨i, h2, hz, h3, h4⟩ := info_parts hi
  have hb : (n + 1) * bytes ≤ 140737488355328 := by
    have : (n + 1) * bytes ≤ 1000000000 * 1000 := Nat.mul_le_mul h63 hbytes
    omega
  obtain ⟨v', w', hr, hm, hg⟩ := run_append_mid (P := P) (w := w) base t o.type e i z bytes ht h2 hz h3 h4 hzs v n xs hown ad u hu h1 (by unfold maxLen; omega) hb hbase
  refine wpList_plain hgd fun K hK => ?_
  unfold Oper.wp execOp
  simp only [ho, resolve, invoke, builtin, Sem.run_bind, Sem.run_pure, Result.andThen_ok, List.map_toArray, List.map_cons, List.map_nil, hs, hx, hr]
  exact hK _ _ (h v' w' hm hg)
end Go.Proofs.Ytdppidhnlbfpmaa
