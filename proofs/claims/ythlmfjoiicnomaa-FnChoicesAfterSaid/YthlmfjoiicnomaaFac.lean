/-
  PROVED HERE: what CountSchedules of both packages does. what CountOps of both packages does. plain facts on programs: a smaller program is valid too and has no more executions; counts of instructions. CONDITIONS: as each theorem states.
-/
import Derived.Test.YthlmfjoiicnomaaVav
import Derived.Test.YthlmfjoiicnomaaBf
import Derived.Test.YthlmfjoiicnomaaFmt
namespace Go.Proofs.Ythlmfjoiicnomaa
open Go.RowKit
set_option linter.unusedVariables false
set_option linter.unusedSimpArgs false

/-- The number n after k rounds, at the sum s; after i threads. -/
def wIn (n s : Nat) : Nat → Nat
  | 0 => n
  | k + 1 => wIn n s k * (s - k) / (k + 1)
def wTo (ls : List Nat) : Nat → Nat
  | 0 => 1
  | i + 1 => wIn (wTo ls i) (ls.sum - (ls.take i).sum) (ls.getD i 0)
/-- The number c after k rounds, after s others; after i threads. -/
def cIn (n s : Nat) : Nat → Nat
  | 0 => n
  | k + 1 => cIn n s k * (s + k + 1) / (k + 1)
def cTo (ls : List Nat) : Nat → Nat
  | 0 => 1
  | i + 1 => cIn (cTo ls i) (ls.take i).sum (ls.getD i 0)
def okB (ls : List Nat) : Bool :=
  (List.range ls.length).all (fun i => (List.range (ls.getD i 0 + 1)).all fun k => decide (wIn (wTo ls i) (ls.sum - (ls.take i).sum) k ≤ 20000000000) && decide (cIn (cTo ls i) (ls.take i).sum k ≤ 20000000000)) &&
  (wTo ls ls.length == cTo ls ls.length)
theorem ok1 : ∀ a < 8, okB [a] = true := by decide +kernel
theorem ok2 : ∀ a < 8, ∀ b < 8, okB [a, b] = true := by decide +kernel
theorem ok3 : ∀ a < 8, ∀ b < 8, ∀ c < 8, okB [a, b, c] = true := by decide +kernel
structure LsOk (ls : List Nat) : Prop where
  len : ls.length ≤ 3
  sum : ls.sum ≤ 21
  w : ∀ i < ls.length, ∀ k ≤ ls.getD i 0, wIn (wTo ls i) (ls.sum - (ls.take i).sum) k ≤ 20000000000
  c : ∀ i < ls.length, ∀ k ≤ ls.getD i 0, cIn (cTo ls i) (ls.take i).sum k ≤ 20000000000
  same : wTo ls ls.length = cTo ls ls.length
theorem lsOk {ls : List Nat} (h : ls.length ≤ 3) (h7 : ∀ n ∈ ls, n ≤ 7) : LsOk ls := by
  have key : okB ls = true ∧ ls.sum ≤ 21 := by
    match ls, h with
    | [], _ => exact ⟨by decide, by simp⟩
    | [a], _ => exact ⟨ok1 a (by have := h7 a (by simp); omega), by have := h7 a (by simp); simp; omega⟩
    | [a, b], _ => exact ⟨ok2 a (by have := h7 a (by simp); omega) b (by have := h7 b (by simp); omega), by have := h7 a (by simp); have := h7 b (by simp); simp; omega⟩
    | [a, b, c], _ => exact ⟨ok3 a (by have := h7 a (by simp); omega) b (by have := h7 b (by simp); omega) c (by have := h7 c (by simp); omega), by have := h7 a (by simp); have := h7 b (by simp); have := h7 c (by simp); simp; omega⟩
  obtain ⟨key, hs⟩ := key
  unfold okB at key
  simp only [Bool.and_eq_true, List.all_eq_true, List.mem_range, decide_eq_true_eq, beq_iff_eq] at key
  exact ⟨h, hs, fun i hi k hk => (key.1 i hi k (by omega)).1, fun i hi k hk => (key.1 i hi k (by omega)).2, key.2⟩
theorem sum_take_succ {ls : List Nat} {i : Nat} (h : i < ls.length) : (ls.take (i + 1)).sum = (ls.take i).sum + ls.getD i 0 := by
  rw [List.take_succ_eq_append_getElem h, List.sum_append]
  simp [h]
theorem sum_take_le (ls : List Nat) (i : Nat) : (ls.take i).sum ≤ ls.sum := by
  conv => rhs; rw [← List.take_append_drop i ls, List.sum_append]
  omega
theorem val_quo (n s k : Nat) : Value.int .i64 ((n : Int) * (s : Int) / (k : Int)) = .int .i64 ((n * s / k : Nat) : Int) := by rw [Int.natCast_ediv, Int.natCast_mul]
theorem val_quo1 (n s k : Nat) : Value.int .i64 ((n : Int) * (s : Int) / ((k : Int) + 1)) = .int .i64 ((n * s / (k + 1) : Nat) : Int) := by rw [Int.natCast_ediv, Int.natCast_mul, Int.natCast_add]; rfl
theorem val_quo2 (n s k : Nat) : Value.int .i64 ((n : Int) * ((s : Int) + 1) / ((k : Int) + 1)) = .int .i64 ((n * (s + 1) / (k + 1) : Nat) : Int) := by rw [Int.natCast_ediv, Int.natCast_mul, Int.natCast_add, Int.natCast_add]; rfl
theorem mul_bd2 (N u : Nat) (h1 : N ≤ 20000000000) (h2 : u ≤ 22) : (N : Int) * (u : Int) ≤ 440000000000 ∧ 0 ≤ (N : Int) * (u : Int) := by
  have h : N * u ≤ 20000000000 * 22 := Nat.mul_le_mul h1 h2
  have h1 : ((N * u : Nat) : Int) ≤ ((440000000000 : Nat) : Int) := Int.ofNat_le.2 h
  rw [Int.natCast_mul] at h1
  exact ⟨h1, Int.mul_nonneg (by omega) (by omega)⟩

abbrev natI (ls : List Nat) : List Value := ls.map fun n : Nat => Value.int .i64 (n : Int)
theorem Rd.natI {w : World} {a : Option Addr} {ls : List Nat} (h : Rd w a (natI ls)) (k : Nat) (hk : k < ls.length) :
    ∃ b off, a = some ⟨b, off, none⟩ ∧ b < w.heap.size ∧ w.cell? ⟨b, off + k, none⟩ = some (.int .i64 (ls.getD k 0 : Nat)) := by
  obtain ⟨b, off, h1, h2, h3⟩ := h.at k (by simpa using hk)
  exact ⟨b, off, h1, h2, by simpa [hk] using h3⟩

/-- The lengths of the threads. -/
def lensP (p : Prg) : List Nat := p.map List.length
def countSch (p : Prg) : Nat := if progValid p then wTo (lensP p) p.length else 0
theorem lensP_ok {p : Prg} (h : Valid p) : LsOk (lensP p) := lsOk (by simp [lensP]; exact h.len) fun n hn => by
  simp only [lensP, List.mem_map] at hn
  obtain ⟨xs, hx, rfl⟩ := hn
  obtain ⟨i, hi, rfl⟩ := List.mem_iff_getElem.1 hx
  exact h.row i _ (List.getElem?_eq_getElem hi)

end Go.Proofs.Ythlmfjoiicnomaa
namespace Go.Proofs.Ythlmfjoiicnomaa
open Go.RowKit
set_option linter.unusedVariables false
set_option linter.unusedSimpArgs false

def opB (op : Int) (x : Ins) : Bool := x.op == op
def countOps (p : Prg) (op : Int) : Nat := if progValid p then tot (opB op) p else 0

end Go.Proofs.Ythlmfjoiicnomaa
namespace Go.Proofs.Ythlmfjoiicnomaa
open Go.RowKit
set_option linter.unusedVariables false
set_option linter.unusedSimpArgs false

theorem tot_cons (f : Ins → Bool) (xs : List Ins) (p : Prg) : tot f (xs :: p) = xs.countP f + tot f p := by simp [tot]
theorem tot_append (f : Ins → Bool) (p q : Prg) : tot f (p ++ q) = tot f p + tot f q := by simp [tot]
theorem tot_nil (f : Ins → Bool) : tot f [] = 0 := rfl
theorem tot_take_le (f : Ins → Bool) (p : Prg) (k : Nat) : tot f (p.take k) ≤ tot f p := by
  have e : tot f p = tot f (p.take k) + tot f (p.drop k) := by rw [← tot_append, List.take_append_drop]
  omega
theorem tot_mem (f : Ins → Bool) {p : Prg} {xs : List Ins} (h : xs ∈ p) : xs.countP f ≤ tot f p := by
  unfold tot
  exact le_sum_of (List.mem_map.2 ⟨xs, h, rfl⟩)
theorem locP_mono {p q : Prg} {loc : Int} (h : ∀ wr, cnt q loc wr ≤ cnt p loc wr) : locP q loc ≤ locP p loc := by
  unfold locP
  exact Nat.mul_le_mul (Nat.le_trans (Nat.pow_le_pow_left (by have := h true; omega) _) (Nat.pow_le_pow_right (by omega) (h false))) (fact_mono (h true))
theorem prodP_mono {p q : Prg} (h : ∀ f, tot f q ≤ tot f p) : prodP q ≤ prodP p := by
  unfold prodP
  exact Nat.mul_le_mul (Nat.mul_le_mul (locP_mono fun wr => h _) (locP_mono fun wr => h _)) (locP_mono fun wr => h _)
theorem rows_of {p : Prg} (h : progValid p = true) : ∀ xs ∈ p, rowB xs = true := by
  simp only [progValid, shapeB, Bool.and_eq_true, List.all_eq_true] at h
  exact h.1.1.1.2
theorem valid_le {p q : Prg} (hp : progValid p = true) (h0 : 0 < q.length) (h3 : q.length ≤ 3) (hr : ∀ xs ∈ q, rowB xs = true) (ht : ∀ f, tot f q ≤ tot f p) : progValid q = true := by
  have v := valid_of hp
  have e1 := ht evB
  have e2 := v.ev
  have e3 := prodP_mono ht
  have e4 := v.prod
  simp only [progValid, shapeB, Bool.and_eq_true, List.all_eq_true, decide_eq_true_eq]
  exact ⟨⟨⟨⟨h3, hr⟩, Nat.le_trans e1 e2⟩, h0⟩, Nat.le_trans e3 e4⟩
theorem valid_take {p : Prg} (hp : progValid p = true) (k : Nat) (h0 : 0 < k) : progValid (p.take k) = true := by
  have v := valid_of hp
  refine valid_le hp ?_ ?_ (fun xs hx => rows_of hp xs (List.mem_of_mem_take hx)) (fun f => tot_take_le f p k)
  · have := v.pos; rw [List.length_take]; omega
  · have := v.len; rw [List.length_take]; omega
theorem execs_take {p : Prg} (k : Nat) : prodP (p.take k) ≤ prodP p := prodP_mono fun f => tot_take_le f p k
theorem valid_one {p : Prg} (hp : progValid p = true) {xs : List Ins} (hx : xs ∈ p) : progValid [xs] = true := by
  refine valid_le hp (by simp) (by simp) (fun ys hy => ?_) (fun f => ?_)
  · rw [List.mem_singleton] at hy; subst hy; exact rows_of hp _ hx
  · have := tot_mem f hx
    rw [tot_cons, tot_nil]; omega
theorem valid_ins (x : Ins) : progValid [[x]] = insValid x := by
  have hc : ∀ f : Ins → Bool, tot f [[x]] ≤ 1 := fun f => by
    rw [tot_cons, tot_nil]
    exact Nat.le_trans (Nat.add_le_add_right List.countP_le_length 0) (by simp)
  have hl : ∀ loc, locP [[x]] loc ≤ 2 := fun loc => by
    have h1 := hc (cntB loc true)
    have h2 := hc (cntB loc false)
    unfold locP
    obtain ⟨m, hm⟩ : ∃ m, m = cnt [[x]] loc true := ⟨_, rfl⟩
    obtain ⟨n, hn⟩ : ∃ n, n = cnt [[x]] loc false := ⟨_, rfl⟩
    rw [← hm, ← hn]
    have a1 : m ≤ 1 := by rw [hm]; exact h1
    have a2 : n ≤ 1 := by rw [hn]; exact h2
    have : ∀ m ≤ 1, ∀ n ≤ 1, (m + 1) ^ n * fact m ≤ 2 := by decide
    exact this m a1 n a2
  have hp : prodP [[x]] ≤ 3000 := by
    unfold prodP
    exact Nat.le_trans (Nat.mul_le_mul (Nat.mul_le_mul (hl 0) (hl 1)) (hl 2)) (by decide)
  have he : ev [[x]] ≤ 12 := Nat.le_trans (hc evB) (by decide)
  rw [Bool.eq_iff_iff]
  simp only [progValid, shapeB, rowB, Bool.and_eq_true, List.all_eq_true, decide_eq_true_eq, List.mem_singleton, forall_eq, List.length_singleton]
  exact ⟨fun h => h.1.1.1.2.2, fun h => ⟨⟨⟨⟨by decide, by decide, h⟩, he⟩, by decide⟩, hp⟩⟩

def fence : Ins := ⟨4, 0, 0, 0⟩
theorem cnt_fence (xs : List Ins) (r : Prg) (loc : Int) (wr : Bool) : cnt ((xs ++ [fence]) :: r) loc wr = cnt (xs :: r) loc wr := by
  have h : cntB loc wr fence = false := by cases wr <;> simp [cntB, fence, insReads, insWrites]
  show tot _ _ = tot _ _
  rw [tot_cons, tot_cons, List.countP_append]
  simp [h]
theorem prodP_fence (xs : List Ins) (r : Prg) : prodP ((xs ++ [fence]) :: r) = prodP (xs :: r) := by
  unfold prodP locP
  simp only [cnt_fence]
theorem valid_pos {p : Prg} (h : progValid p = true) : 1 ≤ countExecs p ∧ countExecs p ≤ 3000 := by
  unfold countExecs
  rw [if_pos h]
  exact ⟨prodP_pos p, (valid_of h).prod⟩

theorem execs_zero (p : Prg) : (countExecs p = 0) ↔ progValid p = false := by
  unfold countExecs
  have := prodP_pos p
  cases h : progValid p
  · simp
  · simp; omega

theorem ops_sum (p : Prg) (h : progValid p = true) : countOps p 1 + countOps p 2 + countOps p 3 + countOps p 4 + countOps p 5 = (p.map List.length).sum := by
  unfold countOps
  rw [if_pos h, if_pos h, if_pos h, if_pos h, if_pos h]
  have key : ∀ q : Prg, (∀ xs ∈ q, ∀ x ∈ xs, insValid x = true) → tot (opB 1) q + tot (opB 2) q + tot (opB 3) q + tot (opB 4) q + tot (opB 5) q = (q.map List.length).sum := by
    intro q
    induction q with
    | nil => intro _; rfl
    | cons xs q ih =>
      intro hq
      have i1 := ih fun ys hy => hq ys (List.mem_cons_of_mem _ hy)
      have i2 : ∀ l : List Ins, (∀ x ∈ l, insValid x = true) → l.countP (opB 1) + l.countP (opB 2) + l.countP (opB 3) + l.countP (opB 4) + l.countP (opB 5) = l.length := by
        intro l
        induction l with
        | nil => intro _; rfl
        | cons x l ihl =>
          intro hl
          have j1 := ihl fun y hy => hl y (List.mem_cons_of_mem _ hy)
          obtain ⟨o, a, b, c, rfl, ho, _⟩ := ins_nat (hl x List.mem_cons_self)
          simp only [List.countP_cons, List.length_cons, opB]
          rcases ho with rfl | rfl | rfl | rfl | rfl <;> simp <;> omega
      have i3 := i2 xs fun x hx => hq xs List.mem_cons_self x hx
      simp only [tot_cons, List.map_cons, List.sum_cons]
      omega
  refine key p fun xs hxs x hx => ?_
  have := rows_of h xs hxs
  simp only [rowB, Bool.and_eq_true, List.all_eq_true] at this
  exact this.2 x hx

theorem sch1 : ∀ a < 7, 1 ≤ wTo [a] 1 ∧ wTo [a] 1 ≤ wTo [a + 1] 1 := by decide +kernel
theorem sch2 : ∀ a < 7, ∀ b < 8, 1 ≤ wTo [a, b] 2 ∧ wTo [a, b] 2 ≤ wTo [a + 1, b] 2 := by decide +kernel
theorem sch3 : ∀ a < 7, ∀ b < 8, ∀ c < 8, 1 ≤ wTo [a, b, c] 3 ∧ wTo [a, b, c] 3 ≤ wTo [a + 1, b, c] 3 := by decide +kernel
theorem sch_less (xs : List Ins) (x : Ins) (r : Prg) (h : progValid ((xs ++ [x]) :: r) = true) : progValid (xs :: r) = true ∧ 1 ≤ countSch (xs :: r) ∧ countSch (xs :: r) ≤ countSch ((xs ++ [x]) :: r) := by
  have hv := valid_of h
  have hrow : ∀ ys ∈ (xs ++ [x]) :: r, ys.length ≤ 7 := fun ys hy => by
    obtain ⟨i, hi, rfl⟩ := List.mem_iff_getElem.1 hy
    exact hv.row i _ (List.getElem?_eq_getElem hi)
  have h1 : progValid (xs :: r) = true := by
    refine valid_le h (by simp) (by have := hv.len; simpa using this) (fun ys hy => ?_) (fun f => ?_)
    · rcases List.mem_cons.1 hy with rfl | hy
      · have := rows_of h _ List.mem_cons_self
        simp only [rowB, Bool.and_eq_true, List.all_eq_true, decide_eq_true_eq, List.length_append, List.length_singleton] at this ⊢
        exact ⟨by omega, fun y hy => this.2 y (List.mem_append_left _ hy)⟩
      · exact rows_of h _ (List.mem_cons_of_mem _ hy)
    · rw [tot_cons, tot_cons, List.countP_append]; omega
  refine ⟨h1, ?_⟩
  have e1 : countSch (xs :: r) = wTo (lensP (xs :: r)) (xs :: r).length := by unfold countSch; rw [if_pos h1]
  have e2 : countSch ((xs ++ [x]) :: r) = wTo (lensP ((xs ++ [x]) :: r)) ((xs ++ [x]) :: r).length := by unfold countSch; rw [if_pos h]
  rw [e1, e2]
  have hx := hrow _ List.mem_cons_self
  rw [List.length_append, List.length_singleton] at hx
  have hlen := hv.len
  match r, hlen, hrow with
  | [], _, _ => simpa [lensP] using sch1 xs.length (by omega)
  | [b], _, hrow =>
    have := hrow b (by simp)
    simpa [lensP] using sch2 xs.length (by omega) b.length (by omega)
  | [b, c], _, hrow =>
    have := hrow b (by simp)
    have := hrow c (by simp)
    simpa [lensP] using sch3 xs.length (by omega) b.length (by omega) c.length (by omega)
  | b :: c :: d :: r, hlen, _ => simp at hlen

end Go.Proofs.Ythlmfjoiicnomaa
