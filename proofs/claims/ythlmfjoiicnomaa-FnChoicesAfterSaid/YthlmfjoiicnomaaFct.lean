/-
  PROVED HERE: plain facts on programs: what they count, when they are valid. CONDITIONS: as each lemma states.
-/
import Derived.Test.YthlmfjoiicnomaaIns
import Derived.Test.YthlmfjoiicnomaaPrg
namespace Go.Proofs.Ythlmfjoiicnomaa
open Go.RowKit
set_option linter.unusedVariables false
set_option linter.unusedSimpArgs false

/-- How many instructions of a program are as q says; of its first i threads. -/
def tot (q : Ins → Bool) (p : Prg) : Nat := (p.map (List.countP q)).sum
def totTo (q : Ins → Bool) (i : Nat) (p : Prg) : Nat := tot q (p.take i)
theorem totTo_zero (q : Ins → Bool) (p : Prg) : totTo q 0 p = 0 := by simp [totTo, tot]
theorem totTo_all (q : Ins → Bool) (p : Prg) : totTo q p.length p = tot q p := by simp [totTo]
theorem totTo_succ {q : Ins → Bool} {p : Prg} {i : Nat} {xs : List Ins} (h : p[i]? = some xs) : totTo q (i + 1) p = totTo q i p + xs.countP q := by
  obtain ⟨hi, rfl⟩ := List.getElem?_eq_some_iff.1 h
  unfold totTo tot
  rw [List.take_succ_eq_append_getElem hi, List.map_append, List.sum_append]
  simp
theorem take_countP {q : Ins → Bool} {xs : List Ins} {k : Nat} {x : Ins} (h : xs[k]? = some x) : (xs.take (k + 1)).countP q = (xs.take k).countP q + if q x then 1 else 0 := by
  obtain ⟨hi, rfl⟩ := List.getElem?_eq_some_iff.1 h
  rw [List.take_succ_eq_append_getElem hi, List.countP_append]
  simp
theorem take_countP_all (q : Ins → Bool) (xs : List Ins) : (xs.take xs.length).countP q = xs.countP q := by simp
theorem take_countP_le (q : Ins → Bool) (xs : List Ins) (k : Nat) : (xs.take k).countP q ≤ xs.length :=
  Nat.le_trans List.countP_le_length (by simp; omega)
theorem totTo_le (q : Ins → Bool) (p : Prg) (i : Nat) : totTo q i p ≤ sumTo i p := by
  unfold totTo tot sumTo
  generalize p.take i = l
  induction l with
  | nil => simp
  | cons x l ih =>
    have := List.countP_le_length (p := q) (l := x)
    simp only [List.map_cons, List.sum_cons]
    omega
theorem tot_le (q : Ins → Bool) (p : Prg) : tot q p ≤ sizeP p := by
  have h1 := totTo_le q p p.length
  rw [totTo_all, sumTo_all] at h1
  unfold sizeP
  omega
theorem tot_mono {q r : Ins → Bool} {p : Prg} (h : ∀ xs ∈ p, ∀ x ∈ xs, q x = true → r x = true) : tot q p ≤ tot r p := by
  unfold tot
  induction p with
  | nil => simp
  | cons xs p ih =>
    have h1 : xs.countP q ≤ xs.countP r := List.countP_mono_left fun x hx hq => h xs List.mem_cons_self x hx hq
    have h2 := ih fun ys hy => h ys (List.mem_cons_of_mem _ hy)
    simp only [List.map_cons, List.sum_cons]
    omega
/-- The count in the middle of thread i, and its bound. -/
theorem mid_le {q : Ins → Bool} {p : Prg} {i : Nat} {xs : List Ins} (h : p[i]? = some xs) (k : Nat) : totTo q i p + (xs.take k).countP q ≤ sizeP p := by
  have h1 := totTo_le q p i
  have h2 := take_countP_le q xs k
  have h3 := sumTo_succ h
  have h4 := sumTo_le p (i + 1)
  unfold sizeP
  omega

def insReads (x : Ins) : Bool := (x.op == 1) || (x.op == 5)
def insWrites (x : Ins) : Bool := (x.op == 2) || (x.op == 3) || (x.op == 5)
def cntB (loc : Int) (wr : Bool) (x : Ins) : Bool := (x.loc == loc) && (if wr then insWrites x else insReads x)
abbrev cnt (p : Prg) (loc : Int) (wr : Bool) : Nat := tot (cntB loc wr) p
def evB (x : Ins) : Bool := !(x.op == 4)
abbrev ev (p : Prg) : Nat := tot evB p
def rowB (xs : List Ins) : Bool := decide (xs.length ≤ 7) && xs.all insValid
def shapeB (p : Prg) : Bool := decide (p.length ≤ 3) && p.all rowB && decide (ev p ≤ 12)
def fact : Nat → Nat
  | 0 => 1
  | n + 1 => (n + 1) * fact n
theorem fact_pos (n : Nat) : 1 ≤ fact n := by
  induction n with
  | zero => exact Nat.le_refl _
  | succ n ih =>
    have : 1 * 1 ≤ (n + 1) * fact n := Nat.mul_le_mul (by omega) ih
    unfold fact
    omega
/-- The product at a location, and at all. -/
def locP (p : Prg) (loc : Int) : Nat := (cnt p loc true + 1) ^ cnt p loc false * fact (cnt p loc true)
def prodP (p : Prg) : Nat := locP p 0 * locP p 1 * locP p 2
theorem locP_pos (p : Prg) (loc : Int) : 1 ≤ locP p loc := by
  have h1 : 1 ≤ (cnt p loc true + 1) ^ cnt p loc false := Nat.one_le_pow _ _ (by omega)
  have h2 := fact_pos (cnt p loc true)
  have : 1 * 1 ≤ (cnt p loc true + 1) ^ cnt p loc false * fact (cnt p loc true) := Nat.mul_le_mul h1 h2
  unfold locP
  omega
theorem prodP_pos (p : Prg) : 1 ≤ prodP p := by
  have h : 1 * 1 * 1 ≤ locP p 0 * locP p 1 * locP p 2 := Nat.mul_le_mul (Nat.mul_le_mul (locP_pos p 0) (locP_pos p 1)) (locP_pos p 2)
  unfold prodP
  omega
def execsN (p : Prg) : Nat := min (prodP p) 3001
def progValid (p : Prg) : Bool := shapeB p && decide (0 < p.length) && decide (prodP p ≤ 3000)

theorem cnt_ev {p : Prg} (loc : Int) (wr : Bool) : cnt p loc wr ≤ ev p := by
  refine tot_mono fun xs _ x _ h => ?_
  unfold cntB at h
  unfold evB
  simp only [Bool.and_eq_true] at h
  have h2 := h.2
  cases wr <;> simp [insReads, insWrites] at h2 ⊢ <;> omega
structure Shape (p : Prg) : Prop where
  len : p.length ≤ 3
  row : ∀ (i : Nat) xs, p[i]? = some xs → xs.length ≤ 7
  ins : ∀ (i : Nat) xs, p[i]? = some xs → ∀ (k : Nat) x, xs[k]? = some x → insValid x = true
  ev : ev p ≤ 12
theorem shape_of {p : Prg} (h : shapeB p = true) : Shape p := by
  simp only [shapeB, rowB, Bool.and_eq_true, decide_eq_true_eq, List.all_eq_true] at h
  exact ⟨h.1.1, fun i xs hx => (h.1.2 xs (List.mem_of_getElem? hx)).1, fun i xs hx k x hk => (h.1.2 xs (List.mem_of_getElem? hx)).2 x (List.mem_of_getElem? hk), h.2⟩
structure Valid (p : Prg) : Prop extends Shape p where
  pos : 0 < p.length
  prod : prodP p ≤ 3000
theorem valid_of {p : Prg} (h : progValid p = true) : Valid p := by
  simp only [progValid, Bool.and_eq_true, decide_eq_true_eq] at h
  exact ⟨shape_of h.1.1, h.1.2, h.2⟩
theorem shape_size {p : Prg} (h : Shape p) : sizeP p ≤ 24 := by
  have h1 : ∀ (l : Prg) , (∀ xs ∈ l, xs.length ≤ 7) → (l.map List.length).sum ≤ 7 * l.length := by
    intro l
    induction l with
    | nil => intro _; simp
    | cons x l ih =>
      intro hl
      have := ih fun xs hx => hl xs (List.mem_cons_of_mem _ hx)
      have := hl x List.mem_cons_self
      simp only [List.map_cons, List.sum_cons, List.length_cons]
      omega
  have h2 := h1 p fun xs hx => by
    obtain ⟨i, hi, rfl⟩ := List.mem_iff_getElem.1 hx
    exact h.row i _ (List.getElem?_eq_getElem hi)
  have := h.len
  unfold sizeP
  omega
theorem cnt_le {p : Prg} (h : Shape p) (loc : Int) (wr : Bool) : cnt p loc wr ≤ 12 := Nat.le_trans (cnt_ev loc wr) h.ev

/-- The number n stands for the product P, up to 3001. -/
structure Sat (n P : Nat) : Prop where
  pos : 1 ≤ n
  top : n ≤ 40000
  same : min n 3001 = min P 3001
theorem Sat.step {n P f : Nat} (h : Sat n P) (hn : n ≤ 3000) (h1 : 1 ≤ f) (h2 : f ≤ 13) : Sat (n * f) (P * f) := by
  have e : P = n := by have := h.same; omega
  subst e
  have a1 : 1 * 1 ≤ P * f := Nat.mul_le_mul h.pos h1
  have a2 : P * f ≤ 3000 * 13 := Nat.mul_le_mul hn h2
  exact ⟨by omega, by omega, rfl⟩
theorem Sat.stop {n P Q : Nat} (h : Sat n P) (hn : 3000 < n) (hQ : P ≤ Q) : Sat n Q := by
  have := h.same
  exact ⟨h.pos, h.top, by omega⟩
theorem min_step (P f : Nat) (h : 1 ≤ f) : min (min P 3001 * f) 3001 = min (P * f) 3001 := by
  by_cases hP : P ≤ 3001
  · rw [Nat.min_eq_left hP]
  · have h1 : 3001 * 1 ≤ 3001 * f := Nat.mul_le_mul_left _ h
    have h2 : 3001 * f ≤ P * f := Nat.mul_le_mul_right _ (by omega)
    rw [Nat.min_eq_right (by omega : 3001 ≤ P)]
    omega
theorem pow_mono_fac (P f : Nat) {a b : Nat} (hf : 1 ≤ f) (h : a ≤ b) : P * f ^ a ≤ P * f ^ b := Nat.mul_le_mul_left _ (Nat.pow_le_pow_right hf h)
theorem fact_mono {a b : Nat} (h : a ≤ b) : fact a ≤ fact b := by
  induction b with
  | zero => rw [Nat.le_zero.1 h]; exact Nat.le_refl _
  | succ b ih =>
    by_cases e : a = b + 1
    · rw [e]; exact Nat.le_refl _
    · have h1 := ih (by omega)
      have h2 : 1 * fact b ≤ (b + 1) * fact b := Nat.mul_le_mul_right _ (by omega)
      show fact a ≤ (b + 1) * fact b
      omega
end Go.Proofs.Ythlmfjoiicnomaa
