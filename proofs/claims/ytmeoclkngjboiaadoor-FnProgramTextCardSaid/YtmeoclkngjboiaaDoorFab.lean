/-
  PROVED HERE: plain facts on the texts of programs: two valid programs, or instructions, of one text are one; a program's text is its threads' texts, joined. CONDITIONS: as each theorem states.
-/
import Derived.Test.YtmeoclkngjboiaaDoorTxp
import Derived.Test.YtmeoclkngjboiaaDoorFac
namespace Go.Proofs.YtmeoclkngjboiaaDoor
open Go.RowKit
set_option linter.unusedVariables false
set_option linter.unusedSimpArgs false

/-- The instruction of a text. -/
def decI : List UInt8 → Ins
  | [a, _, x] => if a.toNat < 120 then ⟨1, (x.toNat : Int) - 120, (a.toNat : Int) - 97, 0⟩ else if 97 ≤ x.toNat then ⟨3, (a.toNat : Int) - 120, (x.toNat : Int) - 97, 0⟩ else ⟨2, (a.toNat : Int) - 120, 0, (x.toNat : Int) - 48⟩
  | [a, b, x, _, v] => if b.toNat = 61 then ⟨5, (x.toNat : Int) - 120, (a.toNat : Int) - 97, (v.toNat : Int) - 48⟩ else ⟨4, 0, 0, 0⟩
  | _ => ⟨0, 0, 0, 0⟩
def insOk (x : Ins) : Bool := !insValid x || (decide (decI (insL x) = x) && (insL x).all (fun b => b != 59 && b != 124) && (insL x != []))
theorem ins_ok_all : ∀ o < 6, ∀ l < 3, ∀ r < 3, ∀ v < 4, insOk ⟨(o : Nat), (l : Nat), (r : Nat), (v : Nat)⟩ = true := by decide +kernel
theorem ins_ok {x : Ins} (h : insValid x = true) : decI (insL x) = x ∧ (∀ b ∈ insL x, b ≠ 59 ∧ b ≠ 124) ∧ insL x ≠ [] := by
  obtain ⟨o, l, r, v, rfl, ho, hl, hr, hv⟩ := ins_nat h
  have := ins_ok_all o (by omega) l (by omega) r (by omega) v (by omega)
  unfold insOk at this
  rw [h] at this
  simpa [and_assoc] using this
theorem insL_inj {x y : Ins} (hx : insValid x = true) (hy : insValid y = true) (h : insL x = insL y) : x = y := by
  rw [← (ins_ok hx).1, ← (ins_ok hy).1, h]
theorem ba_inj {l m : List UInt8} (h : ba l = ba m) : l = m := by
  have h1 : (ba l).data.toList = (ba m).data.toList := by rw [h]
  simpa [ba] using h1
theorem fmt_empty (x : Ins) : (fmtIns x = ⟨#[]⟩) ↔ insValid x = false := by
  unfold fmtIns
  cases h : insValid x
  · simp
  · rw [if_pos rfl, ba_ins]
    constructor
    · intro e
      have : ba (insL x) = ba [] := e
      exact absurd (ba_inj this) (ins_ok h).2.2
    · intro e; cases e
theorem fmt_inj {x y : Ins} (hx : insValid x = true) (hy : insValid y = true) : (fmtIns x = fmtIns y) ↔ x = y := by
  unfold fmtIns
  rw [if_pos hx, if_pos hy, ba_ins, ba_ins]
  exact ⟨fun h => insL_inj hx hy (ba_inj h), fun h => by rw [h]⟩

theorem cut_inj {c : UInt8} : ∀ {x y r s : List UInt8}, c ∉ x → c ∉ y → (r = [] ∨ ∃ r', r = c :: r') → (s = [] ∨ ∃ s', s = c :: s') → x ++ r = y ++ s → x = y ∧ r = s
  | [], [], r, s, _, _, _, _, h => ⟨rfl, h⟩
  | [], y :: ys, r, s, _, hy, hr, _, h => by
    rcases hr with rfl | ⟨r', rfl⟩
    · simp at h
    · simp only [List.nil_append, List.cons_append, List.cons.injEq] at h
      exact absurd (by rw [h.1]; exact List.mem_cons_self) hy
  | x :: xs, [], r, s, hx, _, _, hs, h => by
    rcases hs with rfl | ⟨s', rfl⟩
    · simp at h
    · simp only [List.nil_append, List.cons_append, List.cons.injEq] at h
      exact absurd (by rw [← h.1]; exact List.mem_cons_self) hx
  | x :: xs, y :: ys, r, s, hx, hy, hr, hs, h => by
    simp only [List.cons_append, List.cons.injEq] at h
    have := cut_inj (fun e => hx (List.mem_cons_of_mem _ e)) (fun e => hy (List.mem_cons_of_mem _ e)) hr hs h.2
    exact ⟨by rw [h.1, this.1], this.2⟩
theorem tail_shape (c : UInt8) (r : List (List UInt8)) : Lib.joinTail [c] r = [] ∨ ∃ r', Lib.joinTail [c] r = c :: r' := by
  cases r with
  | nil => exact .inl rfl
  | cons x r => exact .inr ⟨_, rfl⟩
theorem tail_inj {c : UInt8} : ∀ {r s : List (List UInt8)}, (∀ l ∈ r, c ∉ l) → (∀ l ∈ s, c ∉ l) → Lib.joinTail [c] r = Lib.joinTail [c] s → r = s
  | [], [], _, _, _ => rfl
  | [], y :: s, _, _, h => by simp [Lib.joinTail] at h
  | x :: r, [], _, _, h => by simp [Lib.joinTail] at h
  | x :: r, y :: s, hr, hs, h => by
    have e : ∀ (z : List UInt8) (t : List (List UInt8)), Lib.joinTail [c] (z :: t) = c :: (z ++ Lib.joinTail [c] t) := fun z t => by simp [Lib.joinTail]
    rw [e, e, List.cons.injEq] at h
    have := cut_inj (hr x List.mem_cons_self) (hs y List.mem_cons_self) (tail_shape c r) (tail_shape c s) h.2
    rw [this.1, tail_inj (fun l hl => hr l (List.mem_cons_of_mem _ hl)) (fun l hl => hs l (List.mem_cons_of_mem _ hl)) this.2]
theorem join_inj {c : UInt8} {r s : List (List UInt8)} (h0 : r ≠ []) (h1 : s ≠ []) (hr : ∀ l ∈ r, c ∉ l) (hs : ∀ l ∈ s, c ∉ l) (h : Lib.join r [c] = Lib.join s [c]) : r = s := by
  cases r with
  | nil => exact absurd rfl h0
  | cons x r =>
    cases s with
    | nil => exact absurd rfl h1
    | cons y s =>
      rw [Lib.join_cons, Lib.join_cons] at h
      have := cut_inj (hr x List.mem_cons_self) (hs y List.mem_cons_self) (tail_shape c r) (tail_shape c s) h
      rw [this.1, tail_inj (fun l hl => hr l (List.mem_cons_of_mem _ hl)) (fun l hl => hs l (List.mem_cons_of_mem _ hl)) this.2]
theorem join_none {r : List (List UInt8)} {c : UInt8} (h : ∀ l ∈ r, l ≠ []) (h0 : r ≠ []) : Lib.join r [c] ≠ [] := by
  cases r with
  | nil => exact absurd rfl h0
  | cons x r =>
    rw [Lib.join_cons]
    intro e
    exact h x List.mem_cons_self (List.append_eq_nil_iff.1 e).1
theorem map_inj {α β : Type} {f : α → β} : ∀ {xs ys : List α}, (∀ x ∈ xs, ∀ y ∈ ys, f x = f y → x = y) → xs.map f = ys.map f → xs = ys
  | [], [], _, _ => rfl
  | [], y :: ys, _, h => by simp at h
  | x :: xs, [], _, h => by simp at h
  | x :: xs, y :: ys, hf, h => by
    simp only [List.map_cons, List.cons.injEq] at h
    rw [hf x List.mem_cons_self y List.mem_cons_self h.1, map_inj (fun a ha b hb => hf a (List.mem_cons_of_mem _ ha) b (List.mem_cons_of_mem _ hb)) h.2]
theorem rowB_ins {xs : List Ins} (h : rowB xs = true) : ∀ x ∈ xs, insValid x = true := by
  simp only [rowB, Bool.and_eq_true, List.all_eq_true] at h
  exact h.2
theorem rowL_inj {xs ys : List Ins} (hx : ∀ x ∈ xs, insValid x = true) (hy : ∀ x ∈ ys, insValid x = true) (h : rowL xs = rowL ys) : xs = ys := by
  unfold rowL at h
  by_cases h0 : xs = []
  · by_cases h1 : ys = []
    · rw [h0, h1]
    · rw [h0] at h
      exact absurd h.symm (join_none (fun l hl => by
        obtain ⟨x, hm, rfl⟩ := List.mem_map.1 hl
        exact (ins_ok (hy x hm)).2.2) (by simpa using h1))
  · by_cases h1 : ys = []
    · rw [h1] at h
      exact absurd h (join_none (fun l hl => by
        obtain ⟨x, hm, rfl⟩ := List.mem_map.1 hl
        exact (ins_ok (hx x hm)).2.2) (by simpa using h0))
    · refine map_inj (f := insL) (fun x hmx y hmy => insL_inj (hx x hmx) (hy y hmy)) (join_inj (c := 59) (by simpa using h0) (by simpa using h1) ?_ ?_ h)
      · intro l hl hm
        obtain ⟨x, hmx, rfl⟩ := List.mem_map.1 hl
        exact ((ins_ok (hx x hmx)).2.1 59 hm).1 rfl
      · intro l hl hm
        obtain ⟨x, hmx, rfl⟩ := List.mem_map.1 hl
        exact ((ins_ok (hy x hmx)).2.1 59 hm).1 rfl
theorem rowL_bar {xs : List Ins} (hx : ∀ x ∈ xs, insValid x = true) : (124 : UInt8) ∉ rowL xs := by
  have key : ∀ ls : List (List UInt8), (∀ l ∈ ls, (124 : UInt8) ∉ l) → (124 : UInt8) ∉ Lib.joinTail [59] ls := by
    intro ls hl hm
    unfold Lib.joinTail at hm
    rw [List.mem_flatten] at hm
    obtain ⟨l, h1, h2⟩ := hm
    obtain ⟨m, hm, rfl⟩ := List.mem_map.1 h1
    rcases List.mem_append.1 h2 with h | h
    · simp at h
    · exact hl m hm h
  have hall : ∀ l ∈ xs.map insL, (124 : UInt8) ∉ l := fun l hl hm => by
    obtain ⟨x, hmx, rfl⟩ := List.mem_map.1 hl
    exact ((ins_ok (hx x hmx)).2.1 124 hm).2 rfl
  unfold rowL
  generalize xs.map insL = ls at hall
  cases ls with
  | nil => simp [Lib.join_nil]
  | cons x r =>
    rw [Lib.join_cons]
    intro hm
    rcases List.mem_append.1 hm with h | h
    · exact hall x List.mem_cons_self h
    · exact key r (fun l hl => hall l (List.mem_cons_of_mem _ hl)) h
theorem prgL_inj {p q : Prg} (hp : progValid p = true) (hq : progValid q = true) (h : prgL p = prgL q) : p = q := by
  have h0 : p ≠ [] := fun e => by have := (valid_of hp).pos; rw [e] at this; simp at this
  have h1 : q ≠ [] := fun e => by have := (valid_of hq).pos; rw [e] at this; simp at this
  unfold prgL at h
  refine map_inj (f := rowL) (fun x hx y hy => rowL_inj (rowB_ins (rows_of hp x hx)) (rowB_ins (rows_of hq y hy))) (join_inj (c := 124) (by simpa using h0) (by simpa using h1) ?_ ?_ h)
  · intro l hl
    obtain ⟨x, hmx, rfl⟩ := List.mem_map.1 hl
    exact rowL_bar (rowB_ins (rows_of hp x hmx))
  · intro l hl
    obtain ⟨x, hmx, rfl⟩ := List.mem_map.1 hl
    exact rowL_bar (rowB_ins (rows_of hq x hmx))
theorem fmtPrg_inj {p q : Prg} (hp : progValid p = true) (hq : progValid q = true) : (fmtPrg p = fmtPrg q) ↔ p = q := by
  unfold fmtPrg
  rw [if_pos hp, if_pos hq]
  exact ⟨fun h => prgL_inj hp hq (ba_inj h), fun h => by rw [h]⟩
theorem fmt_one (x : Ins) (h : insValid x = true) : fmtPrg [[x]] = fmtIns x := by
  unfold fmtPrg fmtIns
  rw [valid_ins, if_pos h, if_pos h, ba_ins]
  simp [prgL, rowL, Lib.join_one]
theorem fmt_row {p : Prg} (hp : progValid p = true) {xs : List Ins} (hx : xs ∈ p) : fmtPrg [xs] = ba (rowL xs) := by
  unfold fmtPrg
  rw [if_pos (valid_one hp hx)]
  simp [prgL, Lib.join_one]
end Go.Proofs.YtmeoclkngjboiaaDoor
