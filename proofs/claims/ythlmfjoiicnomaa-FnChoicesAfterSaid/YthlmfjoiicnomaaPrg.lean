/-
  PROVED HERE: words for instructions and programs that lie in memory. CONDITIONS: as each lemma states.
-/
import Derived.Test.YthlmfjoiicnomaaPrz
namespace Go.Proofs.Ythlmfjoiicnomaa
open Go.RowKit
set_option linter.unusedVariables false
set_option linter.unusedSimpArgs false

/-- The cells of instructions. -/
def insV (xs : List Ins) : List Value := xs.flatMap Ins.cells
theorem length_insV (xs : List Ins) : (insV xs).length = xs.length * 4 := by
  induction xs with
  | nil => rfl
  | cons x xs ih =>
    have : insV (x :: xs) = x.cells ++ insV xs := rfl
    rw [this, List.length_append, ih, List.length_cons]
    show 4 + _ = _
    omega
theorem insV_append (xs ys : List Ins) : insV (xs ++ ys) = insV xs ++ insV ys := by simp [insV]
theorem insV_get : ∀ (xs : List Ins) (k f : Nat) (x : Ins), xs[k]? = some x → f < 4 → (insV xs)[k * 4 + f]? = x.cells[f]?
  | [], k, f, x, h, _ => by simp at h
  | y :: ys, 0, f, x, h, hf => by
    have e : insV (y :: ys) = y.cells ++ insV ys := rfl
    simp only [List.getElem?_cons_zero, Option.some.injEq] at h
    subst h
    rw [e, Nat.zero_mul, Nat.zero_add, List.getElem?_append_left (by show f < 4; exact hf)]
  | y :: ys, k + 1, f, x, h, hf => by
    have e : insV (y :: ys) = y.cells ++ insV ys := rfl
    rw [e, List.getElem?_append_right (by show 4 ≤ _; omega)]
    have e2 : (k + 1) * 4 + f - y.cells.length = k * 4 + f := by show (k + 1) * 4 + f - 4 = _; omega
    rw [e2]
    exact insV_get ys k f x (by simpa using h) hf

theorem insV_cons (x : Ins) (xs : List Ins) : insV (x :: xs) = .int .i64 x.op :: .int .i64 x.loc :: .int .i64 x.reg :: .int .i64 x.val :: insV xs := rfl
theorem insV_set : ∀ (xs : List Ins) (k : Nat) (x : Ins), k < xs.length → ((((insV xs).set (k * 4) (.int .i64 x.op)).set (k * 4 + 1) (.int .i64 x.loc)).set (k * 4 + 2) (.int .i64 x.reg)).set (k * 4 + 3) (.int .i64 x.val) = insV (xs.set k x)
  | [], k, x, h => by simp at h
  | y :: ys, 0, x, h => rfl
  | y :: ys, k + 1, x, h => by
    have ih := insV_set ys k x (by simpa using h)
    rw [List.set_cons_succ, insV_cons, insV_cons, ← ih, show (k + 1) * 4 = k * 4 + 4 by omega]
    rfl
def insZ : Ins := ⟨0, 0, 0, 0⟩
theorem insV_made (n : Nat) : (madeCells (Value.agg #[.int .i64 0, .int .i64 0, .int .i64 0, .int .i64 0]).cells (n * 4)).toList = insV (List.replicate n insZ) := by
  apply List.ext_getElem?
  intro j
  by_cases hj : j < n * 4
  · have h1 := insV_get (List.replicate n insZ) (j / 4) (j % 4) insZ (by rw [List.getElem?_replicate, if_pos (by omega)]) (by omega)
    rw [show j / 4 * 4 + j % 4 = j by omega] at h1
    rw [h1]
    have h2 : j % 4 = 0 ∨ j % 4 = 1 ∨ j % 4 = 2 ∨ j % 4 = 3 := by omega
    have h3 : (Value.agg #[.int .i64 0, .int .i64 0, .int .i64 0, .int .i64 0]).cells = #[.int .i64 0, .int .i64 0, .int .i64 0, .int .i64 0] := rfl
    rw [h3]
    simp only [madeCells, Array.getElem?_toList, Array.getElem?_map]
    rw [Array.getElem?_eq_getElem (by simpa using hj)]
    simp only [Array.getElem_range, Option.map_some]
    rcases h2 with h | h | h | h <;> simp [h, Ins.cells, insZ]
  · have g1 : (madeCells (Value.agg #[.int .i64 0, .int .i64 0, .int .i64 0, .int .i64 0]).cells (n * 4)).toList.length ≤ j := by rw [Array.length_toList, size_madeCells]; omega
    have g2 : (insV (List.replicate n insZ)).length ≤ j := by rw [length_insV, List.length_replicate]; omega
    rw [List.getElem?_eq_none g1, List.getElem?_eq_none g2]

/-- The cells of instruction k are known. -/
def InsAt (w : World) (b off k : Nat) (x : Ins) : Prop :=
  w.cell? ⟨b, off + k * 4, none⟩ = some (.int .i64 x.op) ∧ w.cell? ⟨b, off + k * 4 + 1, none⟩ = some (.int .i64 x.loc) ∧ w.cell? ⟨b, off + k * 4 + 2, none⟩ = some (.int .i64 x.reg) ∧ w.cell? ⟨b, off + k * 4 + 3, none⟩ = some (.int .i64 x.val)
theorem InsAt.below {w w' : World} {B b off k : Nat} {x : Ins} (h : InsAt w b off k x) (hb : Below B w w') (hlt : b < B) : InsAt w' b off k x :=
  ⟨(hb.cell (p := ⟨b, off + k * 4, none⟩) hlt).trans h.1, (hb.cell (p := ⟨b, off + k * 4 + 1, none⟩) hlt).trans h.2.1, (hb.cell (p := ⟨b, off + k * 4 + 2, none⟩) hlt).trans h.2.2.1, (hb.cell (p := ⟨b, off + k * 4 + 3, none⟩) hlt).trans h.2.2.2⟩
theorem Rd.ins {w : World} {a : Option Addr} {xs : List Ins} (h : Rd w a (insV xs)) (k : Nat) (hk : k < xs.length) :
    ∃ b off x, a = some ⟨b, off, none⟩ ∧ b < w.heap.size ∧ xs[k]? = some x ∧ InsAt w b off k x := by
  rcases h with h | ⟨b, off, rfl, hlt, hc⟩
  · have := congrArg List.length h; rw [length_insV] at this; simp at this; omega
  · refine ⟨b, off, xs[k], rfl, hlt, List.getElem?_eq_getElem hk, ?_⟩
    have g := fun f u (hf : f < 4) (hu : (xs[k]).cells[f]? = some u) => hc (k * 4 + f) u ((insV_get xs k f _ (List.getElem?_eq_getElem hk) hf).trans hu)
    exact ⟨g 0 _ (by omega) rfl, by have := g 1 _ (by omega) rfl; rw [← Nat.add_assoc] at this; exact this, by have := g 2 _ (by omega) rfl; rw [← Nat.add_assoc] at this; exact this, by have := g 3 _ (by omega) rfl; rw [← Nat.add_assoc] at this; exact this⟩

/-- A program: a list of threads. -/
abbrev Prg := List (List Ins)
def rowsV (rs : List (Option Addr × Nat)) (p : Prg) : List Value := List.zipWith (fun r xs => Value.slice r.1 xs.length r.2) rs p
theorem length_rowsV {rs : List (Option Addr × Nat)} {p : Prg} (h : rs.length = p.length) : (rowsV rs p).length = p.length := by simp [rowsV, h]
theorem rowsV_get {rs : List (Option Addr × Nat)} {p : Prg} {k : Nat} {r : Option Addr × Nat} {xs : List Ins} (h1 : rs[k]? = some r) (h2 : p[k]? = some xs) : (rowsV rs p)[k]? = some (.slice r.1 xs.length r.2) := by
  simp [rowsV, List.getElem?_zipWith, h1, h2]

/-- The program p stands from the address a on. -/
def RdP (w : World) (a : Option Addr) (p : Prg) : Prop :=
  ∃ rs : List (Option Addr × Nat), rs.length = p.length ∧ Rd w a (rowsV rs p) ∧ ∀ (k : Nat) r xs, rs[k]? = some r → p[k]? = some xs → Rd w r.1 (insV xs) ∧ xs.length ≤ r.2
theorem RdP.at' {w : World} {a : Option Addr} {p : Prg} (h : RdP w a p) (k : Nat) (hk : k < p.length) :
    ∃ b off r c xs, a = some ⟨b, off, none⟩ ∧ b < w.heap.size ∧ p[k]? = some xs ∧ w.cell? ⟨b, off + k, none⟩ = some (.slice r xs.length c) ∧ Rd w r (insV xs) ∧ xs.length ≤ c := by
  obtain ⟨rs, hl, ho, hi⟩ := h
  obtain ⟨b, off, h1, h2, h3⟩ := ho.at k (by rw [length_rowsV hl]; exact hk)
  have e1 : rs[k]? = some rs[k] := List.getElem?_eq_getElem (by omega)
  have e2 : p[k]? = some p[k] := List.getElem?_eq_getElem hk
  have e3 := rowsV_get e1 e2
  rw [List.getElem?_eq_getElem (by rw [length_rowsV hl]; exact hk)] at e3
  simp only [Option.some.injEq] at e3
  rw [e3] at h3
  exact ⟨b, off, _, _, _, h1, h2, e2, h3, hi k _ _ e1 e2⟩
theorem RdP.at {w : World} {a : Option Addr} {p : Prg} (h : RdP w a p) (k : Nat) (hk : k < p.length) :
    ∃ b off r c xs, a = some ⟨b, off, none⟩ ∧ b < w.heap.size ∧ p[k]? = some xs ∧ w.cell? ⟨b, off + k, none⟩ = some (.slice r xs.length c) ∧ Rd w r (insV xs) := by
  obtain ⟨b, off, r, c, xs, h1, h2, h3, h4, h5, _⟩ := h.at' k hk
  exact ⟨b, off, r, c, xs, h1, h2, h3, h4, h5⟩
theorem RdP.below {w w' : World} {a : Option Addr} {p : Prg} (h : RdP w a p) (hb : Below w.heap.size w w') : RdP w' a p := by
  obtain ⟨rs, hl, ho, hi⟩ := h
  exact ⟨rs, hl, ho.below hb, fun k r xs h1 h2 => ⟨(hi k r xs h1 h2).1.below hb, (hi k r xs h1 h2).2⟩⟩

/-- w' is w but for new blocks and the blocks of S. -/
structure Keeps (S : Nat → Prop) (w w' : World) : Prop where
  os : w'.os = w.os
  tape : w'.tape = w.tape
  output : w'.output = w.output
  size : w.heap.size ≤ w'.heap.size
  block : ∀ k, k < w.heap.size → ¬ S k → w'.heap[k]? = w.heap[k]?
theorem Keeps.refl (S : Nat → Prop) (w : World) : Keeps S w w := ⟨rfl, rfl, rfl, Nat.le_refl _, fun _ _ _ => rfl⟩
theorem Keeps.trans {S : Nat → Prop} {a b c : World} (h : Keeps S a b) (k : Keeps S b c) : Keeps S a c :=
  ⟨k.os.trans h.os, k.tape.trans h.tape, k.output.trans h.output, Nat.le_trans h.size k.size, fun i hi hs => (k.block i (Nat.lt_of_lt_of_le hi h.size) hs).trans (h.block i hi hs)⟩
theorem Keeps.mono {S S' : Nat → Prop} {w w' : World} (h : Keeps S w w') (hs : ∀ k, S k → S' k) : Keeps S' w w' :=
  ⟨h.os, h.tape, h.output, h.size, fun k hk hn => h.block k hk fun e => hn (hs k e)⟩
theorem Keeps.of_grown {w w' : World} {row : Option Nat} {S : Nat → Prop} (h : w.grownBy w' row) (hs : ∀ k, row = some k → S k) : Keeps S w w' :=
  ⟨h.os, h.tape, h.output, h.size, fun k hk hn => h.block k hk fun e => hn (hs k e.symm)⟩
theorem Keeps.of_below {w w' : World} {S : Nat → Prop} (h : Below w.heap.size w w') : Keeps S w w' :=
  ⟨h.os, h.tape, h.output, h.size, fun k hk _ => h.block k hk⟩
theorem Below.keeps {B : Nat} {a w w' : World} {S : Nat → Prop} (h : Below B a w) (hk : Keeps S w w') (hB : B ≤ w.heap.size) (hs : ∀ k, S k → B ≤ k) : Below B a w' :=
  h.trans ⟨hk.os, hk.tape, hk.output, hk.size, fun k hb => hk.block k (by omega) fun e => by have := hs k e; omega⟩
theorem Keeps.setCell (w : World) (a : Addr) (u : Value) : Keeps (· = a.block) w (w.setCell a u) :=
  ⟨rfl, rfl, rfl, by simp [World.setCell], fun k _ h => Below.heap_setCell _ _ _ _ h⟩
theorem own_base {w : World} {base base' e size n : Nat} {v : Value} {cs : List Value} (h : w.ownsRow base' e size v n cs) (hb : base ≤ base') : w.ownsRow base e size v n cs := by
  refine ⟨h.1, h.2.imp id ?_⟩
  rintro ⟨g, cap, cur, hv, hg, r⟩
  exact ⟨g, cap, cur, hv, by omega, r⟩
theorem own_keeps {S : Nat → Prop} {w w' : World} {base e size n : Nat} {a : Option Addr} {cap : Nat} {cs : List Value} (h : w.ownsRow base e size (.slice a n cap) n cs) (hk : Keeps S w w') (hne : ∀ b, blk a = some b → ¬ S b) : w'.ownsRow base e size (.slice a n cap) n cs := by
  refine ⟨h.1, h.2.imp id ?_⟩
  rintro ⟨g, cap, cur, hv, hg, hh, r⟩
  simp only [Value.slice.injEq, true_and] at hv
  obtain ⟨rfl, rfl⟩ := hv
  exact ⟨g, cap, cur, rfl, hg, by rw [hk.block g (Array.getElem?_eq_some_iff.1 hh).1 (hne g rfl)]; exact hh, r⟩
theorem Rd.keeps {S : Nat → Prop} {w w' : World} {a : Option Addr} {cs : List Value} (h : Rd w a cs) (hk : Keeps S w w') (hne : ∀ b, blk a = some b → ¬ S b) : Rd w' a cs := by
  refine h.imp id ?_
  rintro ⟨b, off, rfl, hlt, hc⟩
  exact ⟨b, off, rfl, Nat.lt_of_lt_of_le hlt hk.size, fun j u hj => (World.cell?_of_block (hk.block b hlt (hne b rfl))).trans (hc j u hj)⟩

theorem own_cap {w : World} {base e size n : Nat} {a : Option Addr} {cap : Nat} {cs : List Value} (h : w.ownsRow base e size (.slice a n cap) n cs) : n ≤ cap := by
  rcases h.2 with ⟨_, hn⟩ | ⟨g, cap', cur, hv, _, _, hc, _⟩
  · omega
  · simp only [Value.slice.injEq, true_and] at hv
    obtain ⟨_, rfl⟩ := hv
    exact hc
/-- The call owns the instructions at a, or the program. -/
abbrev OwX (w : World) (base : Nat) (a : Option Addr) (cap : Nat) (xs : List Ins) : Prop := w.ownsRow base 70 4 (.slice a xs.length cap) xs.length (insV xs)
theorem own_ins {w : World} {base e n cap g : Nat} {xs : List Ins} (h : w.ownsRow base e 4 (.slice (some ⟨g, 0, none⟩) n cap) n (insV xs)) (k : Nat) (x : Ins) (hk : xs[k]? = some x) : InsAt w g 0 k x := by
  have hl := h.1
  rw [length_insV] at hl
  have hkl := (List.getElem?_eq_some_iff.1 hk).1
  have q := fun f (hf : f < 4) => (h.cellAt (k * 4 + f) (by omega)).trans (insV_get xs k f x hk hf)
  unfold InsAt
  rw [Nat.zero_add]
  exact ⟨q 0 (by omega), q 1 (by omega), q 2 (by omega), q 3 (by omega)⟩
theorem own_setIns {w : World} {base e n cap g : Nat} {xs : List Ins} (h : w.ownsRow base e 4 (.slice (some ⟨g, 0, none⟩) n cap) n (insV xs)) (k : Nat) (x : Ins) (hk : k < xs.length) :
    ((((w.setCell ⟨g, k * 4, none⟩ (.int .i64 x.op)).setCell ⟨g, k * 4 + 1, none⟩ (.int .i64 x.loc)).setCell ⟨g, k * 4 + 2, none⟩ (.int .i64 x.reg)).setCell ⟨g, k * 4 + 3, none⟩ (.int .i64 x.val)).ownsRow base e 4 (.slice (some ⟨g, 0, none⟩) n cap) n (insV (xs.set k x)) := by
  rw [← insV_set xs k x hk]
  exact ((((h.stored _ _).1.stored _ _).1.stored _ _).1.stored _ _).1
theorem own_slots {w : World} {base e n cap g : Nat} {xs : List Ins} (h : w.ownsRow base e 4 (.slice (some ⟨g, 0, none⟩) n cap) n (insV xs)) (k : Nat) (hk : k < xs.length) :
    ∃ z : Ins, (w.cell? ⟨g, k * 4, none⟩ = some (.int .i64 z.op) ∧ w.cell? ⟨g, k * 4 + 1, none⟩ = some (.int .i64 z.loc) ∧ w.cell? ⟨g, k * 4 + 2, none⟩ = some (.int .i64 z.reg) ∧ w.cell? ⟨g, k * 4 + 3, none⟩ = some (.int .i64 z.val)) ∧
      w.frozen? ⟨g, k * 4, none⟩ = false ∧ w.frozen? ⟨g, k * 4 + 1, none⟩ = false ∧ w.frozen? ⟨g, k * 4 + 2, none⟩ = false ∧ w.frozen? ⟨g, k * 4 + 3, none⟩ = false := by
  have h1 := own_ins h k _ (List.getElem?_eq_getElem hk)
  unfold InsAt at h1
  rw [Nat.zero_add] at h1
  exact ⟨_, h1, h.frozenAt _, h.frozenAt _, h.frozenAt _, h.frozenAt _⟩
theorem below_set4 {B g : Nat} {a w : World} (h : Below B a w) (hg : B ≤ g) (o0 o1 o2 o3 : Nat) (u0 u1 u2 u3 : Value) :
    Below B a ((((w.setCell ⟨g, o0, none⟩ u0).setCell ⟨g, o1, none⟩ u1).setCell ⟨g, o2, none⟩ u2).setCell ⟨g, o3, none⟩ u3) :=
  (((h.setCell hg _).setCell hg _).setCell hg _).setCell hg _
def OwP (w : World) (base top : Nat) (a : Option Addr) (cap : Nat) (p : Prg) : Prop :=
  ∃ rs : List (Option Addr × Nat), rs.length = p.length ∧ w.ownsRow base 30 1 (.slice a p.length cap) p.length (rowsV rs p) ∧ (∀ (k : Nat) r xs, rs[k]? = some r → p[k]? = some xs → OwX w base r.1 r.2 xs) ∧
    (∀ (i k : Nat) r s b, rs[i]? = some r → rs[k]? = some s → blk r.1 = some b → blk s.1 = some b → i = k) ∧ (∀ (k : Nat) r b, rs[k]? = some r → blk r.1 = some b → b < top) ∧ ∀ b, blk a = some b → b < top
theorem OwP.rd {w : World} {base top cap : Nat} {a : Option Addr} {p : Prg} (h : OwP w base top a cap p) : RdP w a p := by
  obtain ⟨rs, hl, ho, hi, _⟩ := h
  exact ⟨rs, hl, Rd.own ho, fun k r xs h1 h2 => ⟨Rd.own (hi k r xs h1 h2), own_cap (hi k r xs h1 h2)⟩⟩
theorem OwP.below {w w' : World} {base top cap : Nat} {a : Option Addr} {p : Prg} (h : OwP w base top a cap p) (hb : Below w.heap.size w w') : OwP w' base top a cap p := by
  obtain ⟨rs, hl, ho, hi, hd⟩ := h
  exact ⟨rs, hl, own_below ho hb, fun k r xs h1 h2 => own_below (hi k r xs h1 h2) hb, hd⟩
theorem OwP.keeps {S : Nat → Prop} {w w' : World} {base top cap : Nat} {a : Option Addr} {p : Prg} (h : OwP w base top a cap p) (hk : Keeps S w w') (hne : ∀ b, base ≤ b → b < top → ¬ S b) : OwP w' base top a cap p := by
  obtain ⟨rs, hl, ho, hi, hd, ht, ht'⟩ := h
  refine ⟨rs, hl, own_keeps ho hk fun b hb => hne b (own_blk ho b hb).1 (ht' b hb), fun k r xs h1 h2 => own_keeps (hi k r xs h1 h2) hk fun b hb => hne b (own_blk (hi k r xs h1 h2) b hb).1 (ht k r b h1 hb), hd, ht, ht'⟩

theorem Try.info_instr : (Try.prog.info? 70).map (fun i => (i.zero, i.size, i.bytes)) = some (some (.agg #[.int .i64 0, .int .i64 0, .int .i64 0, .int .i64 0]), 4, 32) := by kernel_rfl
theorem Try.info_row : (Try.prog.info? 30).map (fun i => (i.zero, i.size, i.bytes)) = some (some (.slice none 0 0), 1, 24) := by kernel_rfl

/-- How many threads and instructions a program has. -/
def sizeP (p : Prg) : Nat := p.length + (p.map List.length).sum
theorem le_sum_of : ∀ {l : List Nat} {n : Nat}, n ∈ l → n ≤ l.sum
  | [], n, h => by simp at h
  | m :: l, n, h => by
    rw [List.sum_cons]
    rcases List.mem_cons.1 h with rfl | h
    · omega
    · have := le_sum_of h; omega
theorem sizeP_row {p : Prg} {k : Nat} {xs : List Ins} (h : p[k]? = some xs) : xs.length ≤ sizeP p := by
  have : xs.length ≤ (p.map List.length).sum := le_sum_of (List.mem_map.2 ⟨xs, List.mem_of_getElem? h, rfl⟩)
  unfold sizeP; omega
theorem sizeP_len (p : Prg) : p.length ≤ sizeP p := by unfold sizeP; omega
/-- How many instructions the first k threads have. -/
def sumTo (k : Nat) (p : Prg) : Nat := ((p.take k).map List.length).sum
theorem sumTo_succ {p : Prg} {k : Nat} {xs : List Ins} (h : p[k]? = some xs) : sumTo (k + 1) p = sumTo k p + xs.length := by
  obtain ⟨hi, rfl⟩ := List.getElem?_eq_some_iff.1 h
  unfold sumTo
  rw [List.take_succ_eq_append_getElem hi, List.map_append, List.sum_append]
  simp
theorem sumTo_zero (p : Prg) : sumTo 0 p = 0 := by simp [sumTo]
theorem sumTo_all (p : Prg) : sumTo p.length p = (p.map List.length).sum := by simp [sumTo]
theorem sumTo_le (p : Prg) (k : Nat) : sumTo k p ≤ (p.map List.length).sum := by
  have e : p.map List.length = (p.take k).map List.length ++ (p.drop k).map List.length := by rw [← List.map_append, List.take_append_drop]
  rw [e, List.sum_append]
  unfold sumTo
  omega
end Go.Proofs.Ythlmfjoiicnomaa
