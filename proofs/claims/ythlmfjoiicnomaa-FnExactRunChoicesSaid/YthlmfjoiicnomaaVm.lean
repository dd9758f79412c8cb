/-
  PROVED HERE: words for states with views that lie in memory: what can be read, what the call owns, what a store makes of it. CONDITIONS: as each lemma states.
-/
import Derived.Test.YthlmfjoiicnomaaVw
import Derived.Test.YthlmfjoiicnomaaSpg
namespace Go.Proofs.Ythlmfjoiicnomaa
open Go.RowKit
set_option linter.unusedVariables false
set_option linter.unusedSimpArgs false

/-- A row of numbers of a state: (0, 0) how far threads are, (0, 1) registers, (1, t) what thread t sees, (l + 2, k) what is seen with write k of location l. -/
abbrev Ix := Nat × Nat
/-- What the rows of a state hold. -/
structure Ct where
  X : Ix → List Int
  nv : Nat
  nl : Nat
  N : Nat → Nat
  MV : Nat → Nat → Int
  LK : Nat → Nat → Bool
/-- Where the rows lie. -/
structure Ly where
  I : Ix → Option Addr × Nat
  L : Nat → Option Addr × Nat
def Ct.dom (c : Ct) (ix : Ix) : Prop := (ix.1 = 0 ∧ ix.2 < 2) ∨ (ix.1 = 1 ∧ ix.2 < c.nv) ∨ (2 ≤ ix.1 ∧ ix.1 < c.nl + 2 ∧ ix.2 < c.N (ix.1 - 2))
def vcells (y : Ly) (n : Nat) : List Value := (List.range n).map fun t => .slice (y.I (1, t)).1 3 (y.I (1, t)).2
def lcells (y : Ly) (N : Nat → Nat) (n : Nat) : List Value := (List.range n).map fun l => .slice (y.L l).1 (N l) (y.L l).2
def mcell (r : Option Addr × Nat) (v : Int) (b : Bool) (j : Nat) : Value := if j = 0 then .int .i64 v else if j = 1 then .bool b else .slice r.1 3 r.2
def mcells (y : Ly) (MV : Nat → Nat → Int) (LK : Nat → Nat → Bool) (l n : Nat) : List Value := (List.range (n * 3)).map fun i => mcell (y.I (l + 2, i / 3)) (MV l (i / 3)) (LK l (i / 3)) (i % 3)
theorem vcells_len (y : Ly) (n : Nat) : (vcells y n).length = n := by simp [vcells]
theorem lcells_len (y : Ly) (N : Nat → Nat) (n : Nat) : (lcells y N n).length = n := by simp [lcells]
theorem mcells_len (y : Ly) (MV : Nat → Nat → Int) (LK : Nat → Nat → Bool) (l n : Nat) : (mcells y MV LK l n).length = n * 3 := by simp [mcells]
theorem vcells_get {y : Ly} {n t : Nat} (h : t < n) : (vcells y n)[t]? = some (.slice (y.I (1, t)).1 3 (y.I (1, t)).2) := by simp [vcells, List.getElem?_range, h]
theorem lcells_get {y : Ly} {N : Nat → Nat} {n l : Nat} (h : l < n) : (lcells y N n)[l]? = some (.slice (y.L l).1 (N l) (y.L l).2) := by simp [lcells, List.getElem?_range, h]
theorem mcells_get {y : Ly} {MV : Nat → Nat → Int} {LK : Nat → Nat → Bool} {l n k j : Nat} (h : k < n) (hj : j < 3) : (mcells y MV LK l n)[k * 3 + j]? = some (mcell (y.I (l + 2, k)) (MV l k) (LK l k) j) := by
  unfold mcells
  rw [List.getElem?_map, List.getElem?_range (by omega)]
  simp only [Option.map_some]
  rw [show (k * 3 + j) / 3 = k by omega, show (k * 3 + j) % 3 = j by omega]
theorem mcell_one (r : Option Addr × Nat) (v : Int) (b : Bool) (j : Nat) : (mcell r v b j).oneCell' = true := by unfold mcell; split; rfl; split <;> rfl
theorem mcells_one (y : Ly) (MV : Nat → Nat → Int) (LK : Nat → Nat → Bool) (l n : Nat) : ∀ u ∈ mcells y MV LK l n, u.oneCell' = true := by
  intro u hu
  obtain ⟨i, _, rfl⟩ := List.mem_map.1 hu
  exact mcell_one _ _ _ _
theorem vcells_succ (y : Ly) (n : Nat) : vcells y (n + 1) = vcells y n ++ [.slice (y.I (1, n)).1 3 (y.I (1, n)).2] := by simp [vcells, List.range_succ]
theorem lcells_succ (y : Ly) (N : Nat → Nat) (n : Nat) : lcells y N (n + 1) = lcells y N n ++ [.slice (y.L n).1 (N n) (y.L n).2] := by simp [lcells, List.range_succ]
theorem mcells_succ (y : Ly) (MV : Nat → Nat → Int) (LK : Nat → Nat → Bool) (l n : Nat) : mcells y MV LK l (n + 1) = mcells y MV LK l n ++ [.int .i64 (MV l n), .bool (LK l n), .slice (y.I (l + 2, n)).1 3 (y.I (l + 2, n)).2] := by
  unfold mcells
  rw [show (n + 1) * 3 = n * 3 + 1 + 1 + 1 by omega, List.range_succ, List.range_succ, List.range_succ]
  simp only [List.map_append, List.map_cons, List.map_nil, List.append_assoc, List.cons_append, List.nil_append]
  rw [show (n * 3) / 3 = n by omega, show (n * 3) % 3 = 0 by omega, show (n * 3 + 1) / 3 = n by omega, show (n * 3 + 1) % 3 = 1 by omega, show (n * 3 + 1 + 1) / 3 = n by omega, show (n * 3 + 1 + 1) % 3 = 2 by omega]
  rfl
theorem vcells_congr {y y' : Ly} {n : Nat} (h : ∀ t, t < n → y'.I (1, t) = y.I (1, t)) : vcells y' n = vcells y n := by
  refine List.map_congr_left fun t ht => ?_
  rw [h t (List.mem_range.1 ht)]
theorem lcells_congr {y y' : Ly} {N N' : Nat → Nat} {n : Nat} (h : ∀ l, l < n → y'.L l = y.L l ∧ N' l = N l) : lcells y' N' n = lcells y N n := by
  refine List.map_congr_left fun l hl => ?_
  rw [(h l (List.mem_range.1 hl)).1, (h l (List.mem_range.1 hl)).2]
theorem mcells_congr {y y' : Ly} {MV MV' : Nat → Nat → Int} {LK LK' : Nat → Nat → Bool} {l l' n : Nat} (h : ∀ k, k < n → y'.I (l' + 2, k) = y.I (l + 2, k) ∧ MV' l' k = MV l k ∧ LK' l' k = LK l k) : mcells y' MV' LK' l' n = mcells y MV LK l n := by
  refine List.map_congr_left fun i hi => ?_
  have := h (i / 3) (by have := List.mem_range.1 hi; omega)
  rw [this.1, this.2.1, this.2.2]
abbrev Ct.hd (c : Ct) (q : Sp) : Array Value := #[.slice q.a0 (c.X (0, 0)).length q.c0, .slice q.a1 (c.X (0, 1)).length q.c1, .slice q.a2 c.nv q.c2, .slice q.a3 c.nl q.c3]
/-- The state can be read. -/
structure RdC (w : World) (q : Sp) (y : Ly) (c : Ct) : Prop where
  int : ∀ ix, c.dom ix → Rd w (y.I ix).1 (ints (c.X ix)) ∧ (c.X ix).length ≤ (y.I ix).2
  h0 : y.I (0, 0) = (q.a0, q.c0)
  h1 : y.I (0, 1) = (q.a1, q.c1)
  vo : Rd w q.a2 (vcells y c.nv)
  lo : Rd w q.a3 (lcells y c.N c.nl)
  row : ∀ l, l < c.nl → Rd w (y.L l).1 (mcells y c.MV c.LK l (c.N l)) ∧ c.N l ≤ (y.L l).2
  len : ∀ ix, c.dom ix → 1 ≤ ix.1 → (c.X ix).length = 3
theorem RdC.below {w w' : World} {q : Sp} {y : Ly} {c : Ct} (h : RdC w q y c) (hb : Below w.heap.size w w') : RdC w' q y c :=
  ⟨fun ix hx => ⟨(h.int ix hx).1.below hb, (h.int ix hx).2⟩, h.h0, h.h1, h.vo.below hb, h.lo.below hb, fun l hl => ⟨(h.row l hl).1.below hb, (h.row l hl).2⟩, h.len⟩
/-- The state is the call's own; n of its rows of writes are in the list. -/
structure OwC (w : World) (base : Nat) (q : Sp) (y : Ly) (c : Ct) (n : Nat) : Prop where
  int : ∀ ix, c.dom ix → OwI w base (y.I ix).1 (y.I ix).2 (c.X ix)
  dis : ∀ ix iy b, c.dom ix → c.dom iy → blk (y.I ix).1 = some b → blk (y.I iy).1 = some b → ix = iy
  h0 : y.I (0, 0) = (q.a0, q.c0)
  h1 : y.I (0, 1) = (q.a1, q.c1)
  vo : w.ownsRow base 24 1 (.slice q.a2 c.nv q.c2) c.nv (vcells y c.nv)
  lo : w.ownsRow base 118 1 (.slice q.a3 n q.c3) n (lcells y c.N n)
  row : ∀ l, l < c.nl → w.ownsRow base 117 3 (.slice (y.L l).1 (c.N l) (y.L l).2) (c.N l) (mcells y c.MV c.LK l (c.N l))
  ldis : ∀ l l' b, l < c.nl → l' < c.nl → blk (y.L l).1 = some b → blk (y.L l').1 = some b → l = l'
  len : ∀ ix, c.dom ix → 1 ≤ ix.1 → (c.X ix).length = 3
  nle : n ≤ c.nl
section
variable {w w' : World} {base : Nat} {q : Sp} {y : Ly} {c : Ct} {n : Nat}
theorem OwC.below (h : OwC w base q y c n) (hb : Below w.heap.size w w') : OwC w' base q y c n :=
  ⟨fun ix hx => own_below (h.int ix hx) hb, h.dis, h.h0, h.h1, own_below h.vo hb, own_below h.lo hb, fun l hl => own_below (h.row l hl) hb, h.ldis, h.len, h.nle⟩
theorem OwC.rd (h : OwC w base q y c n) (hn : n = c.nl) : RdC w q y c := by
  subst hn
  exact ⟨fun ix hx => ⟨Rd.own (h.int ix hx), own_cap (h.int ix hx)⟩, h.h0, h.h1, Rd.own h.vo, Rd.own h.lo, fun l hl => ⟨Rd.own (h.row l hl), own_cap (h.row l hl)⟩, h.len⟩
/-- A change that leaves the rows alone. -/
theorem OwC.keeps {S : Nat → Prop} (h : OwC w base q y c n) (hk : Keeps S w w') (hS : ∀ b, base ≤ b → b < w.heap.size → ¬ S b) : OwC w' base q y c n := by
  have key : ∀ {e size m : Nat} {a : Option Addr} {cap : Nat} {cs : List Value}, w.ownsRow base e size (.slice a m cap) m cs → w'.ownsRow base e size (.slice a m cap) m cs := fun ho => own_keeps ho hk fun b hb => hS b (own_blk ho b hb).1 (own_blk ho b hb).2
  exact ⟨fun ix hx => key (h.int ix hx), h.dis, h.h0, h.h1, key h.vo, key h.lo, fun l hl => key (h.row l hl), h.ldis, h.len, h.nle⟩
/-- A row of numbers turns. -/
def Ct.setX (c : Ct) (ix : Ix) (xs : List Int) : Ct := { c with X := fun iy => if iy = ix then xs else c.X iy }
theorem OwC.set (h : OwC w base q y c n) {ix : Ix} (hx : c.dom ix) {g : Nat} (hg : (y.I ix).1 = some ⟨g, 0, none⟩) (j : Nat) (v : Int) : OwC (w.setCell ⟨g, j, none⟩ (.int .i64 v)) base q y (c.setX ix ((c.X ix).set j v)) n := by
  have k := Keeps.setCell w ⟨g, j, none⟩ (.int .i64 v)
  have hgb : blk (y.I ix).1 = some g := by rw [hg]; rfl
  have hgo := h.int ix hx
  have oth : ∀ {e size m : Nat} {a : Option Addr} {cap : Nat} {cs : List Value}, w.ownsRow base e size (.slice a m cap) m cs → e ≠ 3 → (w.setCell ⟨g, j, none⟩ (.int .i64 v)).ownsRow base e size (.slice a m cap) m cs := fun ho he =>
    own_keeps ho k fun b hb e => own_apart ho hgo he b hb (by rw [hgb]; exact congrArg some (Eq.symm e))
  refine ⟨fun iy hy => ?_, h.dis, h.h0, h.h1, oth h.vo (by decide), oth h.lo (by decide), fun l hl => oth (h.row l hl) (by decide), h.ldis, fun iy hy h1 => ?_, h.nle⟩
  · show OwI _ base (y.I iy).1 (y.I iy).2 (if iy = ix then (c.X ix).set j v else c.X iy)
    by_cases e : iy = ix
    · subst e
      rw [if_pos rfl]
      unfold OwI at hgo ⊢
      rw [hg] at hgo ⊢
      have := (hgo.stored j (.int .i64 v)).1
      have e2 : (ints (c.X iy)).set j (.int .i64 v) = ints ((c.X iy).set j v) := by simp [ints, List.map_set]
      rw [e2] at this
      simpa using this
    · rw [if_neg e]
      exact own_keeps (h.int iy hy) k fun b hb eb => e (h.dis iy ix b hy hx hb (by rw [hgb]; exact congrArg some (Eq.symm eb)))
  · show (if iy = ix then (c.X ix).set j v else c.X iy).length = 3
    by_cases e : iy = ix
    · subst e
      rw [if_pos rfl, List.length_set]
      exact h.len iy hx h1
    · rw [if_neg e]
      exact h.len iy hy h1
/-- A write is taken. -/
def Ct.setLK (c : Ct) (l k : Nat) : Ct := { c with LK := fun l' k' => if l' = l ∧ k' = k then true else c.LK l' k' }
theorem mcells_lock (y : Ly) (MV : Nat → Nat → Int) (LK : Nat → Nat → Bool) (l n k : Nat) (hk : k < n) : (mcells y MV LK l n).set (k * 3 + 1) (.bool true) = mcells y MV (fun l' k' => if l' = l ∧ k' = k then true else LK l' k') l n := by
  apply List.ext_getElem?
  intro i
  rw [List.getElem?_set]
  by_cases hi : i < n * 3
  · obtain ⟨m, j, rfl, hj⟩ : ∃ m j, i = m * 3 + j ∧ j < 3 := ⟨i / 3, i % 3, by omega, by omega⟩
    have hm : m < n := by omega
    rw [mcells_get hm hj]
    by_cases e : k * 3 + 1 = m * 3 + j
    · have e1 : m = k := by omega
      have e2 : j = 1 := by omega
      subst e1 e2
      rw [if_pos rfl, if_pos (by rw [mcells_len]; omega), mcells_get (by assumption) (by decide)]
      simp [mcell]
    · rw [if_neg e, mcells_get hm hj]
      by_cases e1 : m = k
      · subst e1
        have e2 : j ≠ 1 := by omega
        unfold mcell
        by_cases e0 : j = 0
        · simp [e0]
        · simp [e0, e2]
      · simp [e1]
  · rw [List.getElem?_eq_none (by rw [mcells_len]; omega), List.getElem?_eq_none (by rw [mcells_len]; omega)]
    split
    · rw [if_neg (by rw [mcells_len]; omega)]
    · rfl
theorem OwC.lock (h : OwC w base q y c n) {l k : Nat} (hl : l < c.nl) (hk : k < c.N l) {g : Nat} (hg : (y.L l).1 = some ⟨g, 0, none⟩) : OwC (w.setCell ⟨g, k * 3 + 1, none⟩ (.bool true)) base q y (c.setLK l k) n := by
  have kp := Keeps.setCell w ⟨g, k * 3 + 1, none⟩ (.bool true)
  have hgb : blk (y.L l).1 = some g := by rw [hg]; rfl
  have hgo := h.row l hl
  have oth : ∀ {e size m : Nat} {a : Option Addr} {cap : Nat} {cs : List Value}, w.ownsRow base e size (.slice a m cap) m cs → e ≠ 117 → (w.setCell ⟨g, k * 3 + 1, none⟩ (.bool true)).ownsRow base e size (.slice a m cap) m cs := fun ho he =>
    own_keeps ho kp fun b hb e => own_apart ho hgo he b hb (by rw [hgb]; exact congrArg some (Eq.symm e))
  refine ⟨fun iy hy => oth (h.int iy hy) (by decide), h.dis, h.h0, h.h1, oth h.vo (by decide), oth h.lo (by decide), fun l' hl' => ?_, h.ldis, h.len, h.nle⟩
  by_cases e : l' = l
  · subst e
    show World.ownsRow _ base _ 3 (.slice (y.L l').1 (c.N l') (y.L l').2) (c.N l') (mcells y c.MV (fun l1 k1 => if l1 = l' ∧ k1 = k then true else c.LK l1 k1) l' (c.N l'))
    rw [← mcells_lock y c.MV c.LK l' (c.N l') k hk]
    rw [hg] at hgo ⊢
    have := (hgo.stored (k * 3 + 1) (.bool true)).1
    simpa using this
  · have e2 : mcells y c.MV (c.setLK l k).LK l' (c.N l') = mcells y c.MV c.LK l' (c.N l') := mcells_congr fun k' hk' => ⟨rfl, rfl, by
      show (if l' = l ∧ k' = k then true else c.LK l' k') = c.LK l' k'
      rw [if_neg (fun e' => e e'.1)]⟩
    show World.ownsRow _ base _ 3 (.slice (y.L l').1 (c.N l') (y.L l').2) (c.N l') (mcells y c.MV (c.setLK l k).LK l' (c.N l'))
    rw [e2]
    exact own_keeps (h.row l' hl') kp fun b hb eb => e (h.ldis l' l b hl' hl hb (by rw [hgb]; exact congrArg some (Eq.symm eb)))
end
/-- The state can be read; all its rows are new. -/
def FrC (w : World) (base : Nat) (q : Sp) (c : Ct) : Prop :=
  ∃ y, RdC w q y c ∧ (∀ ix b, c.dom ix → blk (y.I ix).1 = some b → base ≤ b) ∧ (∀ b, blk q.a2 = some b → base ≤ b) ∧ (∀ b, blk q.a3 = some b → base ≤ b) ∧ ∀ l b, l < c.nl → blk (y.L l).1 = some b → base ≤ b
theorem OwC.fr {w : World} {base : Nat} {q : Sp} {y : Ly} {c : Ct} {n : Nat} (h : OwC w base q y c n) (hn : n = c.nl) : FrC w base q c :=
  ⟨y, h.rd hn, fun ix b hx hb => (own_blk (h.int ix hx) b hb).1, fun b hb => (own_blk h.vo b hb).1, fun b hb => (own_blk h.lo b hb).1, fun l b hl hb => (own_blk (h.row l hl) b hb).1⟩
theorem FrC.keeps {w w' : World} {base : Nat} {q : Sp} {c : Ct} {S : Nat → Prop} (h : FrC w base q c) (hk : Keeps S w w') (hS : ∀ b, base ≤ b → ¬ S b) : FrC w' base q c := by
  obtain ⟨y, hr, h1, h2, h3, h4⟩ := h
  exact ⟨y, ⟨fun ix hx => ⟨(hr.int ix hx).1.keeps hk fun b hb => hS b (h1 ix b hx hb), (hr.int ix hx).2⟩, hr.h0, hr.h1, hr.vo.keeps hk fun b hb => hS b (h2 b hb), hr.lo.keeps hk fun b hb => hS b (h3 b hb), fun l hl => ⟨(hr.row l hl).1.keeps hk fun b hb => hS b (h4 l b hl hb), (hr.row l hl).2⟩, hr.len⟩, h1, h2, h3, h4⟩
theorem FrC.down {w : World} {base base' : Nat} {q : Sp} {c : Ct} (h : FrC w base' q c) (hb : base ≤ base') : FrC w base q c := by
  obtain ⟨y, hr, h1, h2, h3, h4⟩ := h
  exact ⟨y, hr, fun ix b hx hb' => Nat.le_trans hb (h1 ix b hx hb'), fun b hb' => Nat.le_trans hb (h2 b hb'), fun b hb' => Nat.le_trans hb (h3 b hb'), fun l b hl hb' => Nat.le_trans hb (h4 l b hl hb')⟩
/-- States whose rows hold the same. -/
structure CtEq (c c' : Ct) : Prop where
  nv : c'.nv = c.nv
  nl : c'.nl = c.nl
  N : ∀ l, l < c.nl → c'.N l = c.N l
  X : ∀ ix, c.dom ix → c'.X ix = c.X ix
  M : ∀ l k, l < c.nl → k < c.N l → c'.MV l k = c.MV l k ∧ c'.LK l k = c.LK l k
theorem CtEq.dom {c c' : Ct} (h : CtEq c c') {ix : Ix} (hx : c'.dom ix) : c.dom ix := by
  unfold Ct.dom at hx ⊢
  rw [h.nv, h.nl] at hx
  rcases hx with hx | hx | ⟨h1, h2, h3⟩
  · exact .inl hx
  · exact .inr (.inl hx)
  · refine .inr (.inr ⟨h1, h2, ?_⟩)
    rw [h.N _ (by omega)] at h3
    exact h3
theorem RdC.congr {w : World} {q : Sp} {y : Ly} {c c' : Ct} (h : RdC w q y c) (e : CtEq c c') : RdC w q y c' := by
  refine ⟨fun ix hx => ?_, h.h0, h.h1, by rw [e.nv]; exact h.vo, ?_, fun l hl => ?_, fun ix hx h1 => ?_⟩
  · rw [e.X ix (e.dom hx)]; exact h.int ix (e.dom hx)
  · rw [e.nl, lcells_congr (y := y) (N := c.N) fun l hl => ⟨rfl, e.N l hl⟩]
    exact h.lo
  · rw [e.nl] at hl
    rw [e.N l hl, mcells_congr (y := y) (MV := c.MV) (LK := c.LK) (l := l) fun k hk => ⟨rfl, e.M l k hl hk⟩]
    exact h.row l hl
  · rw [e.X ix (e.dom hx)]; exact h.len ix (e.dom hx) h1
theorem FrC.congr {w : World} {base : Nat} {q : Sp} {c c' : Ct} (h : FrC w base q c) (e : CtEq c c') : FrC w base q c' := by
  obtain ⟨y, hr, h1, h2, h3, h4⟩ := h
  exact ⟨y, hr.congr e, fun ix b hx hb => h1 ix b (e.dom hx) hb, h2, h3, fun l b hl hb => h4 l b (by rw [← e.nl]; exact hl) hb⟩
/-- The rows of a state. -/
def ct (s : Vs) : Ct where
  X := fun ix => match ix with | (0, 0) => s.st.pc | (0, _ + 1) => s.st.regs | (1, t) => vw s t | (l + 2, k) => ((row5 s l).getD k msZ).view
  nv := s.view.length
  nl := s.list.length
  N := fun l => (row5 s l).length
  MV := fun l k => ((row5 s l).getD k msZ).val
  LK := fun l k => ((row5 s l).getD k msZ).lock
abbrev Sp.hd5 (q : Sp) (s : Vs) : Array Value := #[.slice q.a0 s.st.pc.length q.c0, .slice q.a1 s.st.regs.length q.c1, .slice q.a2 s.view.length q.c2, .slice q.a3 s.list.length q.c3]
abbrev Sp.v5 (q : Sp) (s : Vs) : Value := .agg (q.hd5 s)
def RdV (w : World) (q : Sp) (s : Vs) : Prop := ∃ y, RdC w q y (ct s)
theorem RdV.below {w w' : World} {q : Sp} {s : Vs} (h : RdV w q s) (hb : Below w.heap.size w w') : RdV w' q s := by
  obtain ⟨y, h⟩ := h
  exact ⟨y, h.below hb⟩
theorem FrC.rd {w : World} {base : Nat} {q : Sp} {s : Vs} (h : FrC w base q (ct s)) : RdV w q s := by
  obtain ⟨y, h, _⟩ := h
  exact ⟨y, h⟩
theorem FrC.below {w w' : World} {base : Nat} {q : Sp} {c : Ct} (h : FrC w base q c) (hb : Below w.heap.size w w') : FrC w' base q c := h.keeps (S := fun _ => False) (Keeps.of_below hb) fun _ _ e => e
section
variable {w : World} {q : Sp} {y : Ly} {c : Ct}
theorem dom0 (c : Ct) : c.dom (0, 0) := .inl ⟨rfl, by decide⟩
theorem dom1 (c : Ct) : c.dom (0, 1) := .inl ⟨rfl, by decide⟩
theorem domV {c : Ct} {t : Nat} (h : t < c.nv) : c.dom (1, t) := .inr (.inl ⟨rfl, h⟩)
theorem domM {c : Ct} {l k : Nat} (h : l < c.nl) (hk : k < c.N l) : c.dom (l + 2, k) := .inr (.inr ⟨by simp, by simpa using h, by simpa using hk⟩)
theorem RdC.intAt (h : RdC w q y c) {ix : Ix} (hx : c.dom ix) (hne : 0 < (c.X ix).length) : ∃ b off, (y.I ix).1 = some ⟨b, off, none⟩ ∧ b < w.heap.size ∧ ∀ j x, (c.X ix)[j]? = some x → w.cell? ⟨b, off + j, none⟩ = some (.int .i64 x) := by
  rcases (h.int ix hx).1 with he | ⟨b, off, e, hlt, hc⟩
  · rw [List.map_eq_nil_iff] at he
    rw [he] at hne
    cases hne
  · exact ⟨b, off, e, hlt, fun j x hj => hc j _ (by rw [List.getElem?_map, hj]; rfl)⟩
/-- What a thread sees. -/
theorem RdC.viewAt (h : RdC w q y c) {t : Nat} (ht : t < c.nv) : ∃ b off r ro rc, q.a2 = some ⟨b, off, none⟩ ∧ b < w.heap.size ∧ w.cell? ⟨b, off + t, none⟩ = some (.slice (some ⟨r, ro, none⟩) 3 rc) ∧ (y.I (1, t)).1 = some ⟨r, ro, none⟩ ∧ (y.I (1, t)).2 = rc ∧ r < w.heap.size ∧ ∀ j x, (c.X (1, t))[j]? = some x → w.cell? ⟨r, ro + j, none⟩ = some (.int .i64 x) := by
  obtain ⟨b, off, e, hlt, hc⟩ := h.vo.at t (by rw [vcells_len]; exact ht)
  have hg := vcells_get (y := y) ht
  rw [List.getElem?_eq_getElem (by rw [vcells_len]; exact ht)] at hg
  rw [Option.some.inj hg] at hc
  obtain ⟨r, ro, e2, hlt2, hc2⟩ := h.intAt (domV ht) (by rw [h.len _ (domV ht) (Nat.le_refl _)]; decide)
  rw [e2] at hc
  exact ⟨b, off, r, ro, _, e, hlt, hc, e2, rfl, hlt2, hc2⟩
/-- The writes of a location. -/
theorem RdC.rowAt (h : RdC w q y c) {l : Nat} (hl : l < c.nl) : ∃ b off, q.a3 = some ⟨b, off, none⟩ ∧ b < w.heap.size ∧ w.cell? ⟨b, off + l, none⟩ = some (.slice (y.L l).1 (c.N l) (y.L l).2) ∧ c.N l ≤ (y.L l).2 := by
  obtain ⟨b, off, e, hlt, hc⟩ := h.lo.at l (by rw [lcells_len]; exact hl)
  have hg := lcells_get (y := y) (N := c.N) hl
  rw [List.getElem?_eq_getElem (by rw [lcells_len]; exact hl)] at hg
  rw [Option.some.inj hg] at hc
  exact ⟨b, off, e, hlt, hc, (h.row l hl).2⟩
theorem RdC.msgAt (h : RdC w q y c) {l k : Nat} (hl : l < c.nl) (hk : k < c.N l) : ∃ r ro m mo, (y.L l).1 = some ⟨r, ro, none⟩ ∧ r < w.heap.size ∧ w.cell? ⟨r, ro + k * 3, none⟩ = some (.int .i64 (c.MV l k)) ∧ w.cell? ⟨r, ro + k * 3 + 1, none⟩ = some (.bool (c.LK l k)) ∧ w.cell? ⟨r, ro + k * 3 + 2, none⟩ = some (.slice (some ⟨m, mo, none⟩) 3 (y.I (l + 2, k)).2) ∧
    (y.I (l + 2, k)).1 = some ⟨m, mo, none⟩ ∧ m < w.heap.size ∧ ∀ j x, (c.X (l + 2, k))[j]? = some x → w.cell? ⟨m, mo + j, none⟩ = some (.int .i64 x) := by
  obtain ⟨m, mo, e2, hlt2, hc2⟩ := h.intAt (domM hl hk) (by rw [h.len _ (domM hl hk) (by simp)]; decide)
  rcases (h.row l hl).1 with he | ⟨r, ro, e, hlt, hc⟩
  · have := congrArg List.length he
    rw [mcells_len] at this
    simp at this
    omega
  · have g := fun j (hj : j < 3) => hc (k * 3 + j) _ (mcells_get (y := y) (MV := c.MV) (LK := c.LK) (l := l) hk hj)
    have g0 := g 0 (by decide)
    have g1 := g 1 (by decide)
    have g2 := g 2 (by decide)
    unfold mcell at g2
    simp only [show ¬ (2 = 0) by decide, show ¬ (2 = 1) by decide, if_false, e2] at g2
    exact ⟨r, ro, m, mo, e, hlt, g0, g1, g2, e2, hlt2, hc2⟩
end
end Go.Proofs.Ythlmfjoiicnomaa
