/-
  PROVED HERE: how a state with views grows row by row. CONDITIONS: as each lemma states.
-/
import Derived.Test.YthlmfjoiicnomaaVk
namespace Go.Proofs.Ythlmfjoiicnomaa
open Go.RowKit
set_option linter.unusedVariables false
set_option linter.unusedSimpArgs false

def Ly.setI (y : Ly) (ix : Ix) (r : Option Addr × Nat) : Ly := { y with I := fun iy => if iy = ix then r else y.I iy }
def Ly.setL (y : Ly) (l : Nat) (r : Option Addr × Nat) : Ly := { y with L := fun k => if k = l then r else y.L k }
theorem setI_ne (y : Ly) (ix : Ix) (r : Option Addr × Nat) {iy : Ix} (h : iy ≠ ix) : (y.setI ix r).I iy = y.I iy := by
  show (if iy = ix then r else y.I iy) = y.I iy
  rw [if_neg h]
theorem setI_same (y : Ly) (ix : Ix) (r : Option Addr × Nat) : (y.setI ix r).I ix = r := by
  show (if ix = ix then r else y.I ix) = r
  rw [if_pos rfl]
theorem setL_ne (y : Ly) (l : Nat) (r : Option Addr × Nat) {k : Nat} (h : k ≠ l) : (y.setL l r).L k = y.L k := by
  show (if k = l then r else y.L k) = y.L k
  rw [if_neg h]
theorem setL_same (y : Ly) (l : Nat) (r : Option Addr × Nat) : (y.setL l r).L l = r := by
  show (if l = l then r else y.L l) = r
  rw [if_pos rfl]
/-- One more view. -/
def Ct.addV (c : Ct) (xs : List Int) : Ct := { c with nv := c.nv + 1, X := fun ix => if ix = (1, c.nv) then xs else c.X ix }
/-- One more row of writes, which is empty. -/
def Ct.addR (c : Ct) : Ct := { c with nl := c.nl + 1, N := fun l => if l = c.nl then 0 else c.N l }
/-- One more write in row l. -/
def Ct.addM (c : Ct) (l : Nat) (v : Int) (b : Bool) (xs : List Int) : Ct :=
  { c with N := fun k => if k = l then c.N l + 1 else c.N k, X := fun ix => if ix = (l + 2, c.N l) then xs else c.X ix, MV := fun k j => if k = l ∧ j = c.N l then v else c.MV k j, LK := fun k j => if k = l ∧ j = c.N l then b else c.LK k j }
section
variable {w w' : World} {base : Nat} {q : Sp} {y : Ly} {c : Ct} {n : Nat} {r : Option Addr × Nat} {xs : List Int} {a' : Option Addr} {c' : Nat}
theorem OwC.kept {e e' size size' m m' : Nat} {a b : Option Addr} {cap cap' : Nat} {cs cs' : List Value} (h : w.ownsRow base e size (.slice a m cap) m cs) (hs : w.ownsRow base e' size' (.slice b m' cap') m' cs') (hne : e ≠ e') (hk : Keeps (fun k => blk b = some k) w w') : w'.ownsRow base e size (.slice a m cap) m cs :=
  own_keeps h hk fun k hk' e => own_apart h hs hne k hk' e
theorem OwC.addV (h : OwC w base q y c n) (hk : Keeps (fun b => blk q.a2 = some b) w w') (hr : w'.ownsRow base 3 1 (.slice r.1 3 r.2) 3 (ints xs)) (hnew : ∀ b, blk r.1 = some b → w.heap.size ≤ b) (hvo : w'.ownsRow base 24 1 (.slice a' (c.nv + 1) c') (c.nv + 1) (vcells y c.nv ++ [.slice r.1 3 r.2])) (hx : xs.length = 3) :
    OwC w' base { q with a2 := a', c2 := c' } (y.setI (1, c.nv) r) (c.addV xs) n := by
  have hd : ∀ ix, (c.addV xs).dom ix → ix = (1, c.nv) ∨ (ix ≠ (1, c.nv) ∧ c.dom ix) := by
    rintro ⟨a, b⟩ hx
    have hx : (a = 0 ∧ b < 2) ∨ (a = 1 ∧ b < c.nv + 1) ∨ (2 ≤ a ∧ a < c.nl + 2 ∧ b < c.N (a - 2)) := hx
    by_cases e : ((a, b) : Ix) = (1, c.nv)
    · exact .inl e
    · refine .inr ⟨e, ?_⟩
      rcases hx with h1 | ⟨rfl, h2⟩ | h1
      · exact .inl h1
      · exact .inr (.inl ⟨rfl, by
          have : b ≠ c.nv := fun e' => e (by rw [e'])
          show b < c.nv
          omega⟩)
      · exact .inr (.inr h1)
  have hX : ∀ ix, ix ≠ (1, c.nv) → (c.addV xs).X ix = c.X ix := fun ix e => by
    show (if ix = (1, c.nv) then xs else c.X ix) = c.X ix
    rw [if_neg e]
  have hX0 : (c.addV xs).X (1, c.nv) = xs := by
    show (if ((1, c.nv) : Ix) = (1, c.nv) then xs else _) = xs
    rw [if_pos rfl]
  refine ⟨fun ix hx' => ?_, fun ix iy b hx' hy' h1 h2 => ?_, by rw [setI_ne _ _ _ (by simp)]; exact h.h0, by rw [setI_ne _ _ _ (by simp)]; exact h.h1, ?_, OwC.kept h.lo h.vo (by decide) hk, fun l hl => ?_, h.ldis, fun ix hx' h1 => ?_, h.nle⟩
  · rcases hd ix hx' with rfl | ⟨e, hd'⟩
    · rw [setI_same, hX0]
      unfold OwI
      rw [hx]
      exact hr
    · rw [setI_ne _ _ _ e, hX ix e]
      exact OwC.kept (h.int ix hd') h.vo (by decide) hk
  · rcases hd ix hx' with rfl | ⟨e, hd'⟩ <;> rcases hd iy hy' with rfl | ⟨e', hd''⟩
    · rfl
    · rw [setI_same] at h1
      rw [setI_ne _ _ _ e'] at h2
      have := hnew b h1
      have := (own_blk (h.int iy hd'') b h2).2
      omega
    · rw [setI_same] at h2
      rw [setI_ne _ _ _ e] at h1
      have := hnew b h2
      have := (own_blk (h.int ix hd') b h1).2
      omega
    · rw [setI_ne _ _ _ e] at h1
      rw [setI_ne _ _ _ e'] at h2
      exact h.dis ix iy b hd' hd'' h1 h2
  · show w'.ownsRow base 24 1 (.slice a' (c.nv + 1) c') (c.nv + 1) (vcells (y.setI (1, c.nv) r) (c.nv + 1))
    rw [vcells_succ, setI_same, vcells_congr (y := y) fun t ht => setI_ne _ _ _ (by simp; omega)]
    exact hvo
  · have e : mcells (y.setI (1, c.nv) r) c.MV c.LK l (c.N l) = mcells y c.MV c.LK l (c.N l) := mcells_congr fun k hk' => ⟨setI_ne _ _ _ (by simp), rfl, rfl⟩
    show w'.ownsRow base 117 3 (.slice (y.L l).1 (c.N l) (y.L l).2) (c.N l) (mcells (y.setI (1, c.nv) r) c.MV c.LK l (c.N l))
    rw [e]
    exact OwC.kept (h.row l hl) h.vo (by decide) hk
  · rcases hd ix hx' with rfl | ⟨e, hd'⟩
    · rw [hX0]; exact hx
    · rw [hX ix e]; exact h.len ix hd' h1
/-- A row that is begun. -/
theorem OwC.addR (h : OwC w base q y c n) (hb : Below w.heap.size w w') {g cp : Nat} (hg : w.heap.size ≤ g) (hr : w'.ownsRow base 117 3 (.slice (some ⟨g, 0, none⟩) 0 cp) 0 []) : OwC w' base q (y.setL c.nl (some ⟨g, 0, none⟩, cp)) c.addR n := by
  have h' := h.below hb
  have hnle := h.nle
  have hd : ∀ ix, c.addR.dom ix → c.dom ix := by
    rintro ⟨a, b⟩ hx
    have hx : (a = 0 ∧ b < 2) ∨ (a = 1 ∧ b < c.nv) ∨ (2 ≤ a ∧ a < c.nl + 1 + 2 ∧ b < (if a - 2 = c.nl then 0 else c.N (a - 2))) := hx
    rcases hx with h1 | h1 | ⟨h1, h2, h3⟩
    · exact .inl h1
    · exact .inr (.inl h1)
    · by_cases e : a - 2 = c.nl
      · rw [if_pos e] at h3; omega
      · rw [if_neg e] at h3
        exact .inr (.inr ⟨h1, by show a < c.nl + 2; omega, h3⟩)
  have hL : ∀ l b, l < c.nl → blk (y.L l).1 = some b → b < w.heap.size := fun l b hl hb => (own_blk (h.row l hl) b hb).2
  refine ⟨fun ix hx => h'.int ix (hd ix hx), fun ix iy b hx hy => h.dis ix iy b (hd ix hx) (hd iy hy), h.h0, h.h1, h'.vo, ?_, fun l hl => ?_, fun l l' b hl hl' h1 h2 => ?_, fun ix hx h1 => h.len ix (hd ix hx) h1, by show n ≤ c.nl + 1; omega⟩
  · have e : lcells (y.setL c.nl (some ⟨g, 0, none⟩, cp)) c.addR.N n = lcells y c.N n := lcells_congr fun l hl => ⟨setL_ne _ _ _ (by omega), by show (if l = c.nl then 0 else c.N l) = c.N l; rw [if_neg (by omega)]⟩
    rw [e]
    exact h'.lo
  · have hl : l < c.nl + 1 := hl
    by_cases e : l = c.nl
    · subst e
      have e2 : c.addR.N c.nl = 0 := by show (if c.nl = c.nl then 0 else c.N c.nl) = 0; rw [if_pos rfl]
      rw [setL_same, e2]
      exact hr
    · have e2 : c.addR.N l = c.N l := by show (if l = c.nl then 0 else c.N l) = c.N l; rw [if_neg e]
      rw [setL_ne _ _ _ e, e2]
      exact h'.row l (by omega)
  · have hl : l < c.nl + 1 := hl
    have hl' : l' < c.nl + 1 := hl'
    by_cases e : l = c.nl <;> by_cases e' : l' = c.nl
    · omega
    · subst e
      rw [setL_same] at h1
      rw [setL_ne _ _ _ e'] at h2
      simp only [blk, Option.some.injEq] at h1
      have := hL l' b (by omega) h2
      omega
    · subst e'
      rw [setL_same] at h2
      rw [setL_ne _ _ _ e] at h1
      simp only [blk, Option.some.injEq] at h2
      have := hL l b (by omega) h1
      omega
    · rw [setL_ne _ _ _ e] at h1
      rw [setL_ne _ _ _ e'] at h2
      exact h.ldis l l' b (by omega) (by omega) h1 h2
/-- One more write in the row that is being built. -/
theorem OwC.addM (h : OwC w base q y c n) (hn : c.nl = n + 1) (hk : Keeps (fun b => blk (y.L n).1 = some b) w w') (hr : w'.ownsRow base 3 1 (.slice r.1 3 r.2) 3 (ints xs)) (hnew : ∀ b, blk r.1 = some b → w.heap.size ≤ b) {v : Int} {bl : Bool}
    (hrow : w'.ownsRow base 117 3 (.slice a' (c.N n + 1) c') (c.N n + 1) (mcells y c.MV c.LK n (c.N n) ++ [.int .i64 v, .bool bl, .slice r.1 3 r.2])) (ha : blk a' = blk (y.L n).1 ∨ ∀ b, blk a' = some b → w.heap.size ≤ b) (hx : xs.length = 3) :
    OwC w' base q ((y.setI (n + 2, c.N n) r).setL n (a', c')) (c.addM n v bl xs) n := by
  have hrw := h.row n (by omega)
  have hd : ∀ ix, (c.addM n v bl xs).dom ix → ix = (n + 2, c.N n) ∨ (ix ≠ (n + 2, c.N n) ∧ c.dom ix) := by
    rintro ⟨a, b⟩ hx
    have hx : (a = 0 ∧ b < 2) ∨ (a = 1 ∧ b < c.nv) ∨ (2 ≤ a ∧ a < c.nl + 2 ∧ b < (if a - 2 = n then c.N n + 1 else c.N (a - 2))) := hx
    by_cases e : ((a, b) : Ix) = (n + 2, c.N n)
    · exact .inl e
    · refine .inr ⟨e, ?_⟩
      rcases hx with h1 | h1 | ⟨h1, h2, h3⟩
      · exact .inl h1
      · exact .inr (.inl h1)
      · refine .inr (.inr ⟨h1, h2, ?_⟩)
        show b < c.N (a - 2)
        by_cases ea : a - 2 = n
        · rw [if_pos ea] at h3
          have : b ≠ c.N n := fun e' => e (by rw [e', show a = n + 2 by omega])
          rw [ea]
          omega
        · rw [if_neg ea] at h3
          exact h3
  have hX : ∀ ix, ix ≠ (n + 2, c.N n) → (c.addM n v bl xs).X ix = c.X ix := fun ix e => by
    show (if ix = (n + 2, c.N n) then xs else c.X ix) = c.X ix
    rw [if_neg e]
  have hX0 : (c.addM n v bl xs).X (n + 2, c.N n) = xs := by
    show (if ((n + 2, c.N n) : Ix) = (n + 2, c.N n) then xs else _) = xs
    rw [if_pos rfl]
  have hI : ∀ ix, ((y.setI (n + 2, c.N n) r).setL n (a', c')).I ix = (y.setI (n + 2, c.N n) r).I ix := fun ix => rfl
  refine ⟨fun ix hx' => ?_, fun ix iy b hx' hy' h1 h2 => ?_, by rw [hI, setI_ne _ _ _ (by simp)]; exact h.h0, by rw [hI, setI_ne _ _ _ (by simp)]; exact h.h1, ?_, ?_, fun l hl => ?_, fun l l' b hl hl' h1 h2 => ?_, fun ix hx' h1 => ?_, h.nle⟩
  · rcases hd ix hx' with rfl | ⟨e, hd'⟩
    · rw [hI, setI_same, hX0]
      unfold OwI
      rw [hx]
      exact hr
    · rw [hI, setI_ne _ _ _ e, hX ix e]
      exact OwC.kept (h.int ix hd') hrw (by decide) hk
  · rw [hI] at h1 h2
    rcases hd ix hx' with rfl | ⟨e, hd'⟩ <;> rcases hd iy hy' with rfl | ⟨e', hd''⟩
    · rfl
    · rw [setI_same] at h1
      rw [setI_ne _ _ _ e'] at h2
      have := hnew b h1
      have := (own_blk (h.int iy hd'') b h2).2
      omega
    · rw [setI_same] at h2
      rw [setI_ne _ _ _ e] at h1
      have := hnew b h2
      have := (own_blk (h.int ix hd') b h1).2
      omega
    · rw [setI_ne _ _ _ e] at h1
      rw [setI_ne _ _ _ e'] at h2
      exact h.dis ix iy b hd' hd'' h1 h2
  · have e : vcells ((y.setI (n + 2, c.N n) r).setL n (a', c')) c.nv = vcells y c.nv := vcells_congr fun t ht => by rw [hI]; exact setI_ne _ _ _ (by simp)
    show w'.ownsRow base 24 1 (.slice q.a2 c.nv q.c2) c.nv (vcells ((y.setI (n + 2, c.N n) r).setL n (a', c')) c.nv)
    rw [e]
    exact OwC.kept h.vo hrw (by decide) hk
  · have e : lcells ((y.setI (n + 2, c.N n) r).setL n (a', c')) (c.addM n v bl xs).N n = lcells y c.N n := lcells_congr fun l hl => ⟨(setL_ne _ _ _ (by omega)).trans rfl, by show (if l = n then c.N n + 1 else c.N l) = c.N l; rw [if_neg (by omega)]⟩
    rw [e]
    exact OwC.kept h.lo hrw (by decide) hk
  · have hl : l < c.nl := hl
    by_cases e : l = n
    · subst e
      have e2 : (c.addM l v bl xs).N l = c.N l + 1 := by show (if l = l then c.N l + 1 else c.N l) = _; rw [if_pos rfl]
      rw [setL_same, e2, mcells_succ, hI, setI_same]
      have e3 : (c.addM l v bl xs).MV l (c.N l) = v := by show (if l = l ∧ c.N l = c.N l then v else _) = v; rw [if_pos ⟨rfl, rfl⟩]
      have e4 : (c.addM l v bl xs).LK l (c.N l) = bl := by show (if l = l ∧ c.N l = c.N l then bl else _) = bl; rw [if_pos ⟨rfl, rfl⟩]
      rw [e3, e4, mcells_congr (y := y) (MV := c.MV) (LK := c.LK) (l := l) fun k hk' => ⟨by rw [hI]; exact setI_ne _ _ _ (by simp; omega), by show (if l = l ∧ k = c.N l then v else _) = _; rw [if_neg (by omega)], by show (if l = l ∧ k = c.N l then bl else _) = _; rw [if_neg (by omega)]⟩]
      exact hrow
    · have e2 : (c.addM n v bl xs).N l = c.N l := by show (if l = n then c.N n + 1 else c.N l) = _; rw [if_neg e]
      have e5 : ((y.setI (n + 2, c.N n) r).setL n (a', c')).L l = y.L l := (setL_ne _ _ _ e).trans rfl
      rw [e5, e2, mcells_congr (y := y) (MV := c.MV) (LK := c.LK) (l := l) fun k hk' => ⟨by rw [hI]; exact setI_ne _ _ _ (by simp; omega), by show (if l = n ∧ k = c.N n then v else _) = _; rw [if_neg (by omega)], by show (if l = n ∧ k = c.N n then bl else _) = _; rw [if_neg (by omega)]⟩]
      refine own_keeps (h.row l hl) hk fun b hb hb' => e (h.ldis l n b hl (by omega) hb hb')
  · have hl : l < c.nl := hl
    have hl' : l' < c.nl := hl'
    have hLb : ∀ k b, k < c.nl → blk (y.L k).1 = some b → b < w.heap.size := fun k b hk' hb => (own_blk (h.row k hk') b hb).2
    have eL : ∀ k, k ≠ n → ((y.setI (n + 2, c.N n) r).setL n (a', c')).L k = y.L k := fun k e => (setL_ne _ _ _ e).trans rfl
    by_cases e : l = n <;> by_cases e' : l' = n
    · omega
    · subst e
      rw [setL_same] at h1
      rw [eL l' e'] at h2
      rcases ha with ha | ha
      · rw [ha] at h1
        exact h.ldis l l' b hl hl' h1 h2
      · have := ha b h1
        have := hLb l' b hl' h2
        omega
    · subst e'
      rw [setL_same] at h2
      rw [eL l e] at h1
      rcases ha with ha | ha
      · rw [ha] at h2
        exact h.ldis l l' b hl hl' h1 h2
      · have := ha b h2
        have := hLb l b hl h1
        omega
    · rw [eL l e] at h1
      rw [eL l' e'] at h2
      exact h.ldis l l' b hl hl' h1 h2
  · rcases hd ix hx' with rfl | ⟨e, hd'⟩
    · rw [hX0]; exact hx
    · rw [hX ix e]; exact h.len ix hd' h1
/-- The row is put behind the others. -/
theorem OwC.pushR (h : OwC w base q y c n) (hn : n < c.nl) (hk : Keeps (fun b => blk q.a3 = some b) w w') (hlo : w'.ownsRow base 118 1 (.slice a' (n + 1) c') (n + 1) (lcells y c.N n ++ [.slice (y.L n).1 (c.N n) (y.L n).2])) :
    OwC w' base { q with a3 := a', c3 := c' } y c (n + 1) := by
  refine ⟨fun ix hx => OwC.kept (h.int ix hx) h.lo (by decide) hk, h.dis, h.h0, h.h1, OwC.kept h.vo h.lo (by decide) hk, ?_, fun l hl => OwC.kept (h.row l hl) h.lo (by decide) hk, h.ldis, h.len, by omega⟩
  rw [lcells_succ]
  exact hlo
end
end Go.Proofs.Ythlmfjoiicnomaa
