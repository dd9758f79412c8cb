/-
  PROVED HERE: a state that begins grows by a row of one write. CONDITIONS: as each theorem states.
-/
import Derived.Test.YthlmfjoiicnomaaVc
import Derived.Test.YthlmfjoiicnomaaVi
namespace Go.Proofs.Ythlmfjoiicnomaa
open Go.RowKit
set_option linter.unusedVariables false
set_option linter.unusedSimpArgs false

/-- The rows of a state that begins: nv views, nl rows of one write. -/
def c5 (m nv nl : Nat) : Ct where
  X := fun ix => match ix with | (0, 0) => ints0 m | (0, _ + 1) => ints0 (m * 3) | (_ + 1, _) => [0, 0, 0]
  nv := nv
  nl := nl
  N := fun _ => 1
  MV := fun _ _ => 0
  LK := fun _ _ => false
theorem own_start {w : World} {base m g2 n2 g6 n6 : Nat} (h2 : OwI w base (some ⟨g2, 0, none⟩) n2 (ints0 m)) (h6 : OwI w base (some ⟨g6, 0, none⟩) n6 (ints0 (m * 3))) (hne : g2 ≠ g6) :
    OwC w base ⟨some ⟨g2, 0, none⟩, n2, some ⟨g6, 0, none⟩, n6, none, 0, none, 0⟩ ⟨fun ix => match ix with | (0, 0) => (some ⟨g2, 0, none⟩, n2) | (0, _ + 1) => (some ⟨g6, 0, none⟩, n6) | (_ + 1, _) => (none, 0), fun _ => (none, 0)⟩ (c5 m 0 0) 0 := by
  have hd : ∀ ix, (c5 m 0 0).dom ix → ix = (0, 0) ∨ ix = (0, 1) := by
    rintro ⟨a, b⟩ hx
    have hx : (a = 0 ∧ b < 2) ∨ (a = 1 ∧ b < 0) ∨ (2 ≤ a ∧ a < 0 + 2 ∧ b < 1) := hx
    rcases hx with ⟨rfl, h⟩ | ⟨_, h⟩ | ⟨h, h', _⟩
    · have : b = 0 ∨ b = 1 := by omega
      rcases this with rfl | rfl
      · exact .inl rfl
      · exact .inr rfl
    · omega
    · omega
  refine ⟨fun ix hx => ?_, fun ix iy b hx hy h1 h2 => ?_, rfl, rfl, own_none _ _ _ _, own_none _ _ _ _, fun l hl => absurd hl (Nat.not_lt_zero _), fun l l' b hl => absurd hl (Nat.not_lt_zero _), fun ix hx h1 => ?_, Nat.le_refl _⟩
  · rcases hd ix hx with rfl | rfl
    · exact h2
    · exact h6
  · rcases hd ix hx with rfl | rfl <;> rcases hd iy hy with rfl | rfl
    · rfl
    · simp [blk] at h1 h2; omega
    · simp [blk] at h1 h2; omega
    · rfl
  · rcases hd ix hx with rfl | rfl <;> exact absurd h1 (by decide)
theorem start5_ct (p : Prg) : CtEq (c5 p.length p.length 3) (ct (start5 p)) := by
  have hrow : ∀ l, l < 3 → row5 (start5 p) l = [msZ] := fun l hl => start_row hl
  refine ⟨by show (List.replicate p.length [0, 0, 0]).length = p.length; simp, by show (List.replicate 3 [msZ]).length = 3; simp, fun l hl => ?_, fun ix hx => ?_, fun l k hl hk => ?_⟩
  · show (row5 (start5 p) l).length = 1
    rw [hrow l hl]; rfl
  · obtain ⟨a, b⟩ := ix
    have hx : (a = 0 ∧ b < 2) ∨ (a = 1 ∧ b < p.length) ∨ (2 ≤ a ∧ a < 3 + 2 ∧ b < 1) := hx
    rcases hx with ⟨rfl, h⟩ | ⟨rfl, h⟩ | ⟨h1, h2, h3⟩
    · have : b = 0 ∨ b = 1 := by omega
      rcases this with rfl | rfl
      · rfl
      · rfl
    · show vw (start5 p) b = [0, 0, 0]
      refine vw_of ?_
      show (List.replicate p.length [0, 0, 0])[b]? = _
      rw [List.getElem?_replicate, if_pos h]
    · obtain ⟨l, rfl⟩ : ∃ l, a = l + 2 := ⟨a - 2, by omega⟩
      have : b = 0 := by omega
      subst this
      show ((row5 (start5 p) l).getD 0 msZ).view = [0, 0, 0]
      rw [hrow l (by omega)]; rfl
  · have hk : k < 1 := hk
    have : k = 0 := by omega
    subst this
    have hl : l < 3 := hl
    exact ⟨by show ((row5 (start5 p) l).getD 0 msZ).val = 0; rw [hrow l hl]; rfl, by show ((row5 (start5 p) l).getD 0 msZ).lock = false; rw [hrow l hl]; rfl⟩
theorem own_msg1 (w : World) (base : Nat) (u0 u1 u2 : Value) (e : TypeId) (h : base ≤ w.heap.size) : (w.alloc (.cells #[u0, u1, u2] e)).ownsRow base e 3 (.slice (some ⟨w.heap.size, 0, none⟩) 1 1) 1 [u0, u1, u2] :=
  ⟨rfl, .inr ⟨w.heap.size, 1, #[u0, u1, u2], rfl, h, heap_alloc_new w _, Nat.le_refl _, by decide, rfl, rfl⟩⟩
theorem own_addW {w w' : World} {base m nv n : Nat} {q : Sp} {y : Ly} {r : Option Addr × Nat} {a1 a' : Option Addr} {c1 c' : Nat} (h : OwC w base q y (c5 m nv n) n) (hk : Keeps (fun b => blk q.a3 = some b) w w')
    (hr : w'.ownsRow base 3 1 (.slice r.1 3 r.2) 3 (ints (ints0 3))) (hrn : ∀ b, blk r.1 = some b → w.heap.size ≤ b)
    (hm : w'.ownsRow base 117 3 (.slice a1 1 c1) 1 [.int .i64 0, .bool false, .slice r.1 3 r.2]) (hmn : ∀ b, blk a1 = some b → w.heap.size ≤ b)
    (hl : w'.ownsRow base 118 1 (.slice a' (n + 1) c') (n + 1) (lcells y (fun _ => 1) n ++ [.slice a1 1 c1])) :
    OwC w' base { q with a3 := a', c3 := c' } ((y.setI (n + 2, 0) r).setL n (a1, c1)) (c5 m nv (n + 1)) (n + 1) := by
  have hd : ∀ ix, (c5 m nv (n + 1)).dom ix → ix = (n + 2, 0) ∨ (ix ≠ (n + 2, 0) ∧ (c5 m nv n).dom ix) := by
    rintro ⟨a, b⟩ hx
    have hx : (a = 0 ∧ b < 2) ∨ (a = 1 ∧ b < nv) ∨ (2 ≤ a ∧ a < n + 1 + 2 ∧ b < 1) := hx
    by_cases e : ((a, b) : Ix) = (n + 2, 0)
    · exact .inl e
    · refine .inr ⟨e, ?_⟩
      rcases hx with h1 | h1 | ⟨h1, h2, h3⟩
      · exact .inl h1
      · exact .inr (.inl h1)
      · have hb : b = 0 := by omega
        subst hb
        have : a ≠ n + 2 := fun e' => e (by rw [e'])
        exact .inr (.inr ⟨h1, by show a < n + 2; omega, h3⟩)
  have hI : ∀ ix, ix ≠ (n + 2, 0) → ((y.setI (n + 2, 0) r).setL n (a1, c1)).I ix = y.I ix := fun ix e => setI_ne y _ _ e
  have hI0 : ((y.setI (n + 2, 0) r).setL n (a1, c1)).I (n + 2, 0) = r := setI_same y _ _
  refine ⟨fun ix hx => ?_, fun ix iy b hx hy h1 h2 => ?_, by rw [hI _ (by simp)]; exact h.h0, by rw [hI _ (by simp)]; exact h.h1, ?_, ?_, fun l hl' => ?_, fun l l' b hl' hl'' h1 h2 => ?_, fun ix hx h1 => ?_, Nat.le_refl _⟩
  · rcases hd ix hx with rfl | ⟨e, hx'⟩
    · rw [hI0]; exact hr
    · rw [hI ix e]; exact OwC.kept (h.int ix hx') h.lo (by decide) hk
  · rcases hd ix hx with rfl | ⟨e, hx'⟩ <;> rcases hd iy hy with rfl | ⟨e', hy'⟩
    · rfl
    · rw [hI0] at h1; rw [hI _ e'] at h2
      have := hrn b h1; have := (own_blk (h.int iy hy') b h2).2; omega
    · rw [hI0] at h2; rw [hI _ e] at h1
      have := hrn b h2; have := (own_blk (h.int ix hx') b h1).2; omega
    · rw [hI _ e] at h1; rw [hI _ e'] at h2
      exact h.dis ix iy b hx' hy' h1 h2
  · show w'.ownsRow base 24 1 (.slice q.a2 nv q.c2) nv (vcells ((y.setI (n + 2, 0) r).setL n (a1, c1)) nv)
    rw [vcells_congr (y := y) fun t ht => hI _ (by simp)]
    exact OwC.kept h.vo h.lo (by decide) hk
  · show w'.ownsRow base 118 1 (.slice a' (n + 1) c') (n + 1) (lcells ((y.setI (n + 2, 0) r).setL n (a1, c1)) (fun _ => 1) (n + 1))
    have el : lcells ((y.setI (n + 2, 0) r).setL n (a1, c1)) (fun _ => 1) n = lcells y (fun _ => 1) n := lcells_congr fun l hl' => ⟨setL_ne (y.setI (n + 2, 0) r) n (a1, c1) (by omega), rfl⟩
    rw [lcells_succ, setL_same, el]
    exact hl
  · have hl' : l < n + 1 := hl'
    by_cases e : l = n
    · subst e
      rw [setL_same]
      have em : mcells ((y.setI (l + 2, 0) r).setL l (a1, c1)) (fun _ _ => 0) (fun _ _ => false) l 1 = [.int .i64 0, .bool false, .slice r.1 3 r.2] := by
        rw [mcells_succ, hI0]; rfl
      show w'.ownsRow base 117 3 (.slice a1 1 c1) 1 (mcells _ (fun _ _ => 0) (fun _ _ => false) l 1)
      rw [em]
      exact hm
    · rw [setL_ne _ _ _ e]
      have em : mcells ((y.setI (n + 2, 0) r).setL n (a1, c1)) (fun _ _ => 0) (fun _ _ => false) l 1 = mcells y (fun _ _ => 0) (fun _ _ => false) l 1 := mcells_congr fun j hj => ⟨hI _ (by simp; omega), rfl, rfl⟩
      show w'.ownsRow base 117 3 (.slice (y.L l).1 1 (y.L l).2) 1 (mcells _ (fun _ _ => 0) (fun _ _ => false) l 1)
      rw [em]
      exact OwC.kept (h.row l (by show l < n; omega)) h.lo (by decide) hk
  · have hl' : l < n + 1 := hl'
    have hl'' : l' < n + 1 := hl''
    by_cases e : l = n <;> by_cases e' : l' = n
    · omega
    · subst e
      rw [setL_same] at h1; rw [setL_ne _ _ _ e'] at h2
      have := hmn b h1; have := (own_blk (h.row l' (by show l' < l; omega)) b h2).2; omega
    · subst e'
      rw [setL_same] at h2; rw [setL_ne _ _ _ e] at h1
      have := hmn b h2; have := (own_blk (h.row l (by show l < l'; omega)) b h1).2; omega
    · rw [setL_ne _ _ _ e] at h1; rw [setL_ne _ _ _ e'] at h2
      exact h.ldis l l' b (by show l < n; omega) (by show l' < n; omega) h1 h2
  · rcases hd ix hx with rfl | ⟨e, hx'⟩
    · rfl
    · exact h.len ix hx' h1
end Go.Proofs.Ythlmfjoiicnomaa
