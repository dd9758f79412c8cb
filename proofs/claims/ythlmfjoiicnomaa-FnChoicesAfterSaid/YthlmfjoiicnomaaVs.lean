/-
  PROVED HERE: a state that begins grows by a row of one write. what spec.l5Start does. CONDITIONS: as each theorem states.
-/
import Derived.Test.YthlmfjoiicnomaaVc
import Derived.Test.YthlmfjoiicnomaaVi
import Derived.Test.YthlmfjoiicnomaaVn
namespace Go.Proofs.Ythlmfjoiicnomaa
open Go.RowKit
set_option linter.unusedVariables false
set_option linter.unusedSimpArgs false

/-- The rows of a state that begins: nv views, nl rows of one write. -/
def c5 (m nv nl : Nat) : Ct where
  X := fun ix => match ix with | (0, 0) => ints0 m | (0, _ + 1) => ints0 (m * 3) | (_ + 1, _) => [0, 0, 0]
  nv := nv
  nl := nl
  N := fun _ => 1
  MV := fun _ _ => 0
  LK := fun _ _ => false
theorem own_start {w : World} {base m g2 n2 g6 n6 : Nat} (h2 : OwI w base (some ⟨g2, 0, none⟩) n2 (ints0 m)) (h6 : OwI w base (some ⟨g6, 0, none⟩) n6 (ints0 (m * 3))) (hne : g2 ≠ g6) :
    OwC w base ⟨some ⟨g2, 0, none⟩, n2, some ⟨g6, 0, none⟩, n6, none, 0, none, 0⟩ ⟨fun ix => match ix with | (0, 0) => (some ⟨g2, 0, none⟩, n2) | (0, _ + 1) => (some ⟨g6, 0, none⟩, n6) | (_ + 1, _) => (none, 0), fun _ => (none, 0)⟩ (c5 m 0 0) 0 := by
  have hd : ∀ ix, (c5 m 0 0).dom ix → ix = (0, 0) ∨ ix = (0, 1) := by
    rintro ⟨a, b⟩ hx
    have hx : (a = 0 ∧ b < 2) ∨ (a = 1 ∧ b < 0) ∨ (2 ≤ a ∧ a < 0 + 2 ∧ b < 1) := hx
    rcases hx with ⟨rfl, h⟩ | ⟨_, h⟩ | ⟨h, h', _⟩
    · have : b = 0 ∨ b = 1 := by omega
      rcases this with rfl | rfl
      · exact .inl rfl
      · exact .inr rfl
    · omega
    · omega
  refine ⟨fun ix hx => ?_, fun ix iy b hx hy h1 h2 => ?_, rfl, rfl, own_none _ _ _ _, own_none _ _ _ _, fun l hl => absurd hl (Nat.not_lt_zero _), fun l l' b hl => absurd hl (Nat.not_lt_zero _), fun ix hx h1 => ?_, Nat.le_refl _⟩
  · rcases hd ix hx with rfl | rfl
    · exact h2
    · exact h6
  · rcases hd ix hx with rfl | rfl <;> rcases hd iy hy with rfl | rfl
    · rfl
    · simp [blk] at h1 h2; omega
    · simp [blk] at h1 h2; omega
    · rfl
  · rcases hd ix hx with rfl | rfl <;> exact absurd h1 (by decide)
theorem start5_ct (p : Prg) : CtEq (c5 p.length p.length 3) (ct (start5 p)) := by
  have hrow : ∀ l, l < 3 → row5 (start5 p) l = [msZ] := fun l hl => start_row hl
  refine ⟨by show (List.replicate p.length [0, 0, 0]).length = p.length; simp, by show (List.replicate 3 [msZ]).length = 3; simp, fun l hl => ?_, fun ix hx => ?_, fun l k hl hk => ?_⟩
  · show (row5 (start5 p) l).length = 1
    rw [hrow l hl]; rfl
  · obtain ⟨a, b⟩ := ix
    have hx : (a = 0 ∧ b < 2) ∨ (a = 1 ∧ b < p.length) ∨ (2 ≤ a ∧ a < 3 + 2 ∧ b < 1) := hx
    rcases hx with ⟨rfl, h⟩ | ⟨rfl, h⟩ | ⟨h1, h2, h3⟩
    · have : b = 0 ∨ b = 1 := by omega
      rcases this with rfl | rfl
      · rfl
      · rfl
    · show vw (start5 p) b = [0, 0, 0]
      refine vw_of ?_
      show (List.replicate p.length [0, 0, 0])[b]? = _
      rw [List.getElem?_replicate, if_pos h]
    · obtain ⟨l, rfl⟩ : ∃ l, a = l + 2 := ⟨a - 2, by omega⟩
      have : b = 0 := by omega
      subst this
      show ((row5 (start5 p) l).getD 0 msZ).view = [0, 0, 0]
      rw [hrow l (by omega)]; rfl
  · have hk : k < 1 := hk
    have : k = 0 := by omega
    subst this
    have hl : l < 3 := hl
    exact ⟨by show ((row5 (start5 p) l).getD 0 msZ).val = 0; rw [hrow l hl]; rfl, by show ((row5 (start5 p) l).getD 0 msZ).lock = false; rw [hrow l hl]; rfl⟩
theorem own_msg1 (w : World) (base : Nat) (u0 u1 u2 : Value) (e : TypeId) (h : base ≤ w.heap.size) : (w.alloc (.cells #[u0, u1, u2] e)).ownsRow base e 3 (.slice (some ⟨w.heap.size, 0, none⟩) 1 1) 1 [u0, u1, u2] :=
  ⟨rfl, .inr ⟨w.heap.size, 1, #[u0, u1, u2], rfl, h, heap_alloc_new w _, Nat.le_refl _, by decide, rfl, rfl⟩⟩
theorem own_addW {w w' : World} {base m nv n : Nat} {q : Sp} {y : Ly} {r : Option Addr × Nat} {a1 a' : Option Addr} {c1 c' : Nat} (h : OwC w base q y (c5 m nv n) n) (hk : Keeps (fun b => blk q.a3 = some b) w w')
    (hr : w'.ownsRow base 3 1 (.slice r.1 3 r.2) 3 (ints (ints0 3))) (hrn : ∀ b, blk r.1 = some b → w.heap.size ≤ b)
    (hm : w'.ownsRow base 117 3 (.slice a1 1 c1) 1 [.int .i64 0, .bool false, .slice r.1 3 r.2]) (hmn : ∀ b, blk a1 = some b → w.heap.size ≤ b)
    (hl : w'.ownsRow base 118 1 (.slice a' (n + 1) c') (n + 1) (lcells y (fun _ => 1) n ++ [.slice a1 1 c1])) :
    OwC w' base { q with a3 := a', c3 := c' } ((y.setI (n + 2, 0) r).setL n (a1, c1)) (c5 m nv (n + 1)) (n + 1) := by
  have hd : ∀ ix, (c5 m nv (n + 1)).dom ix → ix = (n + 2, 0) ∨ (ix ≠ (n + 2, 0) ∧ (c5 m nv n).dom ix) := by
    rintro ⟨a, b⟩ hx
    have hx : (a = 0 ∧ b < 2) ∨ (a = 1 ∧ b < nv) ∨ (2 ≤ a ∧ a < n + 1 + 2 ∧ b < 1) := hx
    by_cases e : ((a, b) : Ix) = (n + 2, 0)
    · exact .inl e
    · refine .inr ⟨e, ?_⟩
      rcases hx with h1 | h1 | ⟨h1, h2, h3⟩
      · exact .inl h1
      · exact .inr (.inl h1)
      · have hb : b = 0 := by omega
        subst hb
        have : a ≠ n + 2 := fun e' => e (by rw [e'])
        exact .inr (.inr ⟨h1, by show a < n + 2; omega, h3⟩)
  have hI : ∀ ix, ix ≠ (n + 2, 0) → ((y.setI (n + 2, 0) r).setL n (a1, c1)).I ix = y.I ix := fun ix e => setI_ne y _ _ e
  have hI0 : ((y.setI (n + 2, 0) r).setL n (a1, c1)).I (n + 2, 0) = r := setI_same y _ _
  refine ⟨fun ix hx => ?_, fun ix iy b hx hy h1 h2 => ?_, by rw [hI _ (by simp)]; exact h.h0, by rw [hI _ (by simp)]; exact h.h1, ?_, ?_, fun l hl' => ?_, fun l l' b hl' hl'' h1 h2 => ?_, fun ix hx h1 => ?_, Nat.le_refl _⟩
  · rcases hd ix hx with rfl | ⟨e, hx'⟩
    · rw [hI0]; exact hr
    · rw [hI ix e]; exact OwC.kept (h.int ix hx') h.lo (by decide) hk
  · rcases hd ix hx with rfl | ⟨e, hx'⟩ <;> rcases hd iy hy with rfl | ⟨e', hy'⟩
    · rfl
    · rw [hI0] at h1; rw [hI _ e'] at h2
      have := hrn b h1; have := (own_blk (h.int iy hy') b h2).2; omega
    · rw [hI0] at h2; rw [hI _ e] at h1
      have := hrn b h2; have := (own_blk (h.int ix hx') b h1).2; omega
    · rw [hI _ e] at h1; rw [hI _ e'] at h2
      exact h.dis ix iy b hx' hy' h1 h2
  · show w'.ownsRow base 24 1 (.slice q.a2 nv q.c2) nv (vcells ((y.setI (n + 2, 0) r).setL n (a1, c1)) nv)
    rw [vcells_congr (y := y) fun t ht => hI _ (by simp)]
    exact OwC.kept h.vo h.lo (by decide) hk
  · show w'.ownsRow base 118 1 (.slice a' (n + 1) c') (n + 1) (lcells ((y.setI (n + 2, 0) r).setL n (a1, c1)) (fun _ => 1) (n + 1))
    have el : lcells ((y.setI (n + 2, 0) r).setL n (a1, c1)) (fun _ => 1) n = lcells y (fun _ => 1) n := lcells_congr fun l hl' => ⟨setL_ne (y.setI (n + 2, 0) r) n (a1, c1) (by omega), rfl⟩
    rw [lcells_succ, setL_same, el]
    exact hl
  · have hl' : l < n + 1 := hl'
    by_cases e : l = n
    · subst e
      rw [setL_same]
      have em : mcells ((y.setI (l + 2, 0) r).setL l (a1, c1)) (fun _ _ => 0) (fun _ _ => false) l 1 = [.int .i64 0, .bool false, .slice r.1 3 r.2] := by
        rw [mcells_succ, hI0]; rfl
      show w'.ownsRow base 117 3 (.slice a1 1 c1) 1 (mcells _ (fun _ _ => 0) (fun _ _ => false) l 1)
      rw [em]
      exact hm
    · rw [setL_ne _ _ _ e]
      have em : mcells ((y.setI (n + 2, 0) r).setL n (a1, c1)) (fun _ _ => 0) (fun _ _ => false) l 1 = mcells y (fun _ _ => 0) (fun _ _ => false) l 1 := mcells_congr fun j hj => ⟨hI _ (by simp; omega), rfl, rfl⟩
      show w'.ownsRow base 117 3 (.slice (y.L l).1 1 (y.L l).2) 1 (mcells _ (fun _ _ => 0) (fun _ _ => false) l 1)
      rw [em]
      exact OwC.kept (h.row l (by show l < n; omega)) h.lo (by decide) hk
  · have hl' : l < n + 1 := hl'
    have hl'' : l' < n + 1 := hl''
    by_cases e : l = n <;> by_cases e' : l' = n
    · omega
    · subst e
      rw [setL_same] at h1; rw [setL_ne _ _ _ e'] at h2
      have := hmn b h1; have := (own_blk (h.row l' (by show l' < l; omega)) b h2).2; omega
    · subst e'
      rw [setL_same] at h2; rw [setL_ne _ _ _ e] at h1
      have := hmn b h2; have := (own_blk (h.row l (by show l < l'; omega)) b h1).2; omega
    · rw [setL_ne _ _ _ e] at h1; rw [setL_ne _ _ _ e'] at h2
      exact h.ldis l l' b (by show l < n; omega) (by show l' < n; omega) h1 h2
  · rcases hd ix hx with rfl | ⟨e, hx'⟩
    · rfl
    · exact h.len ix hx' h1
end Go.Proofs.Ythlmfjoiicnomaa
namespace Go.Proofs.Ythlmfjoiicnomaa
open Go.RowKit
set_option linter.unusedVariables false
set_option linter.unusedSimpArgs false

/-- What region 1 of l5Start makes. -/
def strV (B m k : Nat) (w : World) (v : Value) : Prop := if k = 2 then IsRow0 B m w v else if k = 6 then IsRow0 B (m * 3) w v else if k = 8 then IsCells zSt 59 w v else True
theorem strV_stays (B m : Nat) : Stays (strV B m) := by
  intro k w w' v h hb
  unfold strV at h ⊢
  split
  · rw [if_pos (by assumption)] at h; exact h.below hb
  · rw [if_neg (by assumption)] at h
    split
    · rw [if_pos (by assumption)] at h; exact h.below hb
    · rw [if_neg (by assumption)] at h
      split
      · rw [if_pos (by assumption)] at h; exact h.below hb
      · trivial
theorem rd_one0 (w : World) (u : Value) (e : TypeId) : Rd (w.alloc (.cells #[u] e)) (some ⟨w.heap.size, 0, none⟩) [u] :=
  .inr ⟨_, 0, rfl, by simp, fun j v hj => by
    rw [Nat.zero_add, cell_of_row _ _ j _ _ _ (heap_alloc_new w _)]
    match j, hj with
    | 0, hj => simpa using hj
    | k + 1, hj => simp at hj⟩
/-- The region that adds a row of one write, in its middle. -/
structure St9 (wd : World) (C : World → Prop) (F : Value → World → Prop) (S : Nat → Bool) (ρ : Nat → Value) (w' : World) : Prop where
  c : C w'
  o4 : S 4 = true → S 2 = true
  o5 : S 5 = true → S 4 = true
  o6 : S 6 = true → S 5 = true
  p0 : S 2 = false → w' = wd
  e2 : S 2 = true → ρ 2 = .slice (some ⟨wd.heap.size, 0, none⟩) 3 3
  p2 : S 2 = true → S 6 = false → Below wd.heap.size wd w' ∧ w'.ownsRow wd.heap.size 3 1 (.slice (some ⟨wd.heap.size, 0, none⟩) 3 3) 3 (ints (ints0 3))
  p4 : S 4 = true → S 6 = false → ∃ h, wd.heap.size < h ∧ ρ 4 = .slice (some ⟨h, 0, none⟩) 1 1 ∧ w'.ownsRow wd.heap.size 117 3 (.slice (some ⟨h, 0, none⟩) 1 1) 1 [.int .i64 0, .bool false, .slice (some ⟨wd.heap.size, 0, none⟩) 3 3]
  p5 : S 5 = true → S 6 = false → ∃ h j, ρ 4 = .slice (some ⟨h, 0, none⟩) 1 1 ∧ ρ 5 = .slice (some ⟨j, 0, none⟩) 1 1 ∧ Rd w' (some ⟨j, 0, none⟩) [.slice (some ⟨h, 0, none⟩) 1 1]
  p6 : S 6 = true → F (ρ 6) w'
/-- The region that adds a view, in its middle. -/
structure St5 (wd : World) (C : World → Prop) (F : Value → World → Prop) (S : Nat → Bool) (ρ : Nat → Value) (w' : World) : Prop where
  c : C w'
  o3 : S 3 = true → S 2 = true
  o4 : S 4 = true → S 3 = true
  p0 : S 2 = false → w' = wd
  p2 : S 2 = true → S 4 = false → ρ 2 = .slice (some ⟨wd.heap.size, 0, none⟩) 3 3 ∧ Below wd.heap.size wd w' ∧ w'.ownsRow wd.heap.size 3 1 (.slice (some ⟨wd.heap.size, 0, none⟩) 3 3) 3 (ints (ints0 3))
  p3 : S 3 = true → S 4 = false → ∃ h, ρ 3 = .slice (some ⟨h, 0, none⟩) 1 1 ∧ Rd w' (some ⟨h, 0, none⟩) [.slice (some ⟨wd.heap.size, 0, none⟩) 3 3]
  p4 : S 4 = true → F (ρ 4) w'
theorem addV_c5 (m k : Nat) : CtEq ((c5 m k 0).addV (ints0 3)) (c5 m (k + 1) 0) := by
  refine ⟨rfl, rfl, fun l hl => rfl, fun ix hx => ?_, fun l j hl hj => ⟨rfl, rfl⟩⟩
  show (c5 m (k + 1) 0).X ix = if ix = (1, k) then ints0 3 else (c5 m k 0).X ix
  by_cases e : ix = (1, k)
  · subst e; rw [if_pos rfl]; rfl
  · rw [if_neg e]; rfl
set_option maxRecDepth 100000 in
set_option maxHeartbeats 1600000 in
theorem l5Start_c (w : World) (a : Option Addr) (cap : Nat) (p : Prg) (hl : p.length ≤ 1000) :
    Calls Try.prog 62 #[.slice a p.length cap] w fun e w' => ∃ q : Sp, e = .returned (q.v5 (start5 p)) ∧ FrC w' w.heap.size q (ct (start5 p)) ∧ Below w.heap.size w w' := by
  obtain ⟨m, hm⟩ : ∃ m, m = p.length := ⟨_, rfl⟩
  rw [← hm] at hl ⊢
  have HM := hid hm
  clear hm
  have HI := hid Try.info_int
  go_enter Try.func62, Try.ntmps62
  go_wp2_with fail
  obtain ⟨w1, hw1⟩ : ∃ w1, w1 = w.alloc (.cells zSt 59) := ⟨_, rfl⟩
  rw [← hw1]
  refine FR.wp_region_free 9 (Parts w1 id (strV w1.heap.size m)) (by kernel_rfl) (by kernel_rfl) (by kernel_rfl) (fun _ => undef) (Parts.start _ _ _ _) fun V => ?_
  (refine FR.frGo_pure _ rfl (fun K hK => ?_); go_simp; (first | refine hK _ ?_ | refine ⟨_, fun W hW => rfl, hK _ ?_⟩ | refine ⟨_, fun W hW => ⟨rfl, rfl⟩, hK _ ?_⟩); clear hK K)
  (refine FR.frGo_pure _ rfl (fun K hK => ?_); go_simp; (first | refine hK _ ?_ | refine ⟨_, fun W hW => rfl, hK _ ?_⟩ | refine ⟨_, fun W hW => ⟨rfl, rfl⟩, hK _ ?_⟩); clear hK K)
  refine FR.frGo_act (k := 2) _ rfl (fun S ρ w' hI hS hp K hK => ?_) ?_
  · refine oper_make 24 _ _ rfl w1.heap.size 3 (.int .i64 0) 1 8 Try.underlying24 HI.out (by omega) _ _ m rfl rfl rfl rfl (by omega) hI.below.size ?_
    intro w2 hown hb hlt
    exact hK _ _ (hI.step (strV_stays _ _) hb ⟨_, _, rfl, own_ints0 hown⟩ fun b e => .inl (by simp [vblk, blk] at e; omega))
  (refine FR.frGo_pure _ rfl (fun K hK => ?_); go_simp; (first | refine hK _ ?_ | refine ⟨_, fun W hW => rfl, hK _ ?_⟩ | refine ⟨_, fun W hW => ⟨rfl, rfl⟩, hK _ ?_⟩); clear hK K)
  (refine FR.frGo_pure _ rfl (fun K hK => ?_); go_simp; (first | refine hK _ ?_ | refine ⟨_, fun W hW => rfl, hK _ ?_⟩ | refine ⟨_, fun W hW => ⟨rfl, rfl⟩, hK _ ?_⟩); clear hK K)
  (refine FR.frGo_pure _ rfl (fun K hK => ?_); go_simp; (first | refine hK _ ?_ | refine ⟨_, fun W hW => rfl, hK _ ?_⟩ | refine ⟨_, fun W hW => ⟨rfl, rfl⟩, hK _ ?_⟩); clear hK K)
  refine FR.frGo_act (k := 6) _ rfl (fun S ρ w' hI hS hp K hK => ?_) ?_
  · refine oper_make 24 _ _ rfl w1.heap.size 3 (.int .i64 0) 1 8 Try.underlying24 HI.out (by omega) _ _ (m * 3) rfl rfl ((IntWalk.i64_in _ (by omega)).trans (by omega)) ((IntWalk.i64_in _ (by omega)).trans (by omega)) (by omega) hI.below.size ?_
    intro w2 hown hb hlt
    exact hK _ _ (hI.step (strV_stays _ _) hb ⟨_, _, rfl, own_ints0 hown⟩ fun b e => .inl (by simp [vblk, blk] at e; omega))
  have q2 : ∀ S ρ w', Parts w1 id (strV w1.heap.size m) S ρ w' → (S 2 = true ∧ ρ 2 = V 2) → IsRow0 w1.heap.size m w' (V 2) := fun S ρ w' h e => by have := h.part 2 e.1; rw [e.2] at this; exact this
  have q6 : ∀ S ρ w', Parts w1 id (strV w1.heap.size m) S ρ w' → (S 6 = true ∧ ρ 6 = V 6) → IsRow0 w1.heap.size (m * 3) w' (V 6) := fun S ρ w' h e => by have := h.part 6 e.1; rw [e.2] at this; exact this
  have q8 : ∀ S ρ w', Parts w1 id (strV w1.heap.size m) S ρ w' → (S 8 = true ∧ ρ 8 = V 8) → IsCells zSt 59 w' (V 8) := fun S ρ w' h e => by have := h.part 8 e.1; rw [e.2] at this; exact this
  have Q2 := hid q2
  have Q6 := hid q6
  have Q8 := hid q8
  clear q2 q6 q8
  by_cases hV : (∃ g2 c2 g6 c6, V 2 = .slice (some ⟨g2, 0, none⟩) m c2 ∧ V 6 = .slice (some ⟨g6, 0, none⟩) (m * 3) c6)
  · obtain ⟨g2, c2, g6, c6, h2, h6⟩ := hV
    have H2 := hid h2
    have H6 := hid h6
    rw [h2, h6]
    clear h2 h6
    (refine FR.frGo_pure _ rfl (fun K hK => ?_); go_simp; (first | refine hK _ ?_ | refine ⟨_, fun W hW => rfl, hK _ ?_⟩ | refine ⟨_, fun W hW => ⟨rfl, rfl⟩, hK _ ?_⟩); clear hK K)
    refine FR.frGo_act (k := 8) _ rfl (fun S ρ w' hI hS hp K hK => ?_) ?_
    · go_simp
      exact hK _ _ (hI.new (strV_stays _ _) _ ⟨_, rfl, heap_alloc_new _ _⟩ rfl)
    refine FR.frGo_nil _ ?_
    intro S ρ w2 hI hS
    have R2 := Q2.out S ρ w2 hI (hS 2 (by decide) (by kernel_rfl))
    have R6 := Q6.out S ρ w2 hI (hS 6 (by decide) (by kernel_rfl))
    obtain ⟨g8, e8, R8⟩ := Q8.out S ρ w2 hI (hS 8 (by decide) (by kernel_rfl))
    rw [e8]
    refine wpMix_act rfl rfl (fun K hK => ?_)
    have z8 := hS 8 (by decide) (by kernel_rfl)
    have n2 : g2 ≠ g8 := fun e => hI.sep 2 8 g2 (hS 2 (by decide) (by kernel_rfl)).1 z8.1 (by decide) (by rw [(hS 2 (by decide) (by kernel_rfl)).2, H2.out]; rfl) (by rw [z8.2, e8, e]; rfl)
    have n6 : g6 ≠ g8 := fun e => hI.sep 6 8 g6 (hS 6 (by decide) (by kernel_rfl)).1 z8.1 (by decide) (by rw [(hS 6 (by decide) (by kernel_rfl)).2, H6.out]; rfl) (by rw [z8.2, e8, e]; rfl)
    have n26 : g2 ≠ g6 := fun e => hI.sep 2 6 g2 (hS 2 (by decide) (by kernel_rfl)).1 (hS 6 (by decide) (by kernel_rfl)).1 (by decide) (by rw [(hS 2 (by decide) (by kernel_rfl)).2, H2.out]; rfl) (by rw [(hS 6 (by decide) (by kernel_rfl)).2, H6.out, e]; rfl)
    have r8 := hI.rng 8 g8 z8.1 (by rw [z8.2, e8]; rfl)
    have B2 := hI.below
    obtain ⟨_, _, _, R2⟩ := R2
    obtain ⟨_, _, _, R6⟩ := R6
    rw [H2.out] at R2
    rw [H6.out] at R6
    have b2 := (own_blk R2 g2 rfl).1
    have b6 := (own_blk R6 g6 rfl).1
    have hs1 : w1.heap.size = w.heap.size + 1 := by rw [hw1]; simp
    clear hS hI z8
    obtain ⟨cs, hcs⟩ : ∃ cs : Array Value, cs = #[.slice (some ⟨g2, 0, none⟩) m c2, .slice (some ⟨g6, 0, none⟩) (m * 3) c6, zS, zS] := ⟨_, rfl⟩
    refine wp_store_row 59 _ _ rfl g8 cs rfl (by rw [hcs]; rfl) _ zSt R8 (by rw [hcs]; kernel_rfl) (by rw [hcs]; rfl) (by rw [hcs]; simp [Value.oneCell']) ?_
    refine hK _ _ ?_
    clear hK K
    have k3 := keeps_setRow w2 g8 cs
    have hg3 := setRow_heap w2 g8 _ cs _ _ R8
    have P2 := own_keeps R2 k3 (fun b hb e => by simp [blk] at hb; omega)
    have P6 := own_keeps R6 k3 (fun b hb e => by simp [blk] at hb; omega)
    have B3 : Below w1.heap.size w1 (w2.setRow g8 cs) := Proofs.Ythlmfjoiicnomaa.Below.keeps B2 k3 B2.size (fun k e => by omega)
    obtain ⟨w3, hw3⟩ : ∃ w3, w3 = w2.setRow g8 cs := ⟨_, rfl⟩
    rw [← hw3] at hg3 P2 P6 B3 ⊢
    rw [hcs] at hg3
    have HO3 := hid (own_start (w := w3) (base := w1.heap.size) (m := m) (by unfold OwI; rw [show (ints0 m).length = m by simp]; exact P2) (by unfold OwI; rw [show (ints0 (m * 3)).length = m * 3 by simp]; exact P6) n26)
    have HG3 := hid hg3
    have HRES := hid (show w3.heap[w.heap.size]? = some (.cells zSt 59 (0, 0)) from by
      rw [B3.block _ (by rw [hw1]; simp), hw1]
      exact heap_alloc_new w _)
    have HB3 := hid (show Below w.heap.size w w3 from by
      have h1 : Below w.heap.size w w1 := by rw [hw1]; exact (Below.refl _ _).alloc (Nat.le_refl _) _
      exact h1.trans (B3.mono (by omega)))
    have hs3 := B3.size
    have hg83 : g8 < w3.heap.size := (Array.getElem?_eq_some_iff.1 hg3).1
    clear R2 R6 k3 hg3 P2 P6 B3 hcs cs hw3 R8 B2 Q2 Q6 Q8 H2 H6 e8
    (with_reducible refine wpMix_nil ?_)
    go_wp2_with fail
    go_loopw [4] (fun i wr => ∃ (k : Nat) (x2 : Option Addr) (d2 : Nat) (yy : Ly), k ≤ m ∧ i = .int .i64 k ∧ Hid (wr.heap[g8]? = some (.cells #[.slice (some ⟨g2, 0, none⟩) m c2, .slice (some ⟨g6, 0, none⟩) (m * 3) c6, .slice x2 k d2, zS] 59 (0, 0))) ∧ Hid (OwC wr w1.heap.size ⟨some ⟨g2, 0, none⟩, c2, some ⟨g6, 0, none⟩, c6, x2, d2, none, 0⟩ yy (c5 m k 0) 0) ∧ Hid (Keeps (· = g8) w3 wr) ∧ Hid (∀ x, blk x2 = some x → w3.heap.size ≤ x)) (fun i _ => m - (intOf i).toNat)
    case atStart => exact ⟨0, none, 0, _, by omega, rfl, HG3, HO3, hid (Keeps.refl _ _), hid (fun x hx => by cases hx)⟩
    case round =>
      obtain ⟨k, x2, d2, yy, hk, rfl, HG, HO, HK, HX2⟩ := hrel
      have hg8 : g8 < wr.heap.size := (Array.getElem?_eq_some_iff.1 HG.out).1
      have hks := HK.out.size
      by_cases hlt : k < m
      · have cg : wr.cell? ⟨g8, 2, none⟩ = some (.slice x2 k d2) := cell_of_row wr g8 2 _ _ _ HG.out
        have hx8 : ∀ x, blk x2 = some x → x ≠ g8 := fun x hx e => by have := HX2.out x hx; omega
        have HOC := hid (HO.out.below (below_drewN 1 (Below.refl _ _)))
        obtain ⟨C, hC⟩ : ∃ C : World → Prop, C = fun w' => w'.heap[g8]? = some (.cells #[.slice (some ⟨g2, 0, none⟩) m c2, .slice (some ⟨g6, 0, none⟩) (m * 3) c6, .slice x2 k d2, zS] 59 (0, 0)) := ⟨_, rfl⟩
        have HCC := hid (fun w' (h : C w') => show w'.heap[g8]? = some (.cells #[.slice (some ⟨g2, 0, none⟩) m c2, .slice (some ⟨g6, 0, none⟩) (m * 3) c6, .slice x2 k d2, zS] 59 (0, 0)) by rw [hC] at h; exact h)
        have HCI := hid (fun w' (h : w'.heap[g8]? = some (.cells #[.slice (some ⟨g2, 0, none⟩) m c2, .slice (some ⟨g6, 0, none⟩) (m * 3) c6, .slice x2 k d2, zS] 59 (0, 0))) => show C w' by rw [hC]; exact h)
        clear hC
        have hdd : wr.drew.heap.size = wr.heap.size := rfl
        have hdd1 : (wr.drewN 1).heap.size = wr.heap.size := rfl
        go_wp2_with fail
        refine FR.wp_region_free 5 (St5 wr.drew C (fun v w' => ∃ a6 c6' yy', v = .slice a6 (k + 1) c6' ∧ OwC w' w1.heap.size ⟨some ⟨g2, 0, none⟩, c2, some ⟨g6, 0, none⟩, c6, a6, c6', none, 0⟩ yy' (c5 m (k + 1) 0) 0 ∧ Keeps (fun b => blk x2 = some b) wr.drew w' ∧ ∀ x, blk a6 = some x → w3.heap.size ≤ x)) (by kernel_rfl) (by kernel_rfl) (by kernel_rfl) (fun _ => undef) ⟨HCI.out _ HG.out, fun e => (by cases e), fun e => (by cases e), fun _ => rfl, fun e => (by cases e), fun e => (by cases e), fun e => (by cases e)⟩ fun V2 => ?_
        (refine FR.frGo_pure _ rfl (fun K hK => ?_); go_simp; (first | refine hK _ ?_ | refine ⟨_, fun W hW => rfl, hK _ ?_⟩ | refine ⟨_, fun W hW => ⟨rfl, rfl⟩, hK _ ?_⟩); clear hK K)
        refine FR.frGo_held _ rfl (fun w' => w'.cell? ⟨g8, 2, none⟩ = some (.slice x2 k d2)) (fun S ρ w' h _ => cell_of_row w' g8 2 _ _ _ (HCC.out _ h.c)) (fun K hK => ?_)
        go_simp
        refine ⟨.slice x2 k d2, fun W hW => ?_, hK _ ?_⟩
        · go_simp
        clear hK K
        refine FR.frGo_act (k := 2) _ rfl (fun S ρ w' hI hS hp K hK => ?_) ?_
        · obtain rfl := hI.p0 hS
          have h3 : S 3 = false := by cases e : S 3 with | false => rfl | true => (have := hI.o3 e; rw [hS] at this; cases this)
          have h4 : S 4 = false := by cases e : S 4 with | false => rfl | true => (have := hI.o4 e; rw [h3] at this; cases this)
          refine oper_make 24 _ _ rfl wr.drew.heap.size 3 (.int .i64 0) 1 8 Try.underlying24 HI.out (by omega) _ _ 3 rfl rfl rfl rfl (by omega) (Nat.le_refl _) ?_
          intro w4 hown4 hb4 hlt4
          refine hK _ _ ⟨HCI.out _ ((hb4.block g8 hg8).trans HG.out), fun e => (by rw [FR.upd_ne _ _ (by decide), h3] at e; cases e), fun e => (by rw [FR.upd_ne _ _ (by decide), h4] at e; cases e), fun e => (by rw [FR.upd_same] at e; cases e), fun _ _ => ⟨by rw [FR.upd_same], hb4, own_ints0 hown4⟩, fun e => (by rw [FR.upd_ne _ _ (by decide), h3] at e; cases e), fun e => (by rw [FR.upd_ne _ _ (by decide), h4] at e; cases e)⟩
        refine FR.frGo_act (k := 3) _ rfl (fun S ρ w' hI hS hp K hK => ?_) ?_
        · have hp2 := hp 2 (by kernel_rfl)
          have h4 : S 4 = false := by cases e : S 4 with | false => rfl | true => (have := hI.o4 e; rw [hS] at this; cases this)
          obtain ⟨e2, hb2', ho2⟩ := hI.p2 hp2.1 h4
          have ev := hp2.2.symm.trans e2
          rw [ev] at hK ⊢
          go_simp
          have hbs := hb2'.size
          refine hK _ _ ⟨HCI.out _ ((heap_alloc_old _ _ (by omega)).trans (HCC.out _ hI.c)), fun _ => (by rw [FR.upd_ne _ _ (by decide)]; exact hp2.1), fun e => (by rw [FR.upd_ne _ _ (by decide), h4] at e; cases e), fun e => (by rw [FR.upd_ne _ _ (by decide), hp2.1] at e; cases e), fun _ _ => ⟨by rw [FR.upd_ne _ _ (by decide)]; exact e2, hb2'.alloc (by omega) _, own_below ho2 ((Below.refl _ _).alloc (Nat.le_refl _) _)⟩, fun _ _ => ⟨w'.heap.size, by rw [FR.upd_same], rd_one0 w' _ _⟩, fun e => (by rw [FR.upd_ne _ _ (by decide), h4] at e; cases e)⟩
        refine FR.frGo_act (k := 4) _ rfl (fun S ρ w' hI hS hp K hK => ?_) ?_
        · have hp3 := hp 3 (by kernel_rfl)
          have h2 := hI.o3 hp3.1
          obtain ⟨e2, hb2', ho2⟩ := hI.p2 h2 hS
          obtain ⟨hh, e3, hrd3⟩ := hI.p3 hp3.1 hS
          have ev := hp3.2.symm.trans e3
          have hbs := hb2'.size
          have hvo5 := own_below HOC.out.vo hb2'
          refine oper_append_rd (.tmp 21) (.tmp 23) 56 rfl w1.heap.size 24 (.slice none 0 0) 1 24 Try.underlying56 Try.info_introw rfl (by decide) (.slice x2 k d2) k _ rfl hvo5 (some ⟨hh, 0, none⟩) 1 1 [.slice (some ⟨wr.drew.heap.size, 0, none⟩) 3 3] ev hrd3 rfl (by simp [Value.oneCell']) (by omega) (by decide) (by omega) ?_
          intro a6 c6' w6 hown6 hgrow6 hat6
          rw [ownBlock_slice] at hgrow6 hat6
          have hkg : Keeps (fun b => blk x2 = some b) w' w6 := ⟨hgrow6.os, hgrow6.tape, hgrow6.output, hgrow6.size, fun x hx hne => hgrow6.block x hx (fun e => hne e.symm)⟩
          have hg6 : w6.heap[g8]? = some (.cells #[.slice (some ⟨g2, 0, none⟩) m c2, .slice (some ⟨g6, 0, none⟩) (m * 3) c6, .slice x2 k d2, zS] 59 (0, 0)) := (hkg.block g8 (by omega) (fun e => hx8 g8 e rfl)).trans (HCC.out _ hI.c)
          have hk6 : Keeps (fun b => blk x2 = some b) wr.drew w6 := (Keeps.of_below hb2').trans hkg
          have ha6 := HOC.out.addV (w' := w6) (r := (some ⟨wr.drew.heap.size, 0, none⟩, 3)) (xs := ints0 3) (a' := a6) (c' := c6') hk6 (own_base (own_keeps ho2 hkg (fun x hx e => by
            have h1 : wr.drew.heap.size = x := by simpa [blk] using hx
            have h2 := (own_blk HOC.out.vo x e).2
            omega)) (by omega)) (fun x hx => by
            have h1 : wr.drew.heap.size = x := by simpa [blk] using hx
            omega) hown6 (by simp)
          have hf6 : ∀ x, blk a6 = some x → w3.heap.size ≤ x := fun x hx => by
            rcases hat6 with e | e
            · rw [e] at hx; exact HX2.out x hx
            · rw [e] at hx; have := Option.some.inj hx; omega
          refine hK _ _ ⟨HCI.out _ hg6, fun _ => (by rw [FR.upd_ne _ _ (by decide)]; exact h2), fun _ => (by rw [FR.upd_ne _ _ (by decide)]; exact hp3.1), fun e => (by rw [FR.upd_ne _ _ (by decide), h2] at e; cases e), fun _ e => (by rw [FR.upd_same] at e; cases e), fun _ e => (by rw [FR.upd_same] at e; cases e), fun _ => (by rw [FR.upd_same]; exact ⟨a6, c6', _, rfl, ha6.congr (addV_c5 m k), hk6, hf6⟩)⟩
        refine FR.frGo_nil _ ?_
        intro S ρ w6 hI hS
        have z4 := hS 4 (by decide) (by kernel_rfl)
        obtain ⟨a6, c6', yy', e4, ho6, hk6, hf6⟩ := hI.p4 z4.1
        rw [z4.2] at e4
        rw [e4]
        have HG6 := hid (HCC.out _ hI.c)
        have HO6 := hid ho6
        have HK6 := hid hk6
        have HF6 := hid hf6
        have cg6 := cell_of_row w6 g8 2 _ _ _ HG6.out
        have fg6 := frozen_of_row w6 g8 2 _ _ HG6.out
        clear hI hS z4 e4 ho6 hk6 hf6
        simp only [List.drop_succ_cons, List.drop_zero]
        repeat (with_reducible refine wpMix_rd rfl rfl (fun K hK => ?_); go_simp; (try go_bits); refine hK _ ?_; clear hK K)
        (with_reducible refine wpMix_act (o := ⟨_, .store _ _ _, _, _, _, _⟩) rfl rfl (fun K hK => ?_))
        go_simp
        refine hK _ _ ?_
        clear hK K
        (with_reducible refine wpMix_nil ?_)
        have HG7 := hid (show (w6.setCell ⟨g8, 2, none⟩ (.slice a6 (k + 1) c6')).heap[g8]? = some (.cells #[.slice (some ⟨g2, 0, none⟩) m c2, .slice (some ⟨g6, 0, none⟩) (m * 3) c6, .slice a6 (k + 1) c6', zS] 59 (0, 0)) from by rw [heap_setCell_same w6 g8 2 _ _ _ HG6.out]; rfl)
        have HO7 := hid (HO6.out.oth HG6.out (by decide) (by decide) (by decide) (by decide) (Keeps.setCell w6 ⟨g8, 2, none⟩ (.slice a6 (k + 1) c6')))
        have HK7 := hid ((keeps_new (HK.out.trans (Keeps.of_below (below_drewN 1 (Below.refl _ _)))) HK6.out (fun x hx => .inr (HX2.out x hx))).trans (Keeps.setCell w6 ⟨g8, 2, none⟩ (.slice a6 (k + 1) c6')))
        clear cg6 fg6 HG6 HO6 HK6 HO HK HG HX2 HOC HCC HCI cg hx8
        go_wp2_with fail
        go_roundw
        case rel => exact ⟨k + 1, a6, c6', yy', by omega, by go_num, HG7, HO7, HK7, HF6⟩
        case measure => simp [intOf]; omega
      · have ek : k = m := by omega
        subst ek
        have d1 : ¬ ((k : Int) < (k : Int)) := by omega
        go_wp2_with fail
        go_loopw [5] (fun iv wx => ∃ (i : Nat) (x3 : Option Addr) (d3 : Nat) (y3 : Ly), i ≤ 3 ∧ iv = .int .i64 i ∧ Hid (wx.heap[g8]? = some (.cells #[.slice (some ⟨g2, 0, none⟩) k c2, .slice (some ⟨g6, 0, none⟩) (k * 3) c6, .slice x2 k d2, .slice x3 i d3] 59 (0, 0))) ∧ Hid (OwC wx w1.heap.size ⟨some ⟨g2, 0, none⟩, c2, some ⟨g6, 0, none⟩, c6, x2, d2, x3, d3⟩ y3 (c5 k k i) i) ∧ Hid (Keeps (· = g8) w3 wx) ∧ Hid (∀ x, blk x3 = some x → w3.heap.size ≤ x)) (fun iv _ => 3 - (intOf iv).toNat)
        case atStart => exact ⟨0, none, 0, yy, by omega, rfl, HG, HO, HK, hid (fun x hx => by cases hx)⟩
        case round =>
          clear HG HO HK
          obtain ⟨i, x3, d3, y3, hi, rfl, HG, HO, HK, HX3⟩ := hrel
          by_cases hlt3 : i < 3
          · have cg : wr.cell? ⟨g8, 3, none⟩ = some (.slice x3 i d3) := cell_of_row wr g8 3 _ _ _ HG.out
            have hg8 : g8 < wr.heap.size := (Array.getElem?_eq_some_iff.1 HG.out).1
            have hks := HK.out.size
            have hx8 : ∀ x, blk x3 = some x → x ≠ g8 := fun x hx e => by have := HX3.out x hx; omega
            have HOC := hid (HO.out.below (below_drewN 1 (Below.refl _ _)))
            obtain ⟨C, hC⟩ : ∃ C : World → Prop, C = fun w' => w'.heap[g8]? = some (.cells #[.slice (some ⟨g2, 0, none⟩) k c2, .slice (some ⟨g6, 0, none⟩) (k * 3) c6, .slice x2 k d2, .slice x3 i d3] 59 (0, 0)) := ⟨_, rfl⟩
            have HCC := hid (fun w' (h : C w') => show w'.heap[g8]? = some (.cells #[.slice (some ⟨g2, 0, none⟩) k c2, .slice (some ⟨g6, 0, none⟩) (k * 3) c6, .slice x2 k d2, .slice x3 i d3] 59 (0, 0)) by rw [hC] at h; exact h)
            have HCI := hid (fun w' (h : w'.heap[g8]? = some (.cells #[.slice (some ⟨g2, 0, none⟩) k c2, .slice (some ⟨g6, 0, none⟩) (k * 3) c6, .slice x2 k d2, .slice x3 i d3] 59 (0, 0))) => show C w' by rw [hC]; exact h)
            clear hC
            have hdd : wr.drew.heap.size = wr.heap.size := rfl
            have hdd1 : (wr.drewN 1).heap.size = wr.heap.size := rfl
            have hii : (i : Int) ≤ 2 := by omega
            go_wp2_with fail
            refine FR.wp_region_free 7 (St9 wr.drew C (fun v w' => ∃ a6 c6' yy', v = .slice a6 (i + 1) c6' ∧ OwC w' w1.heap.size ⟨some ⟨g2, 0, none⟩, c2, some ⟨g6, 0, none⟩, c6, x2, d2, a6, c6'⟩ yy' (c5 k k (i + 1)) (i + 1) ∧ Keeps (fun b => blk x3 = some b) wr.drew w' ∧ ∀ x, blk a6 = some x → w3.heap.size ≤ x)) (by kernel_rfl) (by kernel_rfl) (by kernel_rfl) (fun _ => undef) ⟨HCI.out _ HG.out, fun e => (by cases e), fun e => (by cases e), fun e => (by cases e), fun _ => rfl, fun e => (by cases e), fun e => (by cases e), fun e => (by cases e), fun e => (by cases e), fun e => (by cases e)⟩ fun V2 => ?_
            (refine FR.frGo_pure _ rfl (fun K hK => ?_); go_simp; (first | refine hK _ ?_ | refine ⟨_, fun W hW => rfl, hK _ ?_⟩ | refine ⟨_, fun W hW => ⟨rfl, rfl⟩, hK _ ?_⟩); clear hK K)
            refine FR.frGo_held _ rfl (fun w' => w'.cell? ⟨g8, 3, none⟩ = some (.slice x3 i d3)) (fun S ρ w' h _ => cell_of_row w' g8 3 _ _ _ (HCC.out _ h.c)) (fun K hK => ?_)
            go_simp
            refine ⟨.slice x3 i d3, fun W hW => ?_, hK _ ?_⟩
            · go_simp
            clear hK K
            refine FR.frGo_act (k := 2) _ rfl (fun S ρ w' hI hS hp K hK => ?_) ?_
            · obtain rfl := hI.p0 hS
              have h4 : S 4 = false := by cases e : S 4 with | false => rfl | true => (have := hI.o4 e; rw [hS] at this; cases this)
              have h5 : S 5 = false := by cases e : S 5 with | false => rfl | true => (have := hI.o5 e; rw [h4] at this; cases this)
              have h6 : S 6 = false := by cases e : S 6 with | false => rfl | true => (have := hI.o6 e; rw [h5] at this; cases this)
              refine oper_make 24 _ _ rfl wr.drew.heap.size 3 (.int .i64 0) 1 8 Try.underlying24 HI.out (by omega) _ _ 3 rfl rfl rfl rfl (by omega) (Nat.le_refl _) ?_
              intro w4 hown4 hb4 hlt4
              refine hK _ _ ⟨HCI.out _ ((hb4.block g8 hg8).trans HG.out), fun e => (by rw [FR.upd_ne _ _ (by decide), h4] at e; cases e), fun e => (by rw [FR.upd_ne _ _ (by decide), h5] at e; cases e), fun e => (by rw [FR.upd_ne _ _ (by decide), h6] at e; cases e), fun e => (by rw [FR.upd_same] at e; cases e), fun _ => (by rw [FR.upd_same]), fun _ _ => ⟨hb4, own_ints0 hown4⟩, fun e => (by rw [FR.upd_ne _ _ (by decide), h4] at e; cases e), fun e => (by rw [FR.upd_ne _ _ (by decide), h5] at e; cases e), fun e => (by rw [FR.upd_ne _ _ (by decide), h6] at e; cases e)⟩
            by_cases hV2 : V2 2 = .slice (some ⟨wr.drew.heap.size, 0, none⟩) 3 3
            · rw [hV2]
              (refine FR.frGo_pure _ rfl (fun K hK => ?_); go_simp; (first | refine hK _ ?_ | refine ⟨_, fun W hW => rfl, hK _ ?_⟩ | refine ⟨_, fun W hW => ⟨rfl, rfl⟩, hK _ ?_⟩); clear hK K)
              refine FR.frGo_act (k := 4) _ rfl (fun S ρ w' hI hS hp K hK => ?_) ?_
              · have hp2 := hp 2 (by kernel_rfl)
                have h5 : S 5 = false := by cases e : S 5 with | false => rfl | true => (have := hI.o5 e; rw [hS] at this; cases this)
                have h6 : S 6 = false := by cases e : S 6 with | false => rfl | true => (have := hI.o6 e; rw [h5] at this; cases this)
                obtain ⟨hb2', ho2⟩ := hI.p2 hp2.1 h6
                have hlt2 : wr.drew.heap.size < w'.heap.size := (own_blk ho2 _ rfl).2
                go_simp
                refine hK _ _ ⟨HCI.out _ ((heap_alloc_old _ _ (by omega)).trans (HCC.out _ hI.c)), fun _ => (by rw [FR.upd_ne _ _ (by decide)]; exact hp2.1), fun e => (by rw [FR.upd_ne _ _ (by decide), h5] at e; cases e), fun e => (by rw [FR.upd_ne _ _ (by decide), h6] at e; cases e), fun e => (by rw [FR.upd_ne _ _ (by decide), hp2.1] at e; cases e), fun _ => (by rw [FR.upd_ne _ _ (by decide)]; exact hI.e2 hp2.1), fun _ _ => ⟨hb2'.alloc (by omega) _, own_below ho2 ((Below.refl _ _).alloc (Nat.le_refl _) _)⟩, fun _ _ => ⟨w'.heap.size, hlt2, by rw [FR.upd_same], own_msg1 w' _ _ _ _ _ (by omega)⟩, fun e => (by rw [FR.upd_ne _ _ (by decide), h5] at e; cases e), fun e => (by rw [FR.upd_ne _ _ (by decide), h6] at e; cases e)⟩
              refine FR.frGo_act (k := 5) _ rfl (fun S ρ w' hI hS hp K hK => ?_) ?_
              · have hp4 := hp 4 (by kernel_rfl)
                have h2 := hI.o4 hp4.1
                have h6 : S 6 = false := by cases e : S 6 with | false => rfl | true => (have := hI.o6 e; rw [hS] at this; cases this)
                obtain ⟨hb2', ho2⟩ := hI.p2 h2 h6
                obtain ⟨hh, hlth, e4, ho4⟩ := hI.p4 hp4.1 h6
                have hlt2 : wr.drew.heap.size < w'.heap.size := (own_blk ho2 _ rfl).2
                have ev := hp4.2.symm.trans e4
                rw [ev] at hK ⊢
                go_simp
                refine hK _ _ ⟨HCI.out _ ((heap_alloc_old _ _ (by omega)).trans (HCC.out _ hI.c)), fun _ => (by rw [FR.upd_ne _ _ (by decide)]; exact h2), fun _ => (by rw [FR.upd_ne _ _ (by decide)]; exact hp4.1), fun e => (by rw [FR.upd_ne _ _ (by decide), h6] at e; cases e), fun e => (by rw [FR.upd_ne _ _ (by decide), h2] at e; cases e), fun _ => (by rw [FR.upd_ne _ _ (by decide)]; exact hI.e2 h2), fun _ _ => ⟨hb2'.alloc (by omega) _, own_below ho2 ((Below.refl _ _).alloc (Nat.le_refl _) _)⟩, fun _ _ => ⟨hh, hlth, by rw [FR.upd_ne _ _ (by decide)]; exact e4, own_below ho4 ((Below.refl _ _).alloc (Nat.le_refl _) _)⟩, fun _ _ => ⟨hh, w'.heap.size, by rw [FR.upd_ne _ _ (by decide)]; exact e4, by rw [FR.upd_same], rd_one0 w' _ _⟩, fun e => (by rw [FR.upd_ne _ _ (by decide), h6] at e; cases e)⟩
              refine FR.frGo_act (k := 6) _ rfl (fun S ρ w' hI hS hp K hK => ?_) ?_
              · have hp5 := hp 5 (by kernel_rfl)
                have h4 := hI.o5 hp5.1
                have h2 := hI.o4 h4
                obtain ⟨hb2', ho2⟩ := hI.p2 h2 hS
                obtain ⟨hh, hlth, e4, ho4⟩ := hI.p4 h4 hS
                obtain ⟨hh', j, e4', e5, hrd5⟩ := hI.p5 hp5.1 hS
                obtain rfl : hh = hh' := by have := e4.symm.trans e4'; injection this with h1; injection h1 with h1; injection h1
                have ev := hp5.2.symm.trans e5
                have hbs := hb2'.size
                have hlo5 := own_below HOC.out.lo hb2'
                refine oper_append_rd (.tmp 31) (.tmp 35) 57 rfl w1.heap.size 118 (.slice none 0 0) 1 24 Try.underlying57 Try.info_mrow rfl (by decide) (.slice x3 i d3) i _ rfl hlo5 (some ⟨j, 0, none⟩) 1 1 [.slice (some ⟨hh, 0, none⟩) 1 1] ev hrd5 rfl (by simp [Value.oneCell']) (by omega) (by decide) (by omega) ?_
                intro a6 c6' w6 hown6 hgrow6 hat6
                rw [ownBlock_slice] at hgrow6 hat6
                have hkg : Keeps (fun b => blk x3 = some b) w' w6 := ⟨hgrow6.os, hgrow6.tape, hgrow6.output, hgrow6.size, fun x hx hne => hgrow6.block x hx (fun e => hne e.symm)⟩
                have hg6 := (hkg.block g8 (by omega) (fun e => hx8 g8 e rfl)).trans (HCC.out _ hI.c)
                have hk6 : Keeps (fun b => blk x3 = some b) wr.drew w6 := (Keeps.of_below hb2').trans hkg
                have hx3 : ∀ x, blk x3 = some x → x < wr.drew.heap.size := fun x e => (own_blk HOC.out.lo x e).2
                have ha6 := own_addW (w' := w6) (r := (some ⟨wr.drew.heap.size, 0, none⟩, 3)) (a1 := some ⟨hh, 0, none⟩) (c1 := 1) (a' := a6) (c' := c6') HOC.out hk6 (own_base (own_keeps ho2 hkg (fun x hx e => by
                  have h1 : wr.drew.heap.size = x := by simpa [blk] using hx
                  have h2 := hx3 x e
                  omega)) (by omega)) (fun x hx => by
                  have h1 : wr.drew.heap.size = x := by simpa [blk] using hx
                  omega) (own_base (own_keeps ho4 hkg (fun x hx e => by
                  have h1 : hh = x := by simpa [blk] using hx
                  have h2 := hx3 x e
                  omega)) (by omega)) (fun x hx => by
                  have h1 : hh = x := by simpa [blk] using hx
                  omega) hown6
                have hf6 : ∀ x, blk a6 = some x → w3.heap.size ≤ x := fun x hx => by
                  rcases hat6 with e | e
                  · rw [e] at hx; exact HX3.out x hx
                  · rw [e] at hx; have := Option.some.inj hx; omega
                refine hK _ _ ⟨HCI.out _ hg6, fun _ => (by rw [FR.upd_ne _ _ (by decide)]; exact h2), fun _ => (by rw [FR.upd_ne _ _ (by decide)]; exact h4), fun _ => (by rw [FR.upd_ne _ _ (by decide)]; exact hp5.1), fun e => (by rw [FR.upd_ne _ _ (by decide), h2] at e; cases e), fun _ => (by rw [FR.upd_ne _ _ (by decide)]; exact hI.e2 h2), fun _ e => (by rw [FR.upd_same] at e; cases e), fun _ e => (by rw [FR.upd_same] at e; cases e), fun _ e => (by rw [FR.upd_same] at e; cases e), fun _ => (by rw [FR.upd_same]; exact ⟨a6, c6', _, rfl, ha6, hk6, hf6⟩)⟩
              refine FR.frGo_nil _ ?_
              intro S ρ w6 hI hS
              have z6 := hS 6 (by decide) (by kernel_rfl)
              obtain ⟨a6, c6', yy', e6, ho6, hk6, hf6⟩ := hI.p6 z6.1
              rw [z6.2] at e6
              rw [e6]
              have HG6 := hid (HCC.out _ hI.c)
              have HO6 := hid ho6
              have HK6 := hid hk6
              have HF6 := hid hf6
              have cg6 := cell_of_row w6 g8 3 _ _ _ HG6.out
              have fg6 := frozen_of_row w6 g8 3 _ _ HG6.out
              clear hI hS z6 e6 ho6 hk6 hf6
              simp only [List.drop_succ_cons, List.drop_zero]
              repeat (with_reducible refine wpMix_rd rfl rfl (fun K hK => ?_); go_simp; (try go_bits); refine hK _ ?_; clear hK K)
              (with_reducible refine wpMix_act (o := ⟨_, .store _ _ _, _, _, _, _⟩) rfl rfl (fun K hK => ?_))
              go_simp
              refine hK _ _ ?_
              clear hK K
              (with_reducible refine wpMix_nil ?_)
              have HG7 := hid (show (w6.setCell ⟨g8, 3, none⟩ (.slice a6 (i + 1) c6')).heap[g8]? = some (.cells #[.slice (some ⟨g2, 0, none⟩) k c2, .slice (some ⟨g6, 0, none⟩) (k * 3) c6, .slice x2 k d2, .slice a6 (i + 1) c6'] 59 (0, 0)) from by rw [heap_setCell_same w6 g8 3 _ _ _ HG6.out]; rfl)
              have HO7 := hid (HO6.out.oth HG6.out (by decide) (by decide) (by decide) (by decide) (Keeps.setCell w6 ⟨g8, 3, none⟩ (.slice a6 (i + 1) c6')))
              have HK7 := hid ((keeps_new (HK.out.trans (Keeps.of_below (below_drewN 1 (Below.refl _ _)))) HK6.out (fun x hx => .inr (HX3.out x hx))).trans (Keeps.setCell w6 ⟨g8, 3, none⟩ (.slice a6 (i + 1) c6')))
              clear cg6 fg6 HG6 HO6 HK6 HO HK HG HX3 HOC HCC HCI cg hx8
              go_wp2_with fail
              go_roundw
              case rel => exact ⟨i + 1, a6, c6', yy', by omega, by go_num, HG7, HO7, HK7, HF6⟩
              case measure => simp [intOf]; omega
            · have bad : ∀ S ρ w', St9 wr.drew C (fun v w' => ∃ a6 c6' yy', v = .slice a6 (i + 1) c6' ∧ OwC w' w1.heap.size ⟨some ⟨g2, 0, none⟩, c2, some ⟨g6, 0, none⟩, c6, x2, d2, a6, c6'⟩ yy' (c5 k k (i + 1)) (i + 1) ∧ Keeps (fun b => blk x3 = some b) wr.drew w' ∧ ∀ x, blk a6 = some x → w3.heap.size ≤ x) S ρ w' → (S 2 = true ∧ ρ 2 = V2 2) → False := fun S ρ w' h e2 => hV2 (e2.2.symm.trans (h.e2 e2.1))
              refine frGo_bad rfl (fun S ρ w h hp => bad S ρ w h (hp 2 (by kernel_rfl))) ?_
              refine frGo_badAct rfl (fun S ρ w h hp => bad S ρ w h (hp 2 (by kernel_rfl))) ?_
              refine frGo_badAct rfl (fun S ρ w h hp => bad S ρ w h (hp 2 (by kernel_rfl))) ?_
              refine frGo_badAct rfl (fun S ρ w h hp => bad S ρ w h (hp 2 (by kernel_rfl))) ?_
              exact FR.frGo_nil _ fun S ρ w2 hI hS => (bad S ρ w2 hI (hS 2 (by decide) (by kernel_rfl))).elim
          · have ei : i = 3 := by omega
            subst ei
            have hks := HK.out.size
            have HRE := hid ((HK.out.block w.heap.size (by have := HB3.out.size; omega) (by omega)).trans HRES.out)
            have HONE := hid (show (#[.slice (some ⟨g2, 0, none⟩) k c2, .slice (some ⟨g6, 0, none⟩) (k * 3) c6, .slice x2 k d2, .slice x3 3 d3] : Array Value).all (·.oneCell') = true from by simp [Value.oneCell'])
            have HFR := hid ((HO.out.fr rfl).congr (by rw [HM.out]; exact start5_ct p))
            have HBE := hid (Proofs.Ythlmfjoiicnomaa.Below.keeps HB3.out HK.out HB3.out.size (fun x e => by omega))
            have hn3 : ¬ ((3 : Int) ≤ 2) := by omega
            go_wp2_with (first | (refine wpList_load_row rfl 59 (.tmp 3) rfl g8 rfl 59 _ (0, 0) _ HG.out Try.underlying59 rfl (by kernel_rfl) ?_) | (refine wpList_store_row rfl 59 (.tmp 2) (.tmp 38) rfl w.heap.size #[.slice (some ⟨g2, 0, none⟩) k c2, .slice (some ⟨g6, 0, none⟩) (k * 3) c6, .slice x2 k d2, .slice x3 3 d3] rfl rfl 59 zSt HRE.out (by kernel_rfl) rfl HONE.out ?_))
            refine bodyPost_ret (results_cell_row rfl _ _ w.heap.size 59 _ (0, 0) _ rfl (setRow_heap _ _ _ _ _ _ HRE.out) Try.underlying59 rfl (by kernel_rfl)) rfl ⟨⟨some ⟨g2, 0, none⟩, c2, some ⟨g6, 0, none⟩, c6, x2, d2, x3, d3⟩, ?_, ?_, ?_⟩
            · unfold Sp.v5 Sp.hd5 start5 start3
              simp [HM.out]
            · exact (HFR.out.keeps (keeps_setRow _ w.heap.size _) (fun x hx e => by omega)).down (by omega)
            · exact Proofs.Ythlmfjoiicnomaa.Below.keeps HBE.out (keeps_setRow _ w.heap.size _) HBE.out.size (fun x e => by omega)
  · have bad : ∀ S ρ w', Parts w1 id (strV w1.heap.size m) S ρ w' → (S 2 = true ∧ ρ 2 = V 2) → (S 6 = true ∧ ρ 6 = V 6) → False := fun S ρ w' h e2 e6 => by
      obtain ⟨g2, c2, r2, _⟩ := Q2.out S ρ w' h e2
      obtain ⟨g6, c6, r6, _⟩ := Q6.out S ρ w' h e6
      exact hV ⟨g2, c2, g6, c6, r2, r6⟩
    refine frGo_bad rfl (fun S ρ w h hp => bad S ρ w h (hp 2 (by kernel_rfl)) (hp 6 (by kernel_rfl))) ?_
    refine FR.frGo_act (k := 8) _ rfl (fun S ρ w' hI hS hp K hK => ?_) ?_
    · go_simp
      exact hK _ _ (hI.new (strV_stays _ _) _ ⟨_, rfl, heap_alloc_new _ _⟩ rfl)
    exact FR.frGo_nil _ fun S ρ w2 hI hS => (bad S ρ w2 hI (hS 2 (by decide) (by kernel_rfl)) (hS 6 (by decide) (by kernel_rfl))).elim
end Go.Proofs.Ythlmfjoiicnomaa
