/-
  PROVED HERE: a state with views in the middle of a step: what stores make of it. CONDITIONS: as each theorem states.
-/
import Derived.Test.YthlmfjoiicnomaaWd
namespace Go.Proofs.Ythlmfjoiicnomaa
open Go.RowKit
set_option linter.unusedVariables false
set_option linter.unusedSimpArgs false

theorem keeps_newW {S S' : Nat → Prop} {a b c : World} (h : Keeps S a b) (h' : Keeps S' b c) (hs : ∀ k, S' k → S k ∨ a.heap.size ≤ k) : Keeps S a c :=
  ⟨h'.os.trans h.os, h'.tape.trans h.tape, h'.output.trans h.output, Nat.le_trans h.size h'.size, fun k hk hn => (h'.block k (Nat.lt_of_lt_of_le hk h.size) fun e => by rcases hs k e with e | e; exact hn e; omega).trans (h.block k hk hn)⟩
/-- The copy at block B, whose rows are the call's own. -/
structure MidW (S : Nat → Prop) (w0 w : World) (base B : Nat) (hd : List Value) (L : Nat → Option Addr × Nat) (R : Nat → List Ms) (U : List (List Int)) : Prop where
  cur : w.heap[B]? = some (.cells (vwC hd L (fun l => (R l).length) U).toArray 112 (0, 0))
  hl : hd.length = 16
  u3 : U3 U
  bB : base ≤ B
  row : ∀ l, l < 3 → w.ownsRow base 114 5 (.slice (L l).1 (R l).length (L l).2) (R l).length (wcells (R l))
  v3 : ∀ l, l < 3 → V3 (R l)
  dis : ∀ l l' b, l < 3 → l' < 3 → blk (L l).1 = some b → blk (L l').1 = some b → l = l'
  kp : Keeps S w0 w
  sB : S B ∨ w0.heap.size ≤ B
  sR : ∀ l b, l < 3 → blk (L l).1 = some b → S b ∨ w0.heap.size ≤ b
  sz : base ≤ w.heap.size
def updR (R : Nat → List Ms) (l : Nat) (r : List Ms) : Nat → List Ms := fun l' => if l' = l then r else R l'
theorem updR_same (R : Nat → List Ms) (l : Nat) (r : List Ms) : updR R l r l = r := by unfold updR; rw [if_pos rfl]
theorem updR_ne (R : Nat → List Ms) {l l' : Nat} (r : List Ms) (h : l' ≠ l) : updR R l r l' = R l' := by unfold updR; rw [if_neg h]
theorem updR_len (R : Nat → List Ms) {l : Nat} {r : List Ms} (h : r.length = (R l).length) : (fun l' => (updR R l r l').length) = fun l' => (R l').length := by
  funext l'
  unfold updR
  split
  · rename_i e; rw [e, h]
  · rfl
section
variable {S : Nat → Prop} {w0 w w' : World} {base B : Nat} {hd : List Value} {L : Nat → Option Addr × Nat} {R : Nat → List Ms} {U : List (List Int)}
theorem MidW.lt (h : MidW S w0 w base B hd L R U) : B < w.heap.size := (Array.getElem?_eq_some_iff.1 h.cur).1
theorem MidW.neB (h : MidW S w0 w base B hd L R U) {l b : Nat} (hl : l < 3) (hb : blk (L l).1 = some b) : b ≠ B := by
  rintro rfl
  rcases (h.row l hl).2 with ⟨hv, _⟩ | ⟨g, c, cur, hv, _, hg, _⟩
  · simp only [Value.slice.injEq] at hv
    rw [hv.1] at hb
    cases hb
  · simp only [Value.slice.injEq] at hv
    rw [hv.1] at hb
    have : g = b := by simpa [blk] using hb
    subst this
    rw [h.cur] at hg
    simp only [Option.some.injEq, Obj.cells.injEq] at hg
    exact absurd hg.2.1 (by decide)
theorem MidW.later (h : MidW S w0 w base B hd L R U) (hb : Below w.heap.size w w') : MidW S w0 w' base B hd L R U :=
  ⟨by rw [hb.block B h.lt]; exact h.cur, h.hl, h.u3, h.bB, fun l hl => own_below (h.row l hl) hb, h.v3, h.dis, keeps_newW h.kp (Keeps.of_below (S := fun _ => False) hb) (fun _ e => e.elim), h.sB, h.sR, Nat.le_trans h.sz hb.size⟩
theorem MidW.drew (h : MidW S w0 w base B hd L R U) : MidW S w0 w.drew base B hd L R U := h.later (below_drewN 1 (Below.refl _ _))
theorem MidW.cellB (h : MidW S w0 w base B hd L R U) {j : Nat} {v : Value} (hj : (vwC hd L (fun l => (R l).length) U)[j]? = some v) : w.cell? ⟨B, j, none⟩ = some v := cell_L h.cur hj
theorem MidW.freeB (h : MidW S w0 w base B hd L R U) (j : Nat) : w.frozen? ⟨B, j, none⟩ = false := frozen_of_row w B j _ _ h.cur
theorem MidW.cl (h : MidW S w0 w base B hd L R U) {l : Nat} (hl : l < 3) : w.cell? ⟨B, 16 + l, none⟩ = some (.slice (L l).1 (R l).length (L l).2) := h.cellB (vwC_l h.hl hl)
/-- Where a row lies. -/
theorem MidW.at_ (h : MidW S w0 w base B hd L R U) {l : Nat} (hl : l < 3) (hp : 0 < (R l).length) : ∃ g, (L l).1 = some ⟨g, 0, none⟩ ∧ g ≠ B ∧ base ≤ g ∧ g < w.heap.size ∧ (∀ j v, (wcells (R l))[j]? = some v → w.cell? ⟨g, j, none⟩ = some v) ∧ ∀ j, w.frozen? ⟨g, j, none⟩ = false := by
  rcases (h.row l hl).2 with ⟨hv, h0⟩ | ⟨g, c, cur, hv, hbg, hg, hnc, hcm, hs, ht⟩
  · omega
  · simp only [Value.slice.injEq] at hv
    refine ⟨g, hv.1, h.neB hl (by rw [hv.1]; rfl), hbg, (Array.getElem?_eq_some_iff.1 hg).1, fun j v hj => ?_, fun j => frozen_of_row w g j _ _ hg⟩
    have hg' : w.heap[g]? = some (.cells cur.toList.toArray 114 (0, 0)) := by simpa using hg
    refine cell_L hg' ?_
    rw [← ht, List.getElem?_take] at hj
    split at hj
    · exact hj
    · cases hj
/-- A cell of the block itself turns. -/
theorem MidW.setB (h : MidW S w0 w base B hd L R U) {j : Nat} {v : Value} {hd' : List Value} {U' : List (List Int)} (hh : hd'.length = 16) (hu : U3 U') (he : (vwC hd L (fun l => (R l).length) U).set j v = vwC hd' L (fun l => (R l).length) U') : MidW S w0 (w.setCell ⟨B, j, none⟩ v) base B hd' L R U' := by
  have k := Keeps.setCell w ⟨B, j, none⟩ v
  exact ⟨by rw [heap_setL h.cur, he], hh, hu, h.bB, fun l hl => own_keeps (h.row l hl) k fun b hb e => h.neB hl hb e, h.v3, h.dis, keeps_newW h.kp k (fun x (e : x = B) => by rw [e]; exact h.sB), h.sB, h.sR, Nat.le_trans h.sz k.size⟩
theorem MidW.sethd (h : MidW S w0 w base B hd L R U) {j : Nat} (hj : j < 16) (v : Value) : MidW S w0 (w.setCell ⟨B, j, none⟩ v) base B (hd.set j v) L R U := h.setB (by rw [List.length_set]; exact h.hl) h.u3 (vwC_sethd h.hl hj v)
theorem MidW.seto (h : MidW S w0 w base B hd L R U) {o : Nat} {v : List Int} (e : U[o]? = some v) {j : Nat} (hj : j < 3) (x : Int) : MidW S w0 (w.setCell ⟨B, 19 + (o * 3 + j), none⟩ (.int .u8 x)) base B hd L R (U.set o (v.set j x)) :=
  h.setB h.hl (h.u3.set (by rw [List.length_set]; exact h.u3.2 v (List.mem_of_getElem? e))) (vwC_seto h.hl h.u3 e hj x)
theorem MidW.seto3 (h : MidW S w0 w base B hd L R U) {o : Nat} (ho : o < 3) (a b c : Int) : MidW S w0 (((w.setCell ⟨B, 19 + o * 3, none⟩ (.int .u8 a)).setCell ⟨B, 19 + o * 3 + 1, none⟩ (.int .u8 b)).setCell ⟨B, 19 + o * 3 + 2, none⟩ (.int .u8 c)) base B hd L R (U.set o [a, b, c]) := by
  have hlt : o < U.length := by rw [h.u3.1]; exact ho
  obtain ⟨v, hv⟩ : ∃ v, U[o]? = some v := ⟨_, List.getElem?_eq_getElem hlt⟩
  obtain ⟨x, y, z, rfl⟩ := len3 (h.u3.2 v (List.mem_of_getElem? hv))
  have h1 := h.seto hv (j := 0) (by decide) a
  have h2 := h1.seto (List.getElem?_set_self hlt) (j := 1) (by decide) b
  have h3 := h2.seto (List.getElem?_set_self (by rw [List.length_set]; exact hlt)) (j := 2) (by decide) c
  rw [List.set_set, List.set_set] at h3
  exact h3
/-- A cell of a row turns. -/
theorem MidW.setR (h : MidW S w0 w base B hd L R U) {l g : Nat} (hl : l < 3) (hg : (L l).1 = some ⟨g, 0, none⟩) {j : Nat} {v : Value} {r : List Ms} (hr : r.length = (R l).length) (h3 : V3 r) (he : (wcells (R l)).set j v = wcells r) : MidW S w0 (w.setCell ⟨g, j, none⟩ v) base B hd L (updR R l r) U := by
  have k := Keeps.setCell w ⟨g, j, none⟩ v
  have hgb : blk (L l).1 = some g := by rw [hg]; rfl
  have hne := h.neB hl hgb
  have hgo := h.row l hl
  refine ⟨?_, h.hl, h.u3, h.bB, fun l' hl' => ?_, fun l' hl' => ?_, h.dis, keeps_newW h.kp k (fun x (e : x = g) => by rw [e]; exact h.sR l g hl hgb), h.sB, h.sR, Nat.le_trans h.sz k.size⟩
  · rw [updR_len R hr, k.block B h.lt (fun e => hne (Eq.symm e))]
    exact h.cur
  · by_cases e : l' = l
    · subst e
      rw [updR_same, hr]
      rw [hg] at hgo ⊢
      have := (hgo.stored j v).1
      rw [he] at this
      exact this
    · rw [updR_ne R r e]
      exact own_keeps (h.row l' hl') k fun b hb eb => e (h.dis l' l b hl' hl hb (by rw [hgb]; exact congrArg some (Eq.symm eb)))
  · by_cases e : l' = l
    · subst e; rw [updR_same]; exact h3
    · rw [updR_ne R r e]; exact h.v3 l' hl'
theorem updR_updR (R : Nat → List Ms) (l : Nat) (r r' : List Ms) : updR (updR R l r) l r' = updR R l r' := by
  funext l'
  unfold updR
  split <;> rfl
theorem MidW.setv (h : MidW S w0 w base B hd L R U) {l g i : Nat} {m : Ms} (hl : l < 3) (hg : (L l).1 = some ⟨g, 0, none⟩) (hi : (R l)[i]? = some m) (a b c : Int) :
    MidW S w0 (((w.setCell ⟨g, i * 5 + 2, none⟩ (.int .u8 a)).setCell ⟨g, i * 5 + 3, none⟩ (.int .u8 b)).setCell ⟨g, i * 5 + 4, none⟩ (.int .u8 c)) base B hd L (updR R l ((R l).set i { m with view := [a, b, c] })) U := by
  have hv := h.v3 l hl
  have hilt := (List.getElem?_eq_some_iff.1 hi).1
  obtain ⟨x, y, z, hmv⟩ := len3 (hv m (List.mem_of_getElem? hi))
  obtain ⟨val, lock, view⟩ := m
  have hmv : view = [x, y, z] := hmv
  subst hmv
  have h1 := h.setR hl hg (j := i * 5 + 2) (v := .int .u8 a) (r := (R l).set i ⟨val, lock, [a, y, z]⟩) (by rw [List.length_set]) (hv.set rfl) (wcells_set hv hi (by decide) rfl)
  have h2 := h1.setR hl hg (j := i * 5 + 3) (v := .int .u8 b) (r := (R l).set i ⟨val, lock, [a, b, z]⟩) (by rw [updR_same, List.length_set, List.length_set]) (hv.set rfl) (by
    rw [updR_same, wcells_set (m := ⟨val, lock, [a, y, z]⟩) (m' := ⟨val, lock, [a, b, z]⟩) (hv.set rfl) (List.getElem?_set_self hilt) (by decide) rfl, List.set_set])
  rw [updR_updR] at h2
  have h3 := h2.setR hl hg (j := i * 5 + 4) (v := .int .u8 c) (r := (R l).set i ⟨val, lock, [a, b, c]⟩) (by rw [updR_same, List.length_set, List.length_set]) (hv.set rfl) (by
    rw [updR_same, wcells_set (m := ⟨val, lock, [a, b, z]⟩) (m' := ⟨val, lock, [a, b, c]⟩) (hv.set rfl) (List.getElem?_set_self hilt) (by decide) rfl, List.set_set])
  rw [updR_updR] at h3
  exact h3
theorem MidW.setlock (h : MidW S w0 w base B hd L R U) {l g i : Nat} {m : Ms} (hl : l < 3) (hg : (L l).1 = some ⟨g, 0, none⟩) (hi : (R l)[i]? = some m) : MidW S w0 (w.setCell ⟨g, i * 5 + 1, none⟩ (.bool true)) base B hd L (updR R l ((R l).set i { m with lock := true })) U :=
  h.setR hl hg (by rw [List.length_set]) ((h.v3 l hl).set ((h.v3 l hl) m (List.mem_of_getElem? hi))) (wcells_set (h.v3 l hl) hi (by decide) rfl)
/-- Another row takes the place of one. -/
theorem MidW.setl (h : MidW S w0 w base B hd L R U) {l : Nat} (hl : l < 3) (hk : Keeps (fun b => blk (L l).1 = some b) w w') {a : Option Addr} {c : Nat} {r : List Ms} (ho : w'.ownsRow base 114 5 (.slice a r.length c) r.length (wcells r)) (h3 : V3 r) (hn : ∀ b, blk a = some b → blk (L l).1 = some b ∨ w.heap.size ≤ b) :
    MidW S w0 (w'.setCell ⟨B, 16 + l, none⟩ (.slice a r.length c)) base B hd (setL5 L l (a, c)) (updR R l r) U := by
  have hcur : w'.heap[B]? = some (.cells (vwC hd L (fun l => (R l).length) U).toArray 112 (0, 0)) := by
    rw [hk.block B h.lt (fun e => h.neB hl e rfl)]
    exact h.cur
  have k := Keeps.setCell w' ⟨B, 16 + l, none⟩ (.slice a r.length c)
  have hnB : ∀ b, blk a = some b → b ≠ B := fun b hb e => by
    rcases hn b hb with h1 | h1
    · exact h.neB hl h1 e
    · have := h.lt; omega
  refine ⟨?_, h.hl, h.u3, h.bB, fun l' hl' => ?_, fun l' hl' => ?_, fun l1 l2 b h1 h2 e1 e2 => ?_, ?_, h.sB, fun l' b hl' hb => ?_, Nat.le_trans h.sz (Nat.le_trans hk.size k.size)⟩
  · rw [heap_setL hcur, vwC_setl h.hl hl]
    congr 4
    funext l'
    unfold setN5 updR
    split <;> rfl
  · by_cases e : l' = l
    · subst e
      rw [updR_same]
      unfold setL5
      rw [if_pos rfl]
      exact own_keeps ho k fun b hb e => hnB b hb e
    · rw [updR_ne R r e]
      unfold setL5
      rw [if_neg e]
      exact own_keeps (own_keeps (h.row l' hl') hk fun b hb e' => e (h.dis l' l b hl' hl hb e')) k fun b hb e' => h.neB hl' hb e'
  · by_cases e : l' = l
    · subst e; rw [updR_same]; exact h3
    · rw [updR_ne R r e]; exact h.v3 l' hl'
  · unfold setL5 at e1 e2
    by_cases e : l1 = l <;> by_cases e' : l2 = l
    · omega
    · subst e
      rw [if_pos rfl] at e1
      rw [if_neg e'] at e2
      rcases hn b e1 with q | q
      · exact h.dis l1 l2 b h1 h2 q e2
      · have := (own_blk (h.row l2 h2) b e2).2; omega
    · subst e'
      rw [if_neg e] at e1
      rw [if_pos rfl] at e2
      rcases hn b e2 with q | q
      · exact h.dis l1 l2 b h1 h2 e1 q
      · have := (own_blk (h.row l1 h1) b e1).2; omega
    · rw [if_neg e] at e1
      rw [if_neg e'] at e2
      exact h.dis l1 l2 b h1 h2 e1 e2
  · exact keeps_newW (keeps_newW h.kp hk (fun x e => h.sR l x hl e)) k (fun x (e : x = B) => by rw [e]; exact h.sB)
  · unfold setL5 at hb
    by_cases e : l' = l
    · rw [if_pos e] at hb
      rcases hn b hb with q | q
      · exact h.sR l b hl q
      · exact .inr (Nat.le_trans h.kp.size q)
    · rw [if_neg e] at hb
      exact h.sR l' b hl' hb
/-- The blocks of the copy. -/
def MidS (B : Nat) (L : Nat → Option Addr × Nat) (b : Nat) : Prop := b = B ∨ ∃ l, l < 3 ∧ blk (L l).1 = some b
theorem MidW.here (h : MidW S w0 w base B hd L R U) : MidW (MidS B L) w w base B hd L R U :=
  ⟨h.cur, h.hl, h.u3, h.bB, h.row, h.v3, h.dis, Keeps.refl _ _, .inl (.inl rfl), fun l b hl hb => .inl (.inr ⟨l, hl, hb⟩), h.sz⟩
theorem MidW.back {L' : Nat → Option Addr × Nat} {R' : Nat → List Ms} {U' : List (List Int)} {hd' : List Value} (h : MidW S w0 w base B hd L R U) (h' : MidW (MidS B L) w w' base B hd' L' R' U') : MidW S w0 w' base B hd' L' R' U' := by
  have key : ∀ b, MidS B L b → S b ∨ w0.heap.size ≤ b := fun b hb => by
    rcases hb with rfl | ⟨l, hl, hb⟩
    · exact h.sB
    · exact h.sR l b hl hb
  exact ⟨h'.cur, h'.hl, h'.u3, h'.bB, h'.row, h'.v3, h'.dis, keeps_newW h.kp h'.kp key, h.sB, fun l b hl hb => (h'.sR l b hl hb).elim (key b) fun q => .inr (Nat.le_trans h.kp.size q), h'.sz⟩
end
theorem map_at {α : Type} {f : α → α} {r : List α} {i : Nat} {m : α} (h : r[i]? = some m) : ((r.take i).map f ++ r.drop i)[i]? = some m := by
  have hlt := (List.getElem?_eq_some_iff.1 h).1
  rw [List.getElem?_append_right (by simp; omega)]
  simp only [List.length_map, List.length_take, Nat.min_eq_left (Nat.le_of_lt hlt), Nat.sub_self, List.getElem?_drop, Nat.add_zero]
  exact h
theorem map_step {α : Type} {f : α → α} {r : List α} {i : Nat} {m : α} (h : r[i]? = some m) : ((r.take i).map f ++ r.drop i).set i (f m) = (r.take (i + 1)).map f ++ r.drop (i + 1) := by
  have hlt := (List.getElem?_eq_some_iff.1 h).1
  have hd : r.drop i = m :: r.drop (i + 1) := by
    rw [List.drop_eq_getElem_cons hlt]
    congr 1
    exact (List.getElem?_eq_some_iff.1 h).2
  rw [List.set_append_right _ _ (by simp; omega), hd]
  simp only [List.length_map, List.length_take, Nat.min_eq_left (Nat.le_of_lt hlt), Nat.sub_self, List.set_cons_zero]
  rw [List.take_add_one, h, List.map_append, List.append_assoc]
  rfl
end Go.Proofs.Ythlmfjoiicnomaa
