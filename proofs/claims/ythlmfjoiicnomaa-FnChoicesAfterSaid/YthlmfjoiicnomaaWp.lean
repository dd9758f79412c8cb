/-
  PROVED HERE: a state with views in the middle of a step: what stores make of it. what (*views).put does. CONDITIONS: as each theorem states.
-/
import Derived.Test.YthlmfjoiicnomaaWd
namespace Go.Proofs.Ythlmfjoiicnomaa
open Go.RowKit
set_option linter.unusedVariables false
set_option linter.unusedSimpArgs false

theorem keeps_newW {S S' : Nat → Prop} {a b c : World} (h : Keeps S a b) (h' : Keeps S' b c) (hs : ∀ k, S' k → S k ∨ a.heap.size ≤ k) : Keeps S a c :=
  ⟨h'.os.trans h.os, h'.tape.trans h.tape, h'.output.trans h.output, Nat.le_trans h.size h'.size, fun k hk hn => (h'.block k (Nat.lt_of_lt_of_le hk h.size) fun e => by rcases hs k e with e | e; exact hn e; omega).trans (h.block k hk hn)⟩
/-- The copy at block B, whose rows are the call's own. -/
structure MidW (S : Nat → Prop) (w0 w : World) (base B : Nat) (hd : List Value) (L : Nat → Option Addr × Nat) (R : Nat → List Ms) (U : List (List Int)) : Prop where
  cur : w.heap[B]? = some (.cells (vwC hd L (fun l => (R l).length) U).toArray 112 (0, 0))
  hl : hd.length = 16
  u3 : U3 U
  bB : base ≤ B
  row : ∀ l, l < 3 → w.ownsRow base 114 5 (.slice (L l).1 (R l).length (L l).2) (R l).length (wcells (R l))
  v3 : ∀ l, l < 3 → V3 (R l)
  dis : ∀ l l' b, l < 3 → l' < 3 → blk (L l).1 = some b → blk (L l').1 = some b → l = l'
  kp : Keeps S w0 w
  sB : S B ∨ w0.heap.size ≤ B
  sR : ∀ l b, l < 3 → blk (L l).1 = some b → S b ∨ w0.heap.size ≤ b
  sz : base ≤ w.heap.size
def updR (R : Nat → List Ms) (l : Nat) (r : List Ms) : Nat → List Ms := fun l' => if l' = l then r else R l'
theorem updR_same (R : Nat → List Ms) (l : Nat) (r : List Ms) : updR R l r l = r := by unfold updR; rw [if_pos rfl]
theorem updR_ne (R : Nat → List Ms) {l l' : Nat} (r : List Ms) (h : l' ≠ l) : updR R l r l' = R l' := by unfold updR; rw [if_neg h]
theorem updR_len (R : Nat → List Ms) {l : Nat} {r : List Ms} (h : r.length = (R l).length) : (fun l' => (updR R l r l').length) = fun l' => (R l').length := by
  funext l'
  unfold updR
  split
  · rename_i e; rw [e, h]
  · rfl
section
variable {S : Nat → Prop} {w0 w w' : World} {base B : Nat} {hd : List Value} {L : Nat → Option Addr × Nat} {R : Nat → List Ms} {U : List (List Int)}
theorem MidW.lt (h : MidW S w0 w base B hd L R U) : B < w.heap.size := (Array.getElem?_eq_some_iff.1 h.cur).1
theorem MidW.neB (h : MidW S w0 w base B hd L R U) {l b : Nat} (hl : l < 3) (hb : blk (L l).1 = some b) : b ≠ B := by
  rintro rfl
  rcases (h.row l hl).2 with ⟨hv, _⟩ | ⟨g, c, cur, hv, _, hg, _⟩
  · simp only [Value.slice.injEq] at hv
    rw [hv.1] at hb
    cases hb
  · simp only [Value.slice.injEq] at hv
    rw [hv.1] at hb
    have : g = b := by simpa [blk] using hb
    subst this
    rw [h.cur] at hg
    simp only [Option.some.injEq, Obj.cells.injEq] at hg
    exact absurd hg.2.1 (by decide)
theorem MidW.later (h : MidW S w0 w base B hd L R U) (hb : Below w.heap.size w w') : MidW S w0 w' base B hd L R U :=
  ⟨by rw [hb.block B h.lt]; exact h.cur, h.hl, h.u3, h.bB, fun l hl => own_below (h.row l hl) hb, h.v3, h.dis, keeps_newW h.kp (Keeps.of_below (S := fun _ => False) hb) (fun _ e => e.elim), h.sB, h.sR, Nat.le_trans h.sz hb.size⟩
theorem MidW.drew (h : MidW S w0 w base B hd L R U) : MidW S w0 w.drew base B hd L R U := h.later (below_drewN 1 (Below.refl _ _))
theorem MidW.cellB (h : MidW S w0 w base B hd L R U) {j : Nat} {v : Value} (hj : (vwC hd L (fun l => (R l).length) U)[j]? = some v) : w.cell? ⟨B, j, none⟩ = some v := cell_L h.cur hj
theorem MidW.freeB (h : MidW S w0 w base B hd L R U) (j : Nat) : w.frozen? ⟨B, j, none⟩ = false := frozen_of_row w B j _ _ h.cur
theorem MidW.cl (h : MidW S w0 w base B hd L R U) {l : Nat} (hl : l < 3) : w.cell? ⟨B, 16 + l, none⟩ = some (.slice (L l).1 (R l).length (L l).2) := h.cellB (vwC_l h.hl hl)
/-- Where a row lies. -/
theorem MidW.at_ (h : MidW S w0 w base B hd L R U) {l : Nat} (hl : l < 3) (hp : 0 < (R l).length) : ∃ g, (L l).1 = some ⟨g, 0, none⟩ ∧ g ≠ B ∧ base ≤ g ∧ g < w.heap.size ∧ (∀ j v, (wcells (R l))[j]? = some v → w.cell? ⟨g, j, none⟩ = some v) ∧ ∀ j, w.frozen? ⟨g, j, none⟩ = false := by
  rcases (h.row l hl).2 with ⟨hv, h0⟩ | ⟨g, c, cur, hv, hbg, hg, hnc, hcm, hs, ht⟩
  · omega
  · simp only [Value.slice.injEq] at hv
    refine ⟨g, hv.1, h.neB hl (by rw [hv.1]; rfl), hbg, (Array.getElem?_eq_some_iff.1 hg).1, fun j v hj => ?_, fun j => frozen_of_row w g j _ _ hg⟩
    have hg' : w.heap[g]? = some (.cells cur.toList.toArray 114 (0, 0)) := by simpa using hg
    refine cell_L hg' ?_
    rw [← ht, List.getElem?_take] at hj
    split at hj
    · exact hj
    · cases hj
/-- A cell of the block itself turns. -/
theorem MidW.setB (h : MidW S w0 w base B hd L R U) {j : Nat} {v : Value} {hd' : List Value} {U' : List (List Int)} (hh : hd'.length = 16) (hu : U3 U') (he : (vwC hd L (fun l => (R l).length) U).set j v = vwC hd' L (fun l => (R l).length) U') : MidW S w0 (w.setCell ⟨B, j, none⟩ v) base B hd' L R U' := by
  have k := Keeps.setCell w ⟨B, j, none⟩ v
  exact ⟨by rw [heap_setL h.cur, he], hh, hu, h.bB, fun l hl => own_keeps (h.row l hl) k fun b hb e => h.neB hl hb e, h.v3, h.dis, keeps_newW h.kp k (fun x (e : x = B) => by rw [e]; exact h.sB), h.sB, h.sR, Nat.le_trans h.sz k.size⟩
theorem MidW.sethd (h : MidW S w0 w base B hd L R U) {j : Nat} (hj : j < 16) (v : Value) : MidW S w0 (w.setCell ⟨B, j, none⟩ v) base B (hd.set j v) L R U := h.setB (by rw [List.length_set]; exact h.hl) h.u3 (vwC_sethd h.hl hj v)
theorem MidW.seto (h : MidW S w0 w base B hd L R U) {o : Nat} {v : List Int} (e : U[o]? = some v) {j : Nat} (hj : j < 3) (x : Int) : MidW S w0 (w.setCell ⟨B, 19 + (o * 3 + j), none⟩ (.int .u8 x)) base B hd L R (U.set o (v.set j x)) :=
  h.setB h.hl (h.u3.set (by rw [List.length_set]; exact h.u3.2 v (List.mem_of_getElem? e))) (vwC_seto h.hl h.u3 e hj x)
theorem MidW.seto3 (h : MidW S w0 w base B hd L R U) {o : Nat} (ho : o < 3) (a b c : Int) : MidW S w0 (((w.setCell ⟨B, 19 + o * 3, none⟩ (.int .u8 a)).setCell ⟨B, 19 + o * 3 + 1, none⟩ (.int .u8 b)).setCell ⟨B, 19 + o * 3 + 2, none⟩ (.int .u8 c)) base B hd L R (U.set o [a, b, c]) := by
  have hlt : o < U.length := by rw [h.u3.1]; exact ho
  obtain ⟨v, hv⟩ : ∃ v, U[o]? = some v := ⟨_, List.getElem?_eq_getElem hlt⟩
  obtain ⟨x, y, z, rfl⟩ := len3 (h.u3.2 v (List.mem_of_getElem? hv))
  have h1 := h.seto hv (j := 0) (by decide) a
  have h2 := h1.seto (List.getElem?_set_self hlt) (j := 1) (by decide) b
  have h3 := h2.seto (List.getElem?_set_self (by rw [List.length_set]; exact hlt)) (j := 2) (by decide) c
  rw [List.set_set, List.set_set] at h3
  exact h3
/-- A cell of a row turns. -/
theorem MidW.setR (h : MidW S w0 w base B hd L R U) {l g : Nat} (hl : l < 3) (hg : (L l).1 = some ⟨g, 0, none⟩) {j : Nat} {v : Value} {r : List Ms} (hr : r.length = (R l).length) (h3 : V3 r) (he : (wcells (R l)).set j v = wcells r) : MidW S w0 (w.setCell ⟨g, j, none⟩ v) base B hd L (updR R l r) U := by
  have k := Keeps.setCell w ⟨g, j, none⟩ v
  have hgb : blk (L l).1 = some g := by rw [hg]; rfl
  have hne := h.neB hl hgb
  have hgo := h.row l hl
  refine ⟨?_, h.hl, h.u3, h.bB, fun l' hl' => ?_, fun l' hl' => ?_, h.dis, keeps_newW h.kp k (fun x (e : x = g) => by rw [e]; exact h.sR l g hl hgb), h.sB, h.sR, Nat.le_trans h.sz k.size⟩
  · rw [updR_len R hr, k.block B h.lt (fun e => hne (Eq.symm e))]
    exact h.cur
  · by_cases e : l' = l
    · subst e
      rw [updR_same, hr]
      rw [hg] at hgo ⊢
      have := (hgo.stored j v).1
      rw [he] at this
      exact this
    · rw [updR_ne R r e]
      exact own_keeps (h.row l' hl') k fun b hb eb => e (h.dis l' l b hl' hl hb (by rw [hgb]; exact congrArg some (Eq.symm eb)))
  · by_cases e : l' = l
    · subst e; rw [updR_same]; exact h3
    · rw [updR_ne R r e]; exact h.v3 l' hl'
theorem updR_updR (R : Nat → List Ms) (l : Nat) (r r' : List Ms) : updR (updR R l r) l r' = updR R l r' := by
  funext l'
  unfold updR
  split <;> rfl
theorem MidW.setv (h : MidW S w0 w base B hd L R U) {l g i : Nat} {m : Ms} (hl : l < 3) (hg : (L l).1 = some ⟨g, 0, none⟩) (hi : (R l)[i]? = some m) (a b c : Int) :
    MidW S w0 (((w.setCell ⟨g, i * 5 + 2, none⟩ (.int .u8 a)).setCell ⟨g, i * 5 + 3, none⟩ (.int .u8 b)).setCell ⟨g, i * 5 + 4, none⟩ (.int .u8 c)) base B hd L (updR R l ((R l).set i { m with view := [a, b, c] })) U := by
  have hv := h.v3 l hl
  have hilt := (List.getElem?_eq_some_iff.1 hi).1
  obtain ⟨x, y, z, hmv⟩ := len3 (hv m (List.mem_of_getElem? hi))
  obtain ⟨val, lock, view⟩ := m
  have hmv : view = [x, y, z] := hmv
  subst hmv
  have h1 := h.setR hl hg (j := i * 5 + 2) (v := .int .u8 a) (r := (R l).set i ⟨val, lock, [a, y, z]⟩) (by rw [List.length_set]) (hv.set rfl) (wcells_set hv hi (by decide) rfl)
  have h2 := h1.setR hl hg (j := i * 5 + 3) (v := .int .u8 b) (r := (R l).set i ⟨val, lock, [a, b, z]⟩) (by rw [updR_same, List.length_set, List.length_set]) (hv.set rfl) (by
    rw [updR_same, wcells_set (m := ⟨val, lock, [a, y, z]⟩) (m' := ⟨val, lock, [a, b, z]⟩) (hv.set rfl) (List.getElem?_set_self hilt) (by decide) rfl, List.set_set])
  rw [updR_updR] at h2
  have h3 := h2.setR hl hg (j := i * 5 + 4) (v := .int .u8 c) (r := (R l).set i ⟨val, lock, [a, b, c]⟩) (by rw [updR_same, List.length_set, List.length_set]) (hv.set rfl) (by
    rw [updR_same, wcells_set (m := ⟨val, lock, [a, b, z]⟩) (m' := ⟨val, lock, [a, b, c]⟩) (hv.set rfl) (List.getElem?_set_self hilt) (by decide) rfl, List.set_set])
  rw [updR_updR] at h3
  exact h3
theorem MidW.setlock (h : MidW S w0 w base B hd L R U) {l g i : Nat} {m : Ms} (hl : l < 3) (hg : (L l).1 = some ⟨g, 0, none⟩) (hi : (R l)[i]? = some m) : MidW S w0 (w.setCell ⟨g, i * 5 + 1, none⟩ (.bool true)) base B hd L (updR R l ((R l).set i { m with lock := true })) U :=
  h.setR hl hg (by rw [List.length_set]) ((h.v3 l hl).set ((h.v3 l hl) m (List.mem_of_getElem? hi))) (wcells_set (h.v3 l hl) hi (by decide) rfl)
/-- Another row takes the place of one. -/
theorem MidW.setl (h : MidW S w0 w base B hd L R U) {l : Nat} (hl : l < 3) (hk : Keeps (fun b => blk (L l).1 = some b) w w') {a : Option Addr} {c : Nat} {r : List Ms} (ho : w'.ownsRow base 114 5 (.slice a r.length c) r.length (wcells r)) (h3 : V3 r) (hn : ∀ b, blk a = some b → blk (L l).1 = some b ∨ w.heap.size ≤ b) :
    MidW S w0 (w'.setCell ⟨B, 16 + l, none⟩ (.slice a r.length c)) base B hd (setL5 L l (a, c)) (updR R l r) U := by
  have hcur : w'.heap[B]? = some (.cells (vwC hd L (fun l => (R l).length) U).toArray 112 (0, 0)) := by
    rw [hk.block B h.lt (fun e => h.neB hl e rfl)]
    exact h.cur
  have k := Keeps.setCell w' ⟨B, 16 + l, none⟩ (.slice a r.length c)
  have hnB : ∀ b, blk a = some b → b ≠ B := fun b hb e => by
    rcases hn b hb with h1 | h1
    · exact h.neB hl h1 e
    · have := h.lt; omega
  refine ⟨?_, h.hl, h.u3, h.bB, fun l' hl' => ?_, fun l' hl' => ?_, fun l1 l2 b h1 h2 e1 e2 => ?_, ?_, h.sB, fun l' b hl' hb => ?_, Nat.le_trans h.sz (Nat.le_trans hk.size k.size)⟩
  · rw [heap_setL hcur, vwC_setl h.hl hl]
    congr 4
    funext l'
    unfold setN5 updR
    split <;> rfl
  · by_cases e : l' = l
    · subst e
      rw [updR_same]
      unfold setL5
      rw [if_pos rfl]
      exact own_keeps ho k fun b hb e => hnB b hb e
    · rw [updR_ne R r e]
      unfold setL5
      rw [if_neg e]
      exact own_keeps (own_keeps (h.row l' hl') hk fun b hb e' => e (h.dis l' l b hl' hl hb e')) k fun b hb e' => h.neB hl' hb e'
  · by_cases e : l' = l
    · subst e; rw [updR_same]; exact h3
    · rw [updR_ne R r e]; exact h.v3 l' hl'
  · unfold setL5 at e1 e2
    by_cases e : l1 = l <;> by_cases e' : l2 = l
    · omega
    · subst e
      rw [if_pos rfl] at e1
      rw [if_neg e'] at e2
      rcases hn b e1 with q | q
      · exact h.dis l1 l2 b h1 h2 q e2
      · have := (own_blk (h.row l2 h2) b e2).2; omega
    · subst e'
      rw [if_neg e] at e1
      rw [if_pos rfl] at e2
      rcases hn b e2 with q | q
      · exact h.dis l1 l2 b h1 h2 e1 q
      · have := (own_blk (h.row l1 h1) b e1).2; omega
    · rw [if_neg e] at e1
      rw [if_neg e'] at e2
      exact h.dis l1 l2 b h1 h2 e1 e2
  · exact keeps_newW (keeps_newW h.kp hk (fun x e => h.sR l x hl e)) k (fun x (e : x = B) => by rw [e]; exact h.sB)
  · unfold setL5 at hb
    by_cases e : l' = l
    · rw [if_pos e] at hb
      rcases hn b hb with q | q
      · exact h.sR l b hl q
      · exact .inr (Nat.le_trans h.kp.size q)
    · rw [if_neg e] at hb
      exact h.sR l' b hl' hb
/-- The blocks of the copy. -/
def MidS (B : Nat) (L : Nat → Option Addr × Nat) (b : Nat) : Prop := b = B ∨ ∃ l, l < 3 ∧ blk (L l).1 = some b
theorem MidW.here (h : MidW S w0 w base B hd L R U) : MidW (MidS B L) w w base B hd L R U :=
  ⟨h.cur, h.hl, h.u3, h.bB, h.row, h.v3, h.dis, Keeps.refl _ _, .inl (.inl rfl), fun l b hl hb => .inl (.inr ⟨l, hl, hb⟩), h.sz⟩
theorem MidW.back {L' : Nat → Option Addr × Nat} {R' : Nat → List Ms} {U' : List (List Int)} {hd' : List Value} (h : MidW S w0 w base B hd L R U) (h' : MidW (MidS B L) w w' base B hd' L' R' U') : MidW S w0 w' base B hd' L' R' U' := by
  have key : ∀ b, MidS B L b → S b ∨ w0.heap.size ≤ b := fun b hb => by
    rcases hb with rfl | ⟨l, hl, hb⟩
    · exact h.sB
    · exact h.sR l b hl hb
  exact ⟨h'.cur, h'.hl, h'.u3, h'.bB, h'.row, h'.v3, h'.dis, keeps_newW h.kp h'.kp key, h.sB, fun l b hl hb => (h'.sR l b hl hb).elim (key b) fun q => .inr (Nat.le_trans h.kp.size q), h'.sz⟩
end
theorem map_at {α : Type} {f : α → α} {r : List α} {i : Nat} {m : α} (h : r[i]? = some m) : ((r.take i).map f ++ r.drop i)[i]? = some m := by
  have hlt := (List.getElem?_eq_some_iff.1 h).1
  rw [List.getElem?_append_right (by simp; omega)]
  simp only [List.length_map, List.length_take, Nat.min_eq_left (Nat.le_of_lt hlt), Nat.sub_self, List.getElem?_drop, Nat.add_zero]
  exact h
theorem map_step {α : Type} {f : α → α} {r : List α} {i : Nat} {m : α} (h : r[i]? = some m) : ((r.take i).map f ++ r.drop i).set i (f m) = (r.take (i + 1)).map f ++ r.drop (i + 1) := by
  have hlt := (List.getElem?_eq_some_iff.1 h).1
  have hd : r.drop i = m :: r.drop (i + 1) := by
    rw [List.drop_eq_getElem_cons hlt]
    congr 1
    exact (List.getElem?_eq_some_iff.1 h).2
  rw [List.set_append_right _ _ (by simp; omega), hd]
  simp only [List.length_map, List.length_take, Nat.min_eq_left (Nat.le_of_lt hlt), Nat.sub_self, List.set_cons_zero]
  rw [List.take_add_one, h, List.map_append, List.append_assoc]
  rfl
end Go.Proofs.Ythlmfjoiicnomaa
namespace Go.Proofs.Ythlmfjoiicnomaa
open Go.RowKit
set_option linter.unusedVariables false
set_option linter.unusedSimpArgs false

/-- A write gets a place: what threads see, the rows. -/
def insU (U : List (List Int)) (t loc k : Nat) : List (List Int) := (U.map (bump loc k)).set t ((bump loc k (U.getD t [])).set loc (k : Int))
def insR (R : Nat → List Ms) (U : List (List Int)) (t loc k : Nat) (val : Int) : Nat → List Ms := fun l => if l = loc then ((R loc).map (bumpM loc k)).take k ++ [⟨val, false, (bump loc k (U.getD t [])).set loc (k : Int)⟩] ++ ((R loc).map (bumpM loc k)).drop k else (R l).map (bumpM loc k)
theorem MidW.thereR {S : Nat → Prop} {w0 w : World} {base B : Nat} {hd : List Value} {L : Nat → Option Addr × Nat} {R : Nat → List Ms} {U : List (List Int)} (h : MidW S w0 w base B hd L R U) {l g o n : Nat} (hl : l < 3) (hg : (L l).1 = some ⟨g, 0, none⟩) (hle : o + n ≤ (R l).length * 5) (hn : 0 < n) : w.there g o n := fun j hj => by
  obtain ⟨g', hg', _, _, _, hc, hf⟩ := h.at_ hl (by omega)
  rw [hg] at hg'
  simp only [Option.some.injEq, Addr.mk.injEq, and_true] at hg'
  subst hg'
  have hlt : o + j < (wcells (R l)).length := by rw [wcells_len (h.v3 l hl)]; omega
  exact ⟨by rw [hc _ _ (List.getElem?_eq_getElem hlt)]; rfl, hf _⟩
theorem MidW.thereB {S : Nat → Prop} {w0 w : World} {base B : Nat} {hd : List Value} {L : Nat → Option Addr × Nat} {R : Nat → List Ms} {U : List (List Int)} (h : MidW S w0 w base B hd L R U) {o n : Nat} (hle : o + n ≤ 28) : w.there B o n := fun j hj => by
  have hlt : o + j < (vwC hd L (fun l => (R l).length) U).length := by rw [vwC_len h.hl h.u3]; omega
  exact ⟨by rw [h.cellB (List.getElem?_eq_getElem hlt)]; rfl, h.freeB _⟩
theorem MidW.congr {S : Nat → Prop} {w0 w : World} {base B : Nat} {hd : List Value} {L : Nat → Option Addr × Nat} {R R' : Nat → List Ms} {U : List (List Int)} (h : MidW S w0 w base B hd L R U) (e : ∀ l, l < 3 → R' l = R l) : MidW S w0 w base B hd L R' U :=
  ⟨by
    have : vwC hd L (fun l => (R' l).length) U = vwC hd L (fun l => (R l).length) U := by
      unfold vwC
      dsimp only
      rw [e 0 (by decide), e 1 (by decide), e 2 (by decide)]
    rw [this]
    exact h.cur, h.hl, h.u3, h.bB, fun l hl => by rw [e l hl]; exact h.row l hl, fun l hl => by rw [e l hl]; exact h.v3 l hl, h.dis, h.kp, h.sB, h.sR, h.sz⟩
/-- The region that puts a write into its row, in its middle. -/
structure PutS (w1 wd : World) (B base N : Nat) (a : Option Addr) (m : Ms) (cs : List Value) (S : Nat → Bool) (ρ : Nat → Value) (w' : World) : Prop where
  c : w'.heap[B]? = w1.heap[B]?
  o : S 19 = true → S 18 = true
  p0 : S 18 = false → w' = wd
  p1 : S 18 = true → S 19 = false → ρ 18 = .slice (some ⟨wd.heap.size, 0, none⟩) 1 1 ∧ w' = wd.alloc (.cells (wcell m).toArray 114)
  p2 : S 19 = true → InsR (wd.alloc (.cells (wcell m).toArray 114)) base a N cs (.returned (ρ 19)) w'
theorem below_trans3 {w0 w w' : World} {base : Nat} (h : Below base w0 w) (hs : base ≤ w.heap.size) (hb : Below w.heap.size w w') : Below base w0 w' := h.trans (hb.mono hs)
set_option maxRecDepth 100000 in
set_option maxHeartbeats 3200000 in
theorem put_c (S0 : Nat → Prop) (w0 w : World) (base B : Nat) (hd : List Value) (L : Nat → Option Addr × Nat) (R : Nat → List Ms) (U : List (List Int)) (t loc k : Nat) (val : Int) (h : MidW S0 w0 w base B hd L R U) (ht : t < 3) (hloc : loc < 3) (hk1 : 1 ≤ k) (hk : k ≤ (R loc).length) (hval : 0 ≤ val ∧ val ≤ 3)
    (hRb : ∀ l, l < 3 → (R l).length ≤ 90 ∧ ∀ m ∈ R l, ∀ x ∈ m.view, 0 ≤ x ∧ x ≤ 100) (hUb : ∀ v ∈ U, ∀ x ∈ v, 0 ≤ x ∧ x ≤ 100) :
    Calls Try.prog 138 #[.pointer (some ⟨B, 0, none⟩), .int .i64 t, .int .i64 loc, .int .u8 k, .int .u8 val] w fun e w' => e = .returned (.tuple #[]) ∧ ∃ L', MidW S0 w0 w' base B hd L' (insR R U t loc k val) (insU U t loc k) := by
  have HMV := hid (fun w v (hv : v.length = 3) (hb : ∀ x ∈ v, 0 ≤ x ∧ x ≤ 100) => moved_c w v loc k hloc hv (by have := (hRb loc hloc).1; omega) hb)
  have hk90 : k ≤ 90 := by have := (hRb loc hloc).1; omega
  have HRB := hid hRb
  have HUB := hid hUb
  have H0 := hid h
  have HU3 := hid h.u3
  have HV3 := hid h.v3
  clear hRb hUb h
  go_enter Try.func138, Try.ntmps138
  go_wp2_with fail
  go_loopw [10, 11, 13] (fun _ _ i wx => ∃ l : Nat, l ≤ 3 ∧ i = .int .i64 l ∧ Hid (∃ R', (∀ l', l' < l → R' l' = (R l').map (bumpM loc k)) ∧ (∀ l', l ≤ l' → R' l' = R l') ∧ MidW S0 w0 wx base B hd L R' U)) (fun _ _ i _ => 3 - (intOf i).toNat)
  case atStart => exact ⟨0, by omega, rfl, hid ⟨R, fun l' hl' => by omega, fun _ _ => rfl, H0.out⟩⟩
  case round =>
    clear H0
    obtain ⟨l, hl, rfl, HS⟩ := hrel
    obtain ⟨R1, hr1, hr2, hM⟩ := HS.out
    have HR1 := hid hr1
    have HR2 := hid hr2
    have HM := hid hM
    clear HS hr1 hr2 hM
    by_cases hl3 : l < 3
    · have hl3' : (l : Int) < 3 := by omega
      have hRl := HR2.out l (Nat.le_refl l)
      have c16 := HM.out.cl hl3
      rw [hRl] at c16
      obtain ⟨N, hN⟩ : ∃ N, N = (R l).length := ⟨_, rfl⟩
      rw [← hN] at c16
      have HN := hid hN
      have hN90 : N ≤ 90 := by rw [hN]; exact (HRB.out l hl3).1
      clear hN hRl
      go_wp2_with fail
      go_loopw [11, 23] (fun _ i wx => ∃ j : Nat, j ≤ N ∧ i = .int .i64 j ∧ Hid (∃ R', (∀ l', l' < l → R' l' = (R l').map (bumpM loc k)) ∧ (R' l = ((R l).take j).map (bumpM loc k) ++ (R l).drop j) ∧ (∀ l', l < l' → R' l' = R l') ∧ MidW S0 w0 wx base B hd L R' U)) (fun _ i _ => N - (intOf i).toNat)
      case atStart => exact ⟨0, by omega, rfl, hid ⟨R1, HR1.out, by rw [HR2.out l (Nat.le_refl l)]; rfl, fun l' hl' => HR2.out l' (by omega), HM.out⟩⟩
      case round =>
        clear c16 HM HR1 HR2
        obtain ⟨j, hj, rfl, HS⟩ := hrel
        obtain ⟨R2, hr1, hr2, hr3, hM⟩ := HS.out
        have HR1 := hid hr1
        have HR2 := hid hr2
        have HR3 := hid hr3
        have HM := hid hM
        clear HS hr1 hr2 hr3 hM
        by_cases hjN : j < N
        · obtain ⟨m, hm⟩ : ∃ m, (R l)[j]? = some m := ⟨_, List.getElem?_eq_getElem (by rw [← HN.out]; exact hjN)⟩
          have hm2 : (R2 l)[j]? = some m := by rw [HR2.out]; exact map_at hm
          have hlen2 : (R2 l).length = N := by rw [HR2.out, HN.out]; simp; omega
          obtain ⟨g, hg, hgB, hbg, hgs, hgc, hgf⟩ := HM.out.at_ hl3 (by omega)
          have hmem := List.mem_of_getElem? hm
          obtain ⟨x0, x1, x2, hmv⟩ := len3 (HV3.out l hl3 m hmem)
          have HMB := hid ((HRB.out l hl3).2 m hmem)
          have hcs : wr.cell? ⟨B, 16 + l, none⟩ = some (.slice (some ⟨g, 0, none⟩) N (L l).2) := by have := HM.out.cl hl3; rw [hlen2, hg] at this; exact this
          have hv2 := hgc (j * 5 + 2) _ ((wcells_get (HM.out.v3 l hl3) hm2 (j := 2) (by decide)).trans (by rw [wcell, hmv]; rfl))
          have hv3 := hgc (j * 5 + 3) _ ((wcells_get (HM.out.v3 l hl3) hm2 (j := 3) (by decide)).trans (by rw [wcell, hmv]; rfl))
          have hv4 := hgc (j * 5 + 4) _ ((wcells_get (HM.out.v3 l hl3) hm2 (j := 4) (by decide)).trans (by rw [wcell, hmv]; rfl))
          have hBlt := HM.out.lt
          obtain ⟨lc, hlc⟩ : ∃ lc, lc = (L l).2 := ⟨_, rfl⟩
          rw [← hlc] at hcs
          clear hlc
          obtain ⟨y0, y1, y2, hy⟩ := len3 ((bump_length loc k [x0, x1, x2]).trans rfl)
          have HMC := hid (HMV.out wr.drew [x0, x1, x2] rfl (by rw [← hmv]; exact HMB.out))
          rw [hy] at HMC
          have HBM := hid (show bumpM loc k m = { m with view := [y0, y1, y2] } by unfold bumpM; rw [hmv, hy])
          have HGX := hid hg
          have HM2 := hid hm
          have HM3 := hid hm2
          clear hy hmv hmem hm hm2 hg
          obtain ⟨J, hJ⟩ : ∃ J : World → Prop, J = fun w' => Below wr.heap.size wr w' := ⟨_, rfl⟩
          have HJ := hid (fun w' (h : Below wr.heap.size wr w') => show J w' by rw [hJ]; exact h)
          have HC := hid (fun w' (h : J w') => show w'.cell? ⟨B, 16 + l, none⟩ = some (.slice (some ⟨g, 0, none⟩) N lc) ∧ w'.cell? ⟨g, j * 5 + 2, none⟩ = some (.int .u8 x0) ∧ w'.cell? ⟨g, j * 5 + 3, none⟩ = some (.int .u8 x1) ∧ w'.cell? ⟨g, j * 5 + 4, none⟩ = some (.int .u8 x2) from by
            rw [hJ] at h
            exact ⟨(h.cell (p := ⟨B, 16 + l, none⟩) hBlt).trans hcs, (h.cell (p := ⟨g, j * 5 + 2, none⟩) hgs).trans hv2, (h.cell (p := ⟨g, j * 5 + 3, none⟩) hgs).trans hv3, (h.cell (p := ⟨g, j * 5 + 4, none⟩) hgs).trans hv4⟩)
          have hJ0 : J wr.drew := HJ.out _ (below_drewN 1 (Below.refl _ _))
          have hjN' : (j : Int) < (N : Int) := by omega
          clear hJ hcs hv2 hv3 hv4 hgc
          go_wp2_with fail
          refine MJ.wp_region_mix (J := J) (by kernel_rfl) (by kernel_rfl) ?_
          repeat (first | (refine MJ.wpMix_pure rfl rfl (fun K hK => ?_); go_simp; (first | refine hK _ ?_ | refine ⟨_, fun W hW => rfl, hK _ ?_⟩ | refine ⟨_, fun W hW => ⟨rfl, rfl⟩, hK _ ?_⟩); clear hK K) | (refine MJ.wpMix_held rfl rfl (by assumption) (fun K hK => ?_); go_simp; apply Exists.intro; refine And.intro (fun W hW => ?_) (hK _ ?_); (focus (have hcs := HC.out W hW; go_simp; try rfl)); clear hK K))
          (with_reducible refine MJ.wpMix_make rfl rfl (fun K hK => ?_); go_simp)
          refine HMC.out.mono ?_
          rintro e w4 ⟨rfl, hb4⟩
          have hb4' : Below wr.heap.size wr w4 := (below_drewN 1 (Below.refl wr.heap.size wr)).trans hb4
          have HM4 := hid (HM.out.later hb4')
          have hJ4 : J w4 := HJ.out _ hb4'
          refine hK _ _ hJ4 ?_
          clear hK K hb4 hb4'
          repeat (first | (refine MJ.wpMix_pure rfl rfl (fun K hK => ?_); go_simp; (first | refine hK _ ?_ | refine ⟨_, fun W hW => rfl, hK _ ?_⟩ | refine ⟨_, fun W hW => ⟨rfl, rfl⟩, hK _ ?_⟩); clear hK K) | (refine MJ.wpMix_held rfl rfl (by assumption) (fun K hK => ?_); go_simp; apply Exists.intro; refine And.intro (fun W hW => ?_) (hK _ ?_); (focus (have hcs := HC.out W hW; go_simp; try rfl)); clear hK K))
          refine MJ.wpMix_act rfl rfl rfl (fun K hK => ?_)
          refine wp_store_mid 109 _ _ rfl g (j * 5 + 2) #[.int .u8 y0, .int .u8 y1, .int .u8 y2] rfl rfl (HM4.out.thereR hl3 HGX.out (by rw [hlen2]; show j * 5 + 2 + 3 ≤ N * 5; omega) (by simp)) (by kernel_rfl) (by simp [Value.oneCell']) ?_
          refine hK _ _ ?_
          clear hK K
          refine MJ.wpMix_nil ?_
          have hM5 : MidW S0 w0 (w4.setCells g (j * 5 + 2) #[.int .u8 y0, .int .u8 y1, .int .u8 y2].toList) base B hd L (updR R2 l ((R2 l).set j { m with view := [y0, y1, y2] })) U := HM4.out.setv hl3 HGX.out HM3.out y0 y1 y2
          have HS5 := hid (show ∃ R', (∀ l', l' < l → R' l' = (R l').map (bumpM loc k)) ∧ (R' l = ((R l).take (j + 1)).map (bumpM loc k) ++ (R l).drop (j + 1)) ∧ (∀ l', l < l' → R' l' = R l') ∧ MidW S0 w0 (w4.setCells g (j * 5 + 2) #[.int .u8 y0, .int .u8 y1, .int .u8 y2].toList) base B hd L R' U from
            ⟨_, fun l' hl' => by rw [updR_ne R2 _ (by omega)]; exact HR1.out l' hl', by rw [updR_same, ← HBM.out, HR2.out, map_step HM2.out], fun l' hl' => by rw [updR_ne R2 _ (by omega)]; exact HR3.out l' hl', hM5⟩)
          obtain ⟨w5, hw5⟩ : ∃ w5, w5 = w4.setCells g (j * 5 + 2) #[.int .u8 y0, .int .u8 y1, .int .u8 y2].toList := ⟨_, rfl⟩
          rw [← hw5] at HS5 ⊢
          clear hw5 hM5 HM4 HMC HJ HC hJ0 hJ4
          clear J
          go_wp2_with fail
          go_roundw
          case rel => exact ⟨j + 1, by omega, by go_num, HS5⟩
          case measure => simp [intOf]; omega
        · obtain rfl : j = N := by omega
          have HS5 := hid (show ∃ R', (∀ l', l' < l + 1 → R' l' = (R l').map (bumpM loc k)) ∧ (∀ l', l + 1 ≤ l' → R' l' = R l') ∧ MidW S0 w0 wr base B hd L R' U from
            ⟨R2, fun l' hl' => by
              by_cases e : l' = l
              · subst e
                rw [HR2.out, HN.out, List.take_length, List.drop_length, List.append_nil]
              · exact HR1.out l' (by omega), fun l' hl' => HR3.out l' (by omega), HM.out⟩)
          go_wp2_with fail
          go_roundw
          case rel => exact ⟨l + 1, by omega, by go_num, HS5⟩
          case measure => simp [intOf]; omega
    · have hl3n : ¬ ((l : Int) < 3) := by omega
      have hle3 : 3 ≤ l := by omega
      have HUL := hid HM.out.u3
      go_wp2_with fail
      go_loopw [12, 50] (fun _ i wx => ∃ o : Nat, o ≤ 3 ∧ i = .int .i64 o ∧ Hid (MidW S0 w0 wx base B hd L R1 ((U.take o).map (bump loc k) ++ U.drop o))) (fun _ i _ => 3 - (intOf i).toNat)
      case atStart => exact ⟨0, by omega, rfl, hid HM.out⟩
      case round =>
        clear HM
        obtain ⟨o, ho, rfl, HM⟩ := hrel
        by_cases ho3 : o < 3
        · have ho3' : (o : Int) < 3 := by omega
          obtain ⟨v, hv⟩ : ∃ v, U[o]? = some v := ⟨_, List.getElem?_eq_getElem (by rw [HUL.out.1]; exact ho3)⟩
          have hv2 := map_at (f := bump loc k) hv
          obtain ⟨x0, x1, x2, hmv⟩ := len3 (HUL.out.2 v (List.mem_of_getElem? hv))
          have HMB := hid (HUB.out v (List.mem_of_getElem? hv))
          have q0 := HM.out.cellB (vwC_o HM.out.hl HM.out.u3 hv2 (j := 0) (x := x0) (by rw [hmv]; rfl))
          have q1 := HM.out.cellB (vwC_o HM.out.hl HM.out.u3 hv2 (j := 1) (x := x1) (by rw [hmv]; rfl))
          have q2 := HM.out.cellB (vwC_o HM.out.hl HM.out.u3 hv2 (j := 2) (x := x2) (by rw [hmv]; rfl))
          have hBlt := HM.out.lt
          rw [Nat.add_zero] at q0
          rw [← Nat.add_assoc] at q1 q2
          obtain ⟨y0, y1, y2, hy⟩ := len3 ((bump_length loc k [x0, x1, x2]).trans rfl)
          have HX3 := hid (show ∀ x ∈ [x0, x1, x2], 0 ≤ x ∧ x ≤ 100 by rw [← hmv]; exact HMB.out)
          have HYY := hid hy
          have HBM := hid (show bump loc k v = [y0, y1, y2] by rw [hmv, hy])
          have HVO := hid hv
          have HV2 := hid hv2
          clear hy hmv hv hv2
          obtain ⟨J, hJ⟩ : ∃ J : World → Prop, J = fun w' => Below wr.heap.size wr w' := ⟨_, rfl⟩
          have HJB := hid (fun w' (h : J w') => show Below wr.heap.size wr w' by rw [hJ] at h; exact h)
          have HJ := hid (fun w' (h : Below wr.heap.size wr w') => show J w' by rw [hJ]; exact h)
          have HC := hid (fun w' (h : J w') => show w'.cell? ⟨B, 19 + o * 3, none⟩ = some (.int .u8 x0) ∧ w'.cell? ⟨B, 19 + o * 3 + 1, none⟩ = some (.int .u8 x1) ∧ w'.cell? ⟨B, 19 + o * 3 + 2, none⟩ = some (.int .u8 x2) from by
            rw [hJ] at h
            exact ⟨(h.cell (p := ⟨B, 19 + o * 3, none⟩) hBlt).trans q0, (h.cell (p := ⟨B, 19 + o * 3 + 1, none⟩) hBlt).trans q1, (h.cell (p := ⟨B, 19 + o * 3 + 2, none⟩) hBlt).trans q2⟩)
          have hJ0 : J wr.drew := HJ.out _ (below_drewN 1 (Below.refl _ _))
          clear hJ q0 q1 q2
          have HMC2 := hid (fun w => HMV.out w [x0, x1, x2] rfl HX3.out)
          rw [HYY.out] at HMC2
          go_wp2_with fail
          refine FR.wp_region_free 14 (fun S ρ w' => J w' ∧ (S 10 = true → ρ 10 = .agg (b8s [y0, y1, y2]).toArray)) (by kernel_rfl) (by kernel_rfl) (by kernel_rfl) (fun _ => undef) ⟨hJ0, fun e => (by cases e)⟩ fun V => ?_
          have HJI := hid (fun (S : Nat → Bool) (ρ : Nat → Value) w' (h : J w' ∧ (S 10 = true → ρ 10 = .agg (b8s [y0, y1, y2]).toArray)) => h.1)
          iterate 7 (refine FR.frGo_pure _ rfl (fun K hK => ?_); go_simp; (first | refine hK _ ?_ | refine ⟨_, fun W hW => rfl, hK _ ?_⟩ | refine ⟨_, fun W hW => ⟨rfl, rfl⟩, hK _ ?_⟩); clear hK K)
          (refine FR.frGo_held _ rfl J (fun S ρ w' h _ => HJI.out S ρ w' h) (fun K hK => ?_); go_simp; apply Exists.intro; refine And.intro (fun W hW => ?_) (hK _ ?_); (focus (have hcs := HC.out W hW; go_simp; try rfl)); clear hK K)
          iterate 2 (refine FR.frGo_pure _ rfl (fun K hK => ?_); go_simp; (first | refine hK _ ?_ | refine ⟨_, fun W hW => rfl, hK _ ?_⟩ | refine ⟨_, fun W hW => ⟨rfl, rfl⟩, hK _ ?_⟩); clear hK K)
          refine FR.frGo_act (k := 10) _ rfl (fun S ρ w' hI hS hp K hK => ?_) ?_
          · go_simp
            refine (HMC2.out w').mono ?_
            rintro e w'' ⟨rfl, hb⟩
            exact hK _ _ ⟨HJ.out _ ((HJB.out _ hI.1).trans (hb.mono (HJB.out _ hI.1).size)), fun _ => by rw [FR.upd_same]⟩
          iterate 3 (refine FR.frGo_pure _ rfl (fun K hK => ?_); go_simp; (first | refine hK _ ?_ | refine ⟨_, fun W hW => rfl, hK _ ?_⟩ | refine ⟨_, fun W hW => ⟨rfl, rfl⟩, hK _ ?_⟩); clear hK K)
          refine FR.frGo_nil _ ?_
          intro S ρ w4 hI hS
          have z10 := hS 10 (by decide) (by kernel_rfl)
          have e10 := hI.2 z10.1
          rw [z10.2] at e10
          rw [e10]
          have HM4 := hid (HM.out.later (HJB.out _ hI.1))
          clear hI hS z10 e10
          refine wpMix_act rfl rfl (fun K hK => ?_)
          refine wp_store_mid 109 _ _ rfl B (19 + o * 3) #[.int .u8 y0, .int .u8 y1, .int .u8 y2] rfl rfl (HM4.out.thereB (by show 19 + o * 3 + 3 ≤ 28; omega)) (by kernel_rfl) (by simp [Value.oneCell']) ?_
          refine hK _ _ ?_
          clear hK K
          (with_reducible refine wpMix_nil ?_)
          have hM5 : MidW S0 w0 (w4.setCells B (19 + o * 3) #[.int .u8 y0, .int .u8 y1, .int .u8 y2].toList) base B hd L R1 (((U.take o).map (bump loc k) ++ U.drop o).set o [y0, y1, y2]) := HM4.out.seto3 ho3 y0 y1 y2
          rw [← HBM.out, map_step HVO.out] at hM5
          have HM5 := hid hM5
          obtain ⟨w5, hw5⟩ : ∃ w5, w5 = w4.setCells B (19 + o * 3) #[.int .u8 y0, .int .u8 y1, .int .u8 y2].toList := ⟨_, rfl⟩
          rw [← hw5] at HM5 ⊢
          clear hw5 hM5 HM4 HMC2 HJ HC hJ0 HJB HJI
          clear J
          go_wp2_with fail
          go_roundw
          case rel => exact ⟨o + 1, by omega, by go_num, HM5⟩
          case measure => simp [intOf]; omega
        · have ho3n : ¬ ((o : Int) < 3) := by omega
          have HM1 := hid (show MidW S0 w0 wr base B hd L R1 (U.map (bump loc k)) from by
            have h := HM.out
            have eo : o = 3 := by omega
            rw [eo] at h
            rw [← HUL.out.1, List.take_length, List.drop_length, List.append_nil] at h
            exact h)
          have ht3' : (t : Int) < 3 := by omega
          have hloc3' : (loc : Int) < 3 := by omega
          obtain ⟨v, hv⟩ : ∃ v, U[t]? = some v := ⟨_, List.getElem?_eq_getElem (by rw [HUL.out.1]; exact ht)⟩
          have hv1 : (U.map (bump loc k))[t]? = some (bump loc k v) := by rw [List.getElem?_map, hv]; rfl
          have hgd : U.getD t [] = v := by rw [List.getD_eq_getElem?_getD, hv]; rfl
          have hvl : (bump loc k v).length = 3 := by rw [bump_length]; exact HUL.out.2 v (List.mem_of_getElem? hv)
          obtain ⟨x, hx⟩ : ∃ x, (bump loc k v)[loc]? = some x := ⟨_, List.getElem?_eq_getElem (by omega)⟩
          have q0 := HM1.out.cellB (vwC_o HM1.out.hl HM1.out.u3 hv1 hx)
          have f0 := HM1.out.freeB (19 + (t * 3 + loc))
          rw [← Nat.add_assoc] at q0 f0
          have HM2 := hid (show MidW S0 w0 (wr.setCell ⟨B, 19 + t * 3 + loc, none⟩ (.int .u8 (k : Int))) base B hd L R1 (insU U t loc k) from by
            have h := HM1.out.seto hv1 hloc (k : Int)
            rw [← Nat.add_assoc] at h
            unfold insU
            rw [hgd]
            exact h)
          have HIU := hid (show (insU U t loc k)[t]? = some ((bump loc k v).set loc (k : Int)) from by
            unfold insU
            rw [hgd, List.getElem?_set_self (by rw [List.length_map, HUL.out.1]; exact ht)])
          have HGD := hid hgd
          obtain ⟨z0, z1, z2, hz⟩ := len3 (show ((bump loc k v).set loc (k : Int)).length = 3 by rw [List.length_set]; exact hvl)
          rw [hz] at HIU
          have HZ := hid hz
          obtain ⟨U2, hU2⟩ : ∃ U2, U2 = insU U t loc k := ⟨_, rfl⟩
          have HU2 := hid hU2
          rw [← hU2] at HM2 HIU
          clear hv hv1 hgd hvl hx hz HM HM1
          obtain ⟨N, hN⟩ : ∃ N, N = (R loc).length := ⟨_, rfl⟩
          have HN := hid hN
          have hkN : k ≤ N := by omega
          have hN90 : N ≤ 90 := by rw [hN]; exact (HRB.out loc hloc).1
          clear hN hU2
          have HWL := hid HM2.out.lt
          have hr1 := HR1.out loc (by omega)
          have HRL := hid (show (R1 loc).length = N by rw [hr1, List.length_map, HN.out])
          have HRX := hid hr1
          clear hr1
          obtain ⟨g, hg, hgB, hbg, hgs, _, _⟩ := HM2.out.at_ hloc (by rw [HRL.out]; omega)
          have c16 := HM2.out.cl hloc
          rw [HRL.out, hg] at c16
          have HGX := hid hg
          have cz0 := HM2.out.cellB (vwC_o HM2.out.hl HM2.out.u3 HIU.out (j := 0) (x := z0) rfl)
          have cz1 := HM2.out.cellB (vwC_o HM2.out.hl HM2.out.u3 HIU.out (j := 1) (x := z1) rfl)
          have cz2 := HM2.out.cellB (vwC_o HM2.out.hl HM2.out.u3 HIU.out (j := 2) (x := z2) rfl)
          rw [Nat.add_zero] at cz0
          rw [← Nat.add_assoc] at cz1 cz2
          obtain ⟨lc, hlc⟩ : ∃ lc, lc = (L loc).2 := ⟨_, rfl⟩
          rw [← hlc] at c16
          have HLC := hid hlc
          obtain ⟨w1, hw1⟩ : ∃ w1, w1 = wr.setCell ⟨B, 19 + t * 3 + loc, none⟩ (.int .u8 (k : Int)) := ⟨_, rfl⟩
          have HW1 := hid hw1
          rw [← hw1] at HM2 c16 cz0 cz1 cz2 hgs HWL
          clear hlc hg hw1
          have hmok : ((bump loc k (U.getD t [])).set loc (k : Int)) = [z0, z1, z2] := by rw [HGD.out]; exact HZ.out
          obtain ⟨r, hr⟩ : ∃ r, r = (R1 loc).take k ++ [⟨val, false, [z0, z1, z2]⟩] ++ (R1 loc).drop k := ⟨_, rfl⟩
          have HR := hid hr
          have HRV := hid (HM2.out.v3 loc hloc)
          have HRR := hid (show r.length = N + 1 by rw [hr]; simp only [List.length_append, List.length_take, List.length_drop, List.length_singleton, HRL.out]; omega)
          have HRR3 := hid (show V3 r from fun x hx => by
            rw [hr] at hx
            rcases List.mem_append.1 hx with e | e
            · rcases List.mem_append.1 e with e | e
              · exact HRV.out x (List.mem_of_mem_take e)
              · rw [List.mem_singleton.1 e]; rfl
            · exact HRV.out x (List.mem_of_mem_drop e))
          have HFIN := hid (show ∀ l', l' < 3 → insR R U t loc k val l' = updR R1 loc r l' from fun l' hl' => by
            by_cases e : l' = loc
            · subst e
              rw [updR_same, hr]
              unfold insR
              rw [if_pos rfl, hmok, HRX.out]
            · rw [updR_ne R1 r e, HR1.out l' (by omega)]
              unfold insR
              rw [if_neg e])
          have hbw : Below w1.heap.size w1 (w1.drew.alloc (.cells (wcell ⟨val, false, [z0, z1, z2]⟩).toArray 114)) := (below_drewN 1 (Below.refl _ _)).alloc (Nat.le_refl _) _
          have HMX := hid (HM2.out.later hbw)
          have HINS := hid (insertW_c (w1.drew.alloc (.cells (wcell ⟨val, false, [z0, z1, z2]⟩).toArray 114)) base (some ⟨g, 0, none⟩) N lc k w1.drew.heap.size (R1 loc) ⟨val, false, [z0, z1, z2]⟩ (by
              have := HMX.out.row loc hloc
              rw [HRL.out, HGX.out, ← HLC.out] at this
              exact this) HRV.out HRL.out rfl hkN (by omega) HMX.out.sz (heap_alloc_new w1.drew _) (fun b hb => by
              have : g = b := by simpa [blk] using hb
              have e : w1.drew.heap.size = w1.heap.size := rfl
              omega))
          rw [← hr] at HINS
          clear hr hmok hbw
          obtain ⟨J, hJ⟩ : ∃ J : World → Prop, J = fun w' => w'.heap[B]? = w1.heap[B]? := ⟨_, rfl⟩
          have HJ := hid (fun w' (h : w'.heap[B]? = w1.heap[B]?) => show J w' by rw [hJ]; exact h)
          have HJB := hid (fun w' (h : J w') => show w'.heap[B]? = w1.heap[B]? by rw [hJ] at h; exact h)
          have HC := hid (fun w' (h : J w') => show w'.cell? ⟨B, 16 + loc, none⟩ = some (.slice (some ⟨g, 0, none⟩) N lc) ∧ w'.cell? ⟨B, 19 + t * 3, none⟩ = some (.int .u8 z0) ∧ w'.cell? ⟨B, 19 + t * 3 + 1, none⟩ = some (.int .u8 z1) ∧ w'.cell? ⟨B, 19 + t * 3 + 2, none⟩ = some (.int .u8 z2) from by
            rw [hJ] at h
            have e : ∀ j, w'.cell? ⟨B, j, none⟩ = w1.cell? ⟨B, j, none⟩ := fun j => by unfold World.cell?; rw [h]
            exact ⟨(e _).trans c16, (e _).trans cz0, (e _).trans cz1, (e _).trans cz2⟩)
          clear hJ cz0 cz1 cz2
          have hd1 : w1.drew.heap.size = w1.heap.size := rfl
          have hc16 := c16
          clear c16
          go_wp2_with fail
          rw [← HW1.out]
          refine FR.wp_region_free 23 (PutS w1 w1.drew B base N (some ⟨g, 0, none⟩) ⟨val, false, [z0, z1, z2]⟩ (wcells r)) (by kernel_rfl) (by kernel_rfl) (by kernel_rfl) (fun _ => undef) ⟨rfl, fun e => (by cases e), fun _ => rfl, fun e => (by cases e), fun e => (by cases e)⟩ fun V => ?_
          have HJI := hid (fun (S : Nat → Bool) (ρ : Nat → Value) w' (h : PutS w1 w1.drew B base N (some ⟨g, 0, none⟩) ⟨val, false, [z0, z1, z2]⟩ (wcells r) S ρ w') => HJ.out w' h.c)
          iterate 7 (refine FR.frGo_pure _ rfl (fun K hK => ?_); go_simp; (first | refine hK _ ?_ | refine ⟨_, fun W hW => rfl, hK _ ?_⟩ | refine ⟨_, fun W hW => ⟨rfl, rfl⟩, hK _ ?_⟩); clear hK K)
          (refine FR.frGo_held _ rfl J (fun S ρ w' h _ => HJI.out S ρ w' h) (fun K hK => ?_); go_simp; apply Exists.intro; refine And.intro (fun W hW => ?_) (hK _ ?_); (focus (have hcs := HC.out W hW; go_simp; try rfl)); clear hK K)
          iterate 8 (refine FR.frGo_pure _ rfl (fun K hK => ?_); go_simp; (first | refine hK _ ?_ | refine ⟨_, fun W hW => rfl, hK _ ?_⟩ | refine ⟨_, fun W hW => ⟨rfl, rfl⟩, hK _ ?_⟩); clear hK K)
          (refine FR.frGo_held _ rfl J (fun S ρ w' h _ => HJI.out S ρ w' h) (fun K hK => ?_); go_simp; apply Exists.intro; refine And.intro (fun W hW => ?_) (hK _ ?_); (focus (have hcs := HC.out W hW; go_simp; try rfl)); clear hK K)
          (refine FR.frGo_pure _ rfl (fun K hK => ?_); go_simp; (first | refine hK _ ?_ | refine ⟨_, fun W hW => rfl, hK _ ?_⟩ | refine ⟨_, fun W hW => ⟨rfl, rfl⟩, hK _ ?_⟩); clear hK K)
          refine FR.frGo_act (k := 18) _ rfl (fun S ρ w' hI hS hp K hK => ?_) ?_
          · obtain rfl := hI.p0 hS
            have h9 : S 19 = false := by cases e : S 19 with | false => rfl | true => (have := hI.o e; rw [hS] at this; cases this)
            go_simp
            refine hK _ _ ⟨heap_alloc_old _ _ (by show B < w1.heap.size; exact HWL.out), fun e => (by rw [FR.upd_ne _ _ (by decide), h9] at e; cases e), fun e => (by rw [FR.upd_same] at e; cases e), fun _ _ => ⟨by rw [FR.upd_same]; rfl, rfl⟩, fun e => (by rw [FR.upd_ne _ _ (by decide), h9] at e; cases e)⟩
          refine FR.frGo_act (k := 19) _ rfl (fun S ρ w' hI hS hp K hK => ?_) ?_
          · have hp8 := hp 18 (by kernel_rfl)
            obtain ⟨e8, rfl⟩ := hI.p1 hp8.1 hS
            have ev := hp8.2.symm.trans e8
            rw [ev] at hK ⊢
            go_simp
            have hkw : IntKind.i64.wrap (k : Int) = (k : Int) := IntWalk.i64_in _ (by omega)
            rw [hkw] at hK ⊢
            refine HINS.out.mono ?_
            rintro e w'' ⟨a', c', rfl, ho', hk', hn'⟩
            have hB'' : w''.heap[B]? = w1.heap[B]? := (hk'.block B (by show B < (w1.drew.alloc _).heap.size; rw [World.size_alloc]; have := HWL.out; omega) (fun e => by
              have : g = B := by simpa [blk] using e
              exact hgB this)).trans (heap_alloc_old _ _ (by show B < w1.heap.size; exact HWL.out))
            exact hK _ _ ⟨hB'', fun _ => (by rw [FR.upd_ne _ _ (by decide)]; exact hp8.1), fun e => (by rw [FR.upd_ne _ _ (by decide), hp8.1] at e; cases e), fun _ e => (by rw [FR.upd_same] at e; cases e), fun _ => (by rw [FR.upd_same]; exact ⟨a', c', rfl, ho', hk', hn'⟩)⟩
          iterate 3 (refine FR.frGo_pure _ rfl (fun K hK => ?_); go_simp; (first | refine hK _ ?_ | refine ⟨_, fun W hW => rfl, hK _ ?_⟩ | refine ⟨_, fun W hW => ⟨rfl, rfl⟩, hK _ ?_⟩); clear hK K)
          refine FR.frGo_nil _ ?_
          intro S ρ w6 hI hS
          have z9 := hS 19 (by decide) (by kernel_rfl)
          obtain ⟨a', c', e9, ho', hk', hn'⟩ := hI.p2 z9.1
          rw [z9.2] at e9
          have e9 := Ending.returned.inj e9
          rw [e9]
          have HB6 := hid hI.c
          have c6 : w6.cell? ⟨B, 16 + loc, none⟩ = some (.slice (some ⟨g, 0, none⟩) N lc) := by
            have e : w6.cell? ⟨B, 16 + loc, none⟩ = w1.cell? ⟨B, 16 + loc, none⟩ := by unfold World.cell?; rw [HB6.out]
            exact e.trans hc16
          have f6 : w6.frozen? ⟨B, 16 + loc, none⟩ = false := by
            have e : w6.frozen? ⟨B, 16 + loc, none⟩ = w1.frozen? ⟨B, 16 + loc, none⟩ := by unfold World.frozen?; rw [HB6.out]
            exact e.trans (HM2.out.freeB _)
          have HFM := hid (show MidW S0 w0 (w6.setCell ⟨B, 16 + loc, none⟩ (.slice a' (N + 1) c')) base B hd (setL5 L loc (a', c')) (insR R U t loc k val) (insU U t loc k) from by
            have h := HMX.out.setl hloc (w' := w6) (a := a') (c := c') (r := r) (by rw [HGX.out]; exact hk') (by rw [HRR.out]; exact ho') HRR3.out (fun b hb => by rw [HGX.out]; exact hn' b hb)
            rw [HRR.out, HU2.out] at h
            exact h.congr HFIN.out)
          clear hI hS z9 e9 ho' hk' hn' HJ HJB HC HJI HINS
          simp only [List.drop_succ_cons, List.drop_zero]
          (with_reducible refine wpMix_act (o := ⟨_, .store _ _ _, _, _, _, _⟩) rfl rfl (fun K hK => ?_))
          go_simp
          refine hK _ _ ?_
          clear hK K
          (with_reducible refine wpMix_nil ?_)
          go_wp2_with fail
          refine bodyPost_end (v := .tuple #[]) (by simp [results, Try.results138, go_sem]) rfl ⟨rfl, _, HFM.out⟩
end Go.Proofs.Ythlmfjoiicnomaa
