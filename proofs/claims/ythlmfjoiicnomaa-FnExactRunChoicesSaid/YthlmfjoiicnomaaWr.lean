/-
  PROVED HERE: plain facts on a step of a state with views, as the program does it. CONDITIONS: as each theorem states.
-/
import Derived.Test.YthlmfjoiicnomaaWq
namespace Go.Proofs.Ythlmfjoiicnomaa
open Go.RowKit
set_option linter.unusedVariables false
set_option linter.unusedSimpArgs false

theorem padV_getD {p : Prg} {s : Vs} (hl : s.view.length = p.length) {t : Nat} (ht : t < p.length) : (padV s.view).getD t [] = vw s t := by
  obtain ⟨v, hv⟩ : ∃ v, s.view[t]? = some v := ⟨_, List.getElem?_eq_getElem (by omega)⟩
  rw [List.getD_eq_getElem?_getD, padV_get hv, vw_of hv]
  rfl
theorem row5_mapM {s : Vs} {st : St} {vv : List (List Int)} {loc k : Nat} (l : Nat) : row5 ⟨st, vv, s.list.map (List.map (bumpM loc k))⟩ l = (row5 s l).map (bumpM loc k) := by
  unfold row5
  rw [List.getD_eq_getElem?_getD, List.getD_eq_getElem?_getD]
  dsimp only
  rw [List.getElem?_map]
  cases s.list[l]? <;> rfl
theorem row5_insR {p : Prg} {s : Vs} (hll : s.list.length = 3) (hvl : s.view.length = p.length) {t loc k : Nat} {val : Int} (ht : t < p.length) (hl : loc < 3) (l : Nat) : row5 (ins5 s t loc k val) l = insR (row5 s) (padV s.view) t loc k val l := by
  unfold ins5 insR
  have := row5_set (s := ⟨s.st, s.view, s.list.map (List.map (bumpM loc k))⟩) (l := loc) (c := l) (r := ((row5 s loc).map (bumpM loc k)).take k ++ [⟨val, false, (bump loc k (vw s t)).set loc (k : Int)⟩] ++ ((row5 s loc).map (bumpM loc k)).drop k) (st := s.st) (vv := (s.view.map (bump loc k)).set t ((bump loc k (vw s t)).set loc (k : Int))) (by rw [List.length_map, hll]; exact hl)
  rw [this, padV_getD hvl ht, row5_mapM]
  by_cases e : loc = l
  · rw [if_pos e, if_pos e.symm]
  · rw [if_neg e, if_neg (fun e' => e e'.symm)]
theorem view_insU {p : Prg} {s : Vs} (hvl : s.view.length = p.length) {t loc k : Nat} {val : Int} (ht : t < p.length) (hk : 1 ≤ k) : insU (padV s.view) t loc k = padV (ins5 s t loc k val).view := by
  unfold insU ins5
  rw [padV_getD hvl ht, padV_bump hk, padV_set _ (by rw [List.length_map, hvl]; exact ht)]
theorem row5_lock {s : Vs} (hll : s.list.length = 3) {loc k : Nat} (hl : loc < 3) (l : Nat) : row5 (lock5 s loc k) l = if loc = l then (row5 s loc).set k { (row5 s loc).getD k msZ with lock := true } else row5 s l := by
  unfold lock5
  exact row5_set (s := s) (st := s.st) (vv := s.view) (by rw [hll]; exact hl)
theorem insR_lock {R : Nat → List Ms} {U : List (List Int)} {t loc k : Nat} {val : Int} {r : List Ms} (hr : R loc = r) {m : Ms} (hm : r[k]? = some m) (l : Nat) :
    insR (fun l => if loc = l then r.set k { m with lock := true } else R l) U t loc (k + 1) val l = updR (insR R U t loc (k + 1) val) loc ((insR R U t loc (k + 1) val loc).set k { bumpM loc (k + 1) m with lock := true }) l := by
  have hk := (List.getElem?_eq_some_iff.1 hm).1
  by_cases e : l = loc
  · subst e
    rw [updR_same]
    unfold insR
    rw [if_pos rfl, if_pos rfl]
    dsimp only
    rw [if_pos rfl, hr]
    have e1 : (r.set k { m with lock := true }).map (bumpM l (k + 1)) = (r.map (bumpM l (k + 1))).set k { bumpM l (k + 1) m with lock := true } := by
      rw [List.map_set]; rfl
    rw [e1, List.append_assoc, List.append_assoc, List.set_append_left _ _ (by simp; omega), ← List.take_set, List.drop_set_of_lt (by omega)]
  · rw [updR_ne _ _ e]
    unfold insR
    rw [if_neg e, if_neg e]
    dsimp only
    rw [if_neg (fun e' => e e'.symm)]
theorem insR_at {R : Nat → List Ms} {U : List (List Int)} {t loc k : Nat} {val : Int} {m : Ms} (hm : (R loc)[k]? = some m) : (insR R U t loc (k + 1) val loc)[k]? = some (bumpM loc (k + 1) m) := by
  have hk := (List.getElem?_eq_some_iff.1 hm).1
  unfold insR
  rw [if_pos rfl, List.append_assoc, List.getElem?_append_left (by simp; omega), List.getElem?_take_of_lt (by omega), List.getElem?_map, hm]
  rfl
theorem insR_len {R : Nat → List Ms} {U : List (List Int)} {t loc k : Nat} {val : Int} (l : Nat) : (insR R U t loc k val l).length = (R l).length + if l = loc then 1 else 0 := by
  unfold insR
  by_cases e : l = loc
  · subst e
    rw [if_pos rfl, if_pos rfl]
    simp only [List.length_append, List.length_take, List.length_drop, List.length_map, List.length_singleton]
    omega
  · rw [if_neg e, if_neg e, List.length_map]; rfl
theorem MidW.neOth {S : Nat → Prop} {w0 w : World} {base B : Nat} {hd : List Value} {L : Nat → Option Addr × Nat} {R : Nat → List Ms} {U : List (List Int)} (h : MidW S w0 w base B hd L R U) {b : Nat} {cs : Array Value} {T : TypeId} {fr : Nat × Nat} (hb : w.heap[b]? = some (.cells cs T fr)) (h1 : T ≠ 114) (h2 : T ≠ 112) : ¬ MidS B L b := by
  rintro (rfl | ⟨l, hl, e⟩)
  · rw [h.cur] at hb
    simp only [Option.some.injEq, Obj.cells.injEq] at hb
    exact h2 hb.2.1.symm
  · rcases (h.row l hl).2 with ⟨hv, _⟩ | ⟨g, c, cur, hv, _, hg, _⟩
    · simp only [Value.slice.injEq] at hv
      rw [hv.1] at e
      cases e
    · simp only [Value.slice.injEq] at hv
      rw [hv.1] at e
      have : g = b := by simpa [blk] using e
      subst this
      rw [hg] at hb
      simp only [Option.some.injEq, Obj.cells.injEq] at hb
      exact h1 hb.2.1.symm
theorem join_bd {x y : List Int} {b : Int} (hx : ∀ v ∈ x, 0 ≤ v ∧ v ≤ b) (hy : ∀ v ∈ y, 0 ≤ v ∧ v ≤ b) : ∀ v ∈ join5 x y, 0 ≤ v ∧ v ≤ b := by
  intro v hv
  unfold join5 at hv
  obtain ⟨i, hi⟩ := List.mem_iff_getElem?.1 hv
  rw [List.getElem?_zipWith] at hi
  split at hi
  · rename_i a c h1 h2
    have e := Option.some.inj hi
    have := hx a (List.mem_of_getElem? h1)
    have := hy c (List.mem_of_getElem? h2)
    omega
  · cases hi
theorem Good5.pad_bd {p : Prg} {s : Vs} (h : Good5 p s) (hv : Shape p) : ∀ v ∈ padV s.view, ∀ x ∈ v, 0 ≤ x ∧ x ≤ 100 := fun v hm x hx => by
  unfold padV at hm
  rcases List.mem_append.1 hm with e | e
  · have := (h.vok v e).bd h hv x hx; omega
  · rw [(List.mem_replicate.1 e).2] at hx
    simp at hx
    omega
theorem Good5.row_bd {p : Prg} {s : Vs} (h : Good5 p s) (hv : Shape p) : ∀ l, l < 3 → (row5 s l).length ≤ 90 ∧ ∀ m ∈ row5 s l, ∀ x ∈ m.view, 0 ≤ x ∧ x ≤ 100 := fun l hl => ⟨by have := h.rowlen hv hl; omega, fun m hm x hx => by
  have := (h.mok _ (List.mem_of_getElem? (h.row hl)) m hm).2.bd h hv x hx; omega⟩
end Go.Proofs.Ythlmfjoiicnomaa
