/-
  PROVED HERE: plain facts on the rows of a state in the middle of a step. CONDITIONS: as each theorem states.
-/
import Derived.Test.YthlmfjoiicnomaaVi
namespace Go.Proofs.Ythlmfjoiicnomaa
open Go.RowKit
set_option linter.unusedVariables false
set_option linter.unusedSimpArgs false

theorem up5_ct {s : Vs} {t j : Nat} (hj : s.st.pc[t]? = some (j : Int)) : CtEq ((ct s).setX (0, 0) (s.st.pc.set t ((j : Int) + 1))) (ct (up5 s t)) := by
  refine ⟨rfl, rfl, fun l hl => rfl, fun ix hx => ?_, fun l k hl hk => ⟨rfl, rfl⟩⟩
  by_cases h : ix = (0, 0)
  · subst h
    rw [setX_get]
    show s.st.pc.set t (s.st.pc.getD t 0 + 1) = _
    rw [List.getD_eq_getElem?_getD, hj]
    rfl
  · rw [setX_ne _ _ _ h]
    match ix, h with
    | (0, 0), h => exact absurd rfl h
    | (0, b + 1), _ => rfl
    | (1, b), _ => rfl
    | (a + 2, b), _ => rfl
theorem read5_ct {s : Vs} {t r i : Nat} {m : Ms} (hi : i = t * 3 + r) (ht : t < s.view.length) : CtEq (((ct s).setX (0, 1) (s.st.regs.set i m.val)).setX (1, t) (join5 (vw s t) m.view)) (ct (read5 s t r m)) := by
  subst hi
  refine ⟨by show (s.view.set t _).length = s.view.length; simp, rfl, fun l hl => rfl, fun ix hx => ?_, fun l k hl hk => ⟨rfl, rfl⟩⟩
  by_cases h : ix = (1, t)
  · subst h
    rw [setX_get]
    show vw (read5 s t r m) t = _
    refine vw_of ?_
    show (s.view.set t _)[t]? = _
    rw [List.getElem?_set_self ht]
  · rw [setX_ne _ _ _ h]
    by_cases h' : ix = (0, 1)
    · subst h'
      rw [setX_get]
      rfl
    · rw [setX_ne _ _ _ h']
      match ix, h, h', hx with
      | (0, 0), _, _, _ => rfl
      | (0, 1), _, h', _ => exact absurd rfl h'
      | (0, b + 2), _, _, hx =>
        rcases hx with ⟨_, h2⟩ | ⟨h1, _⟩ | ⟨h1, _⟩
        · exact absurd h2 (by simp)
        · exact absurd h1 (by simp)
        · exact absurd h1 (by simp)
      | (1, b), h, _, _ =>
        have hb : t ≠ b := fun e => h (by rw [e])
        show vw (read5 s t r m) b = vw s b
        unfold vw
        show (s.view.set t _).getD b [] = _
        rw [List.getD_eq_getElem?_getD, List.getElem?_set_ne hb, List.getD_eq_getElem?_getD]
      | (a + 2, b), _, _, _ => rfl
theorem lock5_get {s : Vs} {l k : Nat} (hl : l < s.list.length) (hk : k < (row5 s l).length) (l' k' : Nat) : (row5 (lock5 s l k) l').getD k' msZ = if l' = l ∧ k' = k then { (row5 s l).getD k msZ with lock := true } else (row5 s l').getD k' msZ := by
  unfold lock5
  rw [row5_set hl]
  by_cases e : l = l'
  · subst e
    rw [if_pos rfl]
    by_cases e' : k' = k
    · subst e'
      rw [if_pos ⟨rfl, rfl⟩, List.getD_eq_getElem?_getD, List.getElem?_set_self hk]
      rfl
    · rw [if_neg (fun h => e' h.2), List.getD_eq_getElem?_getD, List.getElem?_set_ne (fun h => e' h.symm), List.getD_eq_getElem?_getD]
  · rw [if_neg e, if_neg (fun h => e h.1.symm)]
theorem lock5_row {s : Vs} {l k : Nat} (hl : l < s.list.length) (l' : Nat) : (row5 (lock5 s l k) l').length = (row5 s l').length := by
  unfold lock5
  rw [row5_set hl]
  split
  · rename_i e
    subst e
    rw [List.length_set]
  · rfl
theorem lock5_ct {s : Vs} {l k : Nat} (hl : l < s.list.length) (hk : k < (row5 s l).length) : CtEq ((ct s).setLK l k) (ct (lock5 s l k)) := by
  refine ⟨rfl, by show (s.list.set l _).length = s.list.length; simp, fun l' hl' => lock5_row hl l', fun ix hx => ?_, fun l' k' hl' hk' => ⟨?_, ?_⟩⟩
  · match ix, hx with
    | (0, 0), _ => rfl
    | (0, b + 1), _ => rfl
    | (1, b), _ => rfl
    | (a + 2, b), _ =>
      show ((row5 (lock5 s l k) a).getD b msZ).view = ((row5 s a).getD b msZ).view
      rw [lock5_get hl hk]
      split
      · rename_i e
        rw [e.1, e.2]
      · rfl
  · show ((row5 (lock5 s l k) l').getD k' msZ).val = ((row5 s l').getD k' msZ).val
    rw [lock5_get hl hk]
    split
    · rename_i e
      rw [e.1, e.2]
    · rfl
  · show ((row5 (lock5 s l k) l').getD k' msZ).lock = if l' = l ∧ k' = k then true else ((row5 s l').getD k' msZ).lock
    rw [lock5_get hl hk]
    split
    · rfl
    · rfl
theorem VwOk.at' {s : Vs} {v : List Int} (h : VwOk s v) {l : Nat} (hl : l < 3) (hr : (row5 s l).length ≤ 1000) : ∃ x, v[l]? = some x ∧ 0 ≤ x ∧ x ≤ 1000 := by
  obtain ⟨k, h1, h2⟩ := h.2 l hl
  exact ⟨k, h1, by omega, by omega⟩
theorem Pre5.insOk {p : Prg} {s : Vs} {loc k t : Nat} (h : Pre5 p s loc k) (hv : Shape p) (ht : t < p.length) (hl : loc < 3) (hk : k ≤ (row5 s loc).length) : InsOk s t loc k := by
  have hrow : ∀ l, l < 3 → s.list[l]? = some (row5 s l) := fun l hl3 => by
    have : l < s.list.length := by rw [h.ll]; exact hl3
    rw [List.getElem?_eq_getElem this, row5_of (List.getElem?_eq_getElem this)]
  have hlen : ∀ l, l < 3 → (row5 s l).length ≤ 24 := fun l hl3 => by
    have h1 := sum_mem_le (List.mem_map.2 ⟨_, List.mem_of_getElem? (hrow l hl3), rfl⟩ : (row5 s l).length ∈ s.list.map List.length)
    have h2 := h.cnt
    have h3 := pcsum_le h.good hv
    omega
  refine ⟨h.ll, by rw [h.vl]; exact ht, by rw [h.vl]; exact hv.len, hl, hk, fun l hl3 => ⟨(h.lst l hl3).1, by have := hlen l hl3; omega⟩, fun i hi => ?_, fun l j hl3 hj => ?_⟩
  · refine VwOk.at' (h.vok _ ?_) hl (by have := hlen loc hl; omega)
    rw [vw_of (List.getElem?_eq_getElem hi)]
    exact List.getElem_mem _
  · refine VwOk.at' (h.mok _ (List.mem_of_getElem? (hrow l hl3)) _ ?_).2 hl (by have := hlen loc hl; omega)
    rw [List.getD_eq_getElem?_getD, List.getElem?_eq_getElem hj]
    exact List.getElem_mem _
end Go.Proofs.Ythlmfjoiicnomaa
