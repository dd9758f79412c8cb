/-
  PROVED HERE: parts of programs that can be read: the first threads, one thread, a copy with one thread put anew. CONDITIONS: as each lemma states.
-/
import Derived.Test.YtmeoclkngjboiaaDoorDrp
import Derived.Test.YtmeoclkngjboiaaDoorFab
import Derived.Test.YtmeoclkngjboiaaDoorQui
import Derived.Test.YtmeoclkngjboiaaDoorTxi
namespace Go.Proofs.YtmeoclkngjboiaaDoor
open Go.RowKit
set_option linter.unusedVariables false
set_option linter.unusedSimpArgs false

theorem Rd.part {w : World} {a : Option Addr} {cs : List Value} (h : Rd w a cs) (k : Nat) : Rd w a (cs.take k) := by
  rcases h with h | ⟨b, off, rfl, hlt, hc⟩
  · exact .inl (by rw [h]; simp)
  · refine .inr ⟨b, off, rfl, hlt, fun j u hj => hc j u ?_⟩
    rw [List.getElem?_take] at hj
    split at hj
    · exact hj
    · cases hj
theorem rowsV_take (rs : List (Option Addr × Nat)) (p : Prg) (k : Nat) : rowsV (rs.take k) (p.take k) = (rowsV rs p).take k := by
  unfold rowsV
  rw [List.take_zipWith]
theorem rowsV_one (rs : List (Option Addr × Nat)) (p : Prg) : ∀ u ∈ rowsV rs p, u.oneCell' = true := by
  intro u hu
  unfold rowsV at hu
  obtain ⟨k, hk⟩ := List.mem_iff_getElem?.1 hu
  rw [List.getElem?_zipWith] at hk
  split at hk
  · cases hk; rfl
  · cases hk
theorem RdP.take {w : World} {a : Option Addr} {p : Prg} (h : RdP w a p) (k : Nat) : RdP w a (p.take k) := by
  obtain ⟨rs, hl, ho, hi⟩ := h
  refine ⟨rs.take k, by rw [List.length_take, List.length_take, hl], by rw [rowsV_take]; exact ho.part k, fun j r xs h1 h2 => ?_⟩
  rw [List.getElem?_take] at h1 h2
  split at h1
  · rename_i hj
    rw [if_pos hj] at h2
    exact hi j r xs h1 h2
  · cases h1
theorem sizeP_take (p : Prg) (k : Nat) : sizeP (p.take k) ≤ sizeP p := by
  have h1 := sumTo_le p k
  have h2 : (p.take k).length ≤ p.length := by rw [List.length_take]; omega
  unfold sumTo at h1
  unfold sizeP
  omega
/-- One thread of a program, as a program. -/
theorem RdP.row1 {w : World} {b off i : Nat} {p : Prg} {xs : List Ins} (h : RdP w (some ⟨b, off, none⟩) p) (hi : p[i]? = some xs) : RdP w (some ⟨b, off + i, none⟩) [xs] := by
  obtain ⟨rs, hl, ho, hr⟩ := h
  have hip := (List.getElem?_eq_some_iff.1 hi).1
  obtain ⟨r, hrr⟩ : ∃ r, rs[i]? = some r := ⟨_, List.getElem?_eq_getElem (by omega)⟩
  refine ⟨[r], rfl, ?_, fun k s ys h1 h2 => ?_⟩
  · rcases ho with ho | ⟨b', off', hb, hlt, hc⟩
    · have : p.length = 0 := by rw [← length_rowsV hl, ho]; rfl
      omega
    · cases hb
      refine .inr ⟨b, off + i, rfl, hlt, fun j u hj => ?_⟩
      match j, hj with
      | 0, hj =>
        simp [rowsV] at hj
        subst hj
        exact hc i _ (rowsV_get hrr hi)
      | j + 1, hj => simp [rowsV] at hj
  · match k, h1, h2 with
    | 0, h1, h2 =>
      simp only [List.getElem?_cons_zero, Option.some.injEq] at h1 h2
      subst h1 h2
      exact hr i r xs hrr hi
    | k + 1, h1, h2 => simp at h1
/-- A copy of the outer row, in which the first thread has been put anew. -/
theorem RdP.copySet {w0 w : World} {base : Nat} {p : Prg} {xs ys : List Ins} {rs : List (Option Addr × Nat)} {G c : Nat} {r : Option Addr} {rc : Nat} (hl : rs.length = p.length) (hi : ∀ (k : Nat) r xs, rs[k]? = some r → p[k]? = some xs → Rd w0 r.1 (insV xs) ∧ xs.length ≤ r.2) (hb : Below w0.heap.size w0 w)
    (ho : w.ownsRow base 44 1 (.slice (some ⟨G, 0, none⟩) p.length c) p.length (rowsV rs p)) (hG : w0.heap.size ≤ G) (h0 : 0 < p.length) (hr : Rd (w.setCell ⟨G, 0, none⟩ (.slice r ys.length rc)) r (insV ys)) (hrc : ys.length ≤ rc) :
    RdP (w.setCell ⟨G, 0, none⟩ (.slice r ys.length rc)) (some ⟨G, 0, none⟩) (p.set 0 ys) := by
  have hbs : Below w0.heap.size w0 (w.setCell ⟨G, 0, none⟩ (.slice r ys.length rc)) := hb.setCell hG _
  refine ⟨rs.set 0 (r, rc), by simp [hl], ?_, fun k s zs h1 h2 => ?_⟩
  · have := (ho.stored 0 (.slice r ys.length rc)).1
    rw [rowsV_set hl 0 (r, rc) ys] at this
    exact Rd.own (n := (p.set 0 ys).length) (by simpa using this)
  · by_cases hk : k = 0
    · subst hk
      rw [List.getElem?_set_self (by omega)] at h1 h2
      cases h1
      cases h2
      exact ⟨hr, hrc⟩
    · rw [List.getElem?_set_ne (by omega)] at h1 h2
      obtain ⟨q1, q2⟩ := hi k s zs h1 h2
      exact ⟨q1.below hbs, q2⟩
theorem sizeP_set0 {p : Prg} {xs : List Ins} (y : Ins) (h : p[0]? = some xs) : sizeP (p.set 0 (xs ++ [y])) = sizeP p + 1 := sizeP_set y h
end Go.Proofs.YtmeoclkngjboiaaDoor
