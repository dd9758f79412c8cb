/-
  PROVED HERE: plain facts on schedules: a thread has gone as far as it stands in the schedule; rows of numbers from which one is taken. CONDITIONS: as each lemma states.
-/
import Derived.Test.YtppocbkbkiokdaaRet
namespace Go.Proofs.Ytppocbkbkiokdaa
open Go.RowKit
set_option linter.unusedVariables false
set_option linter.unusedSimpArgs false

theorem getD_set' {xs : List Int} {t c : Nat} {v : Int} (ht : t < xs.length) : (xs.set t v).getD c 0 = if t = c then v else xs.getD c 0 := by
  simp only [List.getD_eq_getElem?_getD, List.getElem?_set]
  split
  · rename_i e
    subst e
    first | rfl | (rw [if_pos ht]; rfl)
  · rfl
theorem pc_count {p : Prg} (hv : Shape p) {t : Nat} : ∀ (ms : List Int) (s s' : St), Good p s → follow (moves3 p) (fun s m => do3 p s m.toNat) s ms = some s' → s'.pc.getD t 0 = s.pc.getD t 0 + (ms.count (t : Int) : Nat)
  | [], s, s', h, e => by simp [follow] at e; rw [← e]; simp
  | m :: ms, s, s', h, e => by
    simp only [follow] at e
    split at e
    · rename_i hm
      have hg := seq_good hv s m h hm
      obtain ⟨k, rfl, hk, hgo⟩ := (mem_moves3 m).1 hm
      rw [pc_count hv ms _ _ hg e, List.count_cons]
      show (s.pc.set ((k : Int)).toNat (s.pc.getD ((k : Int)).toNat 0 + 1)).getD t 0 + _ = _
      rw [Int.toNat_natCast, getD_set' (by rw [h.pcl]; exact hk)]
      by_cases hkt : k = t
      · subst hkt
        simp
        omega
      · have : ¬ ((k : Int) = (t : Int)) := by omega
        rw [if_neg hkt]
        simp [this]
    · cases e
/-- A schedule that leads to an outcome has each thread as often as it has instructions. -/
theorem sch_count {p : Prg} {ms : List Int} (h : (runSch p ms).2 = true) {t : Nat} {xs : List Ins} (hx : p[t]? = some xs) : ms.count (t : Int) = xs.length := by
  unfold runSch at h
  split at h
  · rename_i hv
    have hsh := (valid_of hv).toShape
    unfold runRes at h
    split at h
    · rename_i s hs
      split at h
      · rename_i hd
        have hg := follow_good (seq_good hsh) _ _ _ (good_start p 0) hs
        have hc := pc_count hsh (t := t) ms _ _ (good_start p 0) hs
        have htp := (List.getElem?_eq_some_iff.1 hx).1
        have e0 : (start3 p 0).pc.getD t 0 = 0 := by
          simp only [start3, List.getD_eq_getElem?_getD, List.getElem?_replicate]
          split <;> rfl
        obtain ⟨k, hk, hkl⟩ := hg.pcb t xs hx
        unfold done3 at hd
        rw [List.all_eq_true] at hd
        have hd := hd t (List.mem_range.2 htp)
        rw [goes_of hx hk] at hd
        simp at hd
        rw [List.getD_eq_getElem?_getD, hk, e0] at hc
        simp at hc
        omega
      · cases h
    · cases h
  · cases h
theorem count_take {ms : List Int} {k : Nat} {x t : Int} (h : ms[k]? = some x) : (ms.take (k + 1)).count t = (ms.take k).count t + if x = t then 1 else 0 := by
  rw [take_snoc h, List.count_append, List.count_singleton]
  by_cases hx : x = t
  · simp [hx]
  · simp [hx]

/-- One is taken from a place that is not empty: the sum. -/
theorem sum_dec : ∀ {xs : List Int} {t : Nat} {v : Int}, xs[t]? = some v → (xs.set t (v - 1)).sum = xs.sum - 1
  | x :: xs, 0, v, h => by simp at h; subst h; simp; omega
  | x :: xs, t + 1, v, h => by
    simp at h
    have := sum_dec h
    simp [this]
    omega
theorem sum_zero : ∀ {xs : List Int}, (∀ x ∈ xs, x = 0) → xs.sum = 0
  | [], _ => rfl
  | x :: xs, h => by
    rw [List.sum_cons, h x List.mem_cons_self, sum_zero fun y hy => h y (List.mem_cons_of_mem _ hy)]
    rfl
theorem pos_some {xs : List Int} (h : xs.sum ≠ 0) : ∃ j : Nat, j < xs.length ∧ xs.getD j 0 ≠ 0 := by
  by_cases h0 : ∃ x ∈ xs, x ≠ 0
  · obtain ⟨x, hx, hn⟩ := h0
    obtain ⟨j, hj, rfl⟩ := List.mem_iff_getElem.1 hx
    exact ⟨j, hj, by rw [List.getD_eq_getElem?_getD, List.getElem?_eq_getElem hj]; exact hn⟩
  · exact absurd (sum_zero fun x hx => by
      by_cases hx0 : x = 0
      · exact hx0
      · exact absurd ⟨x, hx, hx0⟩ h0) h
end Go.Proofs.Ytppocbkbkiokdaa
