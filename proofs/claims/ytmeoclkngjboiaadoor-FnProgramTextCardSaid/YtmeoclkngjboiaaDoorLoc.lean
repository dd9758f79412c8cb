/-
  PROVED HERE: the plain law of sorted lists of 0, 1, 2; what slices.Sort and Compact leave behind. CONDITIONS: as each theorem states.
-/
import Derived.Test.YtmeoclkngjboiaaDoorShs
import Derived.Lib.RowBridge
import Derived.Test.YtmeoclkngjboiaaDoorVav
import Derived.Test.YtmeoclkngjboiaaDoorApp
namespace Go.Proofs.YtmeoclkngjboiaaDoor
open Go.RowKit Go.Sort
set_option linter.unusedVariables false
set_option linter.unusedSimpArgs false

def threes (a b c : Nat) : List Int := List.replicate a 0 ++ List.replicate b 1 ++ List.replicate c 2
def smalls (a b c : Nat) : List Int := (if 0 < a then [0] else []) ++ (if 0 < b then [1] else []) ++ (if 0 < c then [2] else [])
theorem threes_get (a b c m : Nat) (h : m < a + b + c) : (threes a b c)[m]? = some (if m < a then 0 else if m < a + b then 1 else 2) := by
  unfold threes
  rw [List.append_assoc]
  by_cases h1 : m < a
  · rw [List.getElem?_append_left (by simpa using h1), List.getElem?_replicate, if_pos h1, if_pos h1]
  · rw [List.getElem?_append_right (by simp; omega), List.length_replicate, if_neg h1]
    by_cases h2 : m < a + b
    · rw [List.getElem?_append_left (by simp; omega), List.getElem?_replicate, if_pos (by omega), if_pos h2]
    · rw [List.getElem?_append_right (by simp; omega), List.length_replicate, List.getElem?_replicate, if_pos (by omega), if_neg h2]
theorem threes_at (a b c m : Nat) (h : m < a + b + c) : (threes a b c).toArray[m]! = if m < a then 0 else if m < a + b then 1 else 2 := by
  rw [getElem!_def, List.getElem?_toArray, threes_get a b c m h]
theorem compact_to (a b c : Nat) : ∀ m, m ≤ a + b + c → Lib.compactUpTo (threes a b c).toArray m = smalls (min a m) (min b (m - a)) (min c (m - a - b))
  | 0, _ => by simp [Lib.compactUpTo, smalls]
  | m + 1, hm => by
    rw [Lib.compactUpTo_succ, compact_to a b c m (by omega)]
    have v := threes_at a b c m (by omega)
    by_cases h0 : m = 0
    · subst h0
      rw [Lib.keeps_lt_one _ 0 (by omega), if_pos rfl, v]
      unfold smalls
      by_cases ha : 0 < a
      · simp [ha, show min a 1 = 1 by omega, show 1 - a = 0 by omega]
      · have a0 : a = 0 := by omega
        subst a0
        by_cases hb : 0 < b
        · simp [hb, show min b 1 = 1 by omega, show 1 - b = 0 by omega]
        · have b0 : b = 0 := by omega
          subst b0
          simp [show min c 1 = 1 by omega]
    · have u := threes_at a b c (m - 1) (by omega)
      by_cases hk : m = a ∨ m = a + b
      · by_cases hd : (threes a b c).toArray[m]! = (threes a b c).toArray[m - 1]!
        · rw [v, u] at hd
          exfalso
          split at hd <;> split at hd <;> (try split at hd) <;> (try split at hd) <;> first | omega | cases hd
        · rw [Lib.keeps_pos hd, if_pos rfl]
          rcases hk with e | e
          · by_cases hb : 0 < b
            · rw [if_neg (by omega), if_pos (by omega)] at v
              rw [v]
              unfold smalls
              simp [show min a m = a by omega, show min a (m + 1) = a by omega, show m - a = 0 by omega, show 0 < a by omega, show m + 1 - a = 1 by omega, show min b 1 = 1 by omega, show 1 - b = 0 by omega]
            · rw [if_neg (by omega), if_neg (by omega)] at v
              rw [v]
              unfold smalls
              simp [show min a m = a by omega, show min a (m + 1) = a by omega, show m - a = 0 by omega, show 0 < a by omega, show b = 0 by omega, show m + 1 - a = 1 by omega, show min c 1 = 1 by omega]
          · rw [if_neg (by omega), if_neg (by omega)] at v
            rw [v]
            unfold smalls
            have q0 : (0 < min a m) ↔ (0 < a) := by omega
            have q1 : (0 < min b (m - a)) ↔ (0 < b) := by omega
            have q2 : ¬ (0 < min c (m - a - b)) := by omega
            have r0 : (0 < min a (m + 1)) ↔ (0 < a) := by omega
            have r1 : (0 < min b (m + 1 - a)) ↔ (0 < b) := by omega
            have r2 : (0 < min c (m + 1 - a - b)) := by omega
            rw [if_neg q2, if_pos r2, List.append_nil]
            simp only [q0, q1, r0, r1]
      · have hd : (threes a b c).toArray[m]! = (threes a b c).toArray[m - 1]! := by
          rw [v, u]
          by_cases h1 : m < a
          · rw [if_pos h1, if_pos (by omega)]
          · by_cases h2 : m < a + b
            · rw [if_neg h1, if_pos h2, if_neg (by omega), if_pos (by omega)]
            · rw [if_neg h1, if_neg h2, if_neg (by omega), if_neg (by omega)]
        rw [Lib.keeps_neg (by omega) hd, if_neg (by simp), List.append_nil]
        unfold smalls
        have q0 : (0 < min a m) ↔ (0 < min a (m + 1)) := by omega
        have q1 : (0 < min b (m - a)) ↔ (0 < min b (m + 1 - a)) := by omega
        have q2 : (0 < min c (m - a - b)) ↔ (0 < min c (m + 1 - a - b)) := by omega
        simp only [q0, q1, q2]
theorem compact3 (a b c : Nat) : Lib.compact (threes a b c) = smalls a b c := by
  have hl : (threes a b c).length = a + b + c := by simp [threes]; omega
  unfold Lib.compact
  rw [hl, compact_to a b c _ (Nat.le_refl _)]
  rw [show min a (a + b + c) = a by omega, show min b (a + b + c - a) = b by omega, show min c (a + b + c - a - b) = c by omega]
theorem count_threes (a b c : Nat) (x : Int) : (threes a b c).count x = (if x = 0 then a else 0) + (if x = 1 then b else 0) + (if x = 2 then c else 0) := by
  unfold threes
  rw [List.count_append, List.count_append, List.count_replicate, List.count_replicate, List.count_replicate]
  by_cases h0 : x = 0
  · subst h0; simp
  · by_cases h1 : x = 1
    · subst h1; simp
    · by_cases h2 : x = 2
      · subst h2; simp
      · simp [h0, h1, h2, Ne.symm h0, Ne.symm h1, Ne.symm h2]
theorem threes_sorted (a b c : Nat) : (threes a b c).Pairwise (fun x y : Int => decide (x ≤ y) = true) := by
  unfold threes
  simp only [List.pairwise_append, List.pairwise_replicate, List.mem_append, List.mem_replicate, decide_eq_true_eq]
  refine ⟨⟨.inr (by omega), .inr (by omega), ?_⟩, .inr (by omega), ?_⟩
  · rintro x ⟨_, rfl⟩ y ⟨_, rfl⟩; omega
  · rintro x (⟨_, rfl⟩ | ⟨_, rfl⟩) y ⟨_, rfl⟩ <;> omega
theorem sort3 (L : List Int) (h : ∀ x ∈ L, x = 0 ∨ x = 1 ∨ x = 2) : (L.mergeSort fun x y => decide (x ≤ y)) = threes (L.count 0) (L.count 1) (L.count 2) := by
  have hp : List.Perm (L.mergeSort fun x y => decide (x ≤ y)) (threes (L.count 0) (L.count 1) (L.count 2)) := by
    refine (List.mergeSort_perm L _).trans ?_
    rw [List.perm_iff_count]
    intro x
    rw [count_threes]
    by_cases h0 : x = 0
    · subst h0; simp
    · by_cases h1 : x = 1
      · subst h1; simp
      · by_cases h2 : x = 2
        · subst h2; simp
        · rw [if_neg h0, if_neg h1, if_neg h2, List.count_eq_zero]
          intro hx
          rcases h x hx with e | e | e
          · exact h0 e
          · exact h1 e
          · exact h2 e
  refine List.Perm.eq_of_pairwise (le := fun x y : Int => decide (x ≤ y)) ?_ ?_ (threes_sorted _ _ _) hp
  · intro x y _ _ h1 h2
    simp only [decide_eq_true_eq] at h1 h2
    omega
  · exact List.pairwise_mergeSort (fun x y z h1 h2 => by simp only [decide_eq_true_eq] at *; omega) (fun x y => by simp only [Bool.or_eq_true, decide_eq_true_eq]; omega) L

/-- The locations of a thread's instructions. -/
def locR (xs : List Ins) : List Int := (xs.filter evB).map (·.loc)
def locL (p : Prg) : List Int := p.flatMap locR
def locsP (p : Prg) : List Int := if progValid p then [0, 1, 2].filter fun l => decide (0 < cnt p l true + cnt p l false) else []
def evLoc (l : Int) (x : Ins) : Bool := evB x && (x.loc == l)
theorem count_locR (l : Int) (xs : List Ins) : (locR xs).count l = xs.countP (evLoc l) := by
  unfold locR
  rw [List.count_eq_countP, List.countP_map, List.countP_filter]
  apply List.countP_congr
  intro x _
  simp only [evLoc, Function.comp, Bool.and_eq_true, beq_iff_eq]
  constructor
  · rintro ⟨h1, h2⟩; exact ⟨h2, h1⟩
  · rintro ⟨h1, h2⟩; exact ⟨h2, h1⟩
theorem count_locL (l : Int) (p : Prg) : (locL p).count l = tot (evLoc l) p := by
  induction p with
  | nil => rfl
  | cons xs p ih =>
    unfold locL tot at *
    rw [List.flatMap_cons, List.count_append, ih, count_locR, List.map_cons, List.sum_cons]
theorem tot_split {q r s : Ins → Bool} {p : Prg} (h : ∀ xs ∈ p, ∀ x ∈ xs, q x = true → (r x = true ∨ s x = true)) : tot q p ≤ tot r p + tot s p := by
  unfold tot
  induction p with
  | nil => simp
  | cons xs p ih =>
    have h2 := ih fun ys hy => h ys (List.mem_cons_of_mem _ hy)
    have h1 : ∀ l : List Ins, (∀ x ∈ l, q x = true → (r x = true ∨ s x = true)) → l.countP q ≤ l.countP r + l.countP s := by
      intro l
      induction l with
      | nil => intro _; simp
      | cons x l il =>
        intro hl
        have a1 := il fun y hy => hl y (List.mem_cons_of_mem _ hy)
        have a2 := hl x List.mem_cons_self
        rw [List.countP_cons, List.countP_cons, List.countP_cons]
        by_cases hq : q x = true
        · rcases a2 hq with e | e
          · rw [if_pos hq, if_pos e]; omega
          · rw [if_pos hq, if_pos e]; omega
        · rw [if_neg hq]; omega
    have h3 := h1 xs (h xs List.mem_cons_self)
    simp only [List.map_cons, List.sum_cons]
    omega
theorem ins_mem {p : Prg} (h : Shape p) {xs : List Ins} (hx : xs ∈ p) {x : Ins} (hm : x ∈ xs) : insValid x = true := by
  obtain ⟨i, hi, rfl⟩ := List.mem_iff_getElem.1 hx
  obtain ⟨k, hk, rfl⟩ := List.mem_iff_getElem.1 hm
  exact h.ins i _ (List.getElem?_eq_getElem hi) k _ (List.getElem?_eq_getElem hk)
theorem ev_kinds {x : Ins} (h : insValid x = true) (he : evB x = true) : insWrites x = true ∨ insReads x = true := by
  have ho : x.op = 1 ∨ x.op = 2 ∨ x.op = 3 ∨ x.op = 4 ∨ x.op = 5 := by
    obtain ⟨o, l, r, v⟩ := x
    unfold insValid at h
    simp only at h ⊢
    split at h
    · omega
    · split at h
      · omega
      · split at h
        · omega
        · split at h
          · omega
          · cases h
  unfold evB at he
  unfold insWrites insReads
  rcases ho with e | e | e | e | e <;> rw [e] at he ⊢ <;> first | (left; rfl) | (right; rfl) | cases he
theorem kinds_ev {x : Ins} (h : insWrites x = true ∨ insReads x = true) : evB x = true := by
  unfold insWrites insReads at h
  unfold evB
  simp at h ⊢
  omega
theorem loc_pos {p : Prg} (h : Shape p) (l : Int) : (0 < (locL p).count l) ↔ (0 < cnt p l true + cnt p l false) := by
  rw [count_locL]
  have h1 : tot (evLoc l) p ≤ cnt p l true + cnt p l false := tot_split fun xs hx x hm hq => by
    simp only [evLoc, Bool.and_eq_true] at hq
    rcases ev_kinds (ins_mem h hx hm) hq.1 with e | e
    · left; unfold cntB; rw [hq.2]; simpa using e
    · right; unfold cntB; rw [hq.2]; simpa using e
  have h2 : cnt p l true ≤ tot (evLoc l) p := tot_mono fun xs hx x hm hq => by
    simp only [cntB, Bool.and_eq_true, if_true] at hq
    unfold evLoc
    rw [kinds_ev (.inl hq.2), hq.1]; rfl
  have h3 : cnt p l false ≤ tot (evLoc l) p := tot_mono fun xs hx x hm hq => by
    simp only [cntB, Bool.and_eq_true, Bool.false_eq_true, if_false] at hq
    unfold evLoc
    rw [kinds_ev (.inr hq.2), hq.1]; rfl
  omega
theorem locL_small {p : Prg} (h : Shape p) : ∀ x ∈ locL p, x = 0 ∨ x = 1 ∨ x = 2 := by
  intro l hl
  unfold locL at hl
  obtain ⟨xs, hx, hm⟩ := List.mem_flatMap.1 hl
  unfold locR at hm
  obtain ⟨x, hxm, rfl⟩ := List.mem_map.1 hm
  have hv := ins_mem h hx (List.mem_filter.1 hxm).1
  obtain ⟨o, l, r, v⟩ := x
  unfold insValid at hv
  simp only [in01] at hv ⊢
  split at hv
  · simp at hv; omega
  · split at hv
    · simp at hv; omega
    · split at hv
      · simp at hv; omega
      · split at hv
        · simp at hv; omega
        · cases hv
theorem length_locL (p : Prg) : (locL p).length = ev p := by
  unfold locL ev tot
  induction p with
  | nil => rfl
  | cons xs p ih =>
    rw [List.flatMap_cons, List.length_append, ih, List.map_cons, List.sum_cons]
    congr 1
    unfold locR
    rw [List.length_map, List.countP_eq_length_filter]
theorem count_le_length' (L : List Int) (l : Int) : L.count l ≤ L.length := List.count_le_length
theorem locs_law {p : Prg} (h : progValid p = true) : Lib.compact ((locL p).mergeSort fun x y => decide (x ≤ y)) = locsP p := by
  have hs := (valid_of h).toShape
  have hlen : (locL p).length ≤ 12 := by rw [length_locL]; exact hs.ev
  have c0 := count_le_length' (locL p) 0
  have c1 := count_le_length' (locL p) 1
  have c2 := count_le_length' (locL p) 2
  rw [sort3 _ (locL_small hs), compact3]
  have p0 := loc_pos hs 0
  have p1 := loc_pos hs 1
  have p2 := loc_pos hs 2
  unfold smalls locsP
  rw [if_pos h]
  simp only [p0, p1, p2, List.filter_cons, List.filter_nil]
  by_cases e0 : 0 < cnt p 0 true + cnt p 0 false <;> by_cases e1 : 0 < cnt p 1 true + cnt p 1 false <;> by_cases e2 : 0 < cnt p 2 true + cnt p 2 false <;> simp [e0, e1, e2]

end Go.Proofs.YtmeoclkngjboiaaDoor
