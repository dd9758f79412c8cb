/-
  PROVED HERE: plain facts on the pieces of a text; the two ways to read a program's text answer alike. CONDITIONS: as each theorem states.
-/
import Derived.Test.YtmeoclkngjboiaaDoorPps
import Derived.Test.YtmeoclkngjboiaaDoorFab
import Derived.Lib.SplitLaws
import Derived.Lib.IndexMore
namespace Go.Proofs.YtmeoclkngjboiaaDoor
open Go.RowKit
set_option linter.unusedVariables false
set_option linter.unusedSimpArgs false

theorem join_two {x : List UInt8} {r : List (List UInt8)} (s : List UInt8) (h : r ≠ []) : Lib.join (x :: r) s = x ++ s ++ Lib.join r s := by
  cases r with
  | nil => exact absurd rfl h
  | cons y r =>
    rw [Lib.join_cons, Lib.join_cons]
    simp [Lib.joinTail]
theorem join_flat (c : UInt8) (y : List UInt8) : ∀ O : List (List UInt8), Lib.join (O ++ [y]) [c] = O.flatMap (· ++ [c]) ++ y
  | [] => by simp [Lib.join_one]
  | x :: O => by
    rw [List.cons_append, join_two _ (by simp), join_flat c y O]
    simp
theorem cutTo_inv (c : UInt8) (l : List UInt8) : ∀ i, i ≤ l.length →
    (∀ x ∈ (cutTo c l i).1, c ∉ x) ∧ c ∉ (l.take i).drop (cutTo c l i).2 ∧ (cutTo c l i).2 ≤ i ∧ (cutTo c l i).1.flatMap (· ++ [c]) ++ (l.take i).drop (cutTo c l i).2 = l.take i
  | 0, _ => by simp [cutTo]
  | i + 1, hi => by
    obtain ⟨h1, h2, h3, h4⟩ := cutTo_inv c l i (by omega)
    have hil : i < l.length := by omega
    have ht : l.take (i + 1) = l.take i ++ [l[i]] := List.take_succ_eq_append_getElem hil
    by_cases h : i = l.length ∨ l[i]? = some c
    · rw [cut_yes h]
      have hc : l[i] = c := by
        rcases h with h | h
        · omega
        · rw [List.getElem?_eq_getElem hil] at h
          exact Option.some.inj h
      have e0 : (l.take (i + 1)).drop (i + 1) = [] := by rw [List.drop_eq_nil_iff, List.length_take]; omega
      refine ⟨fun x hx => ?_, by show c ∉ (l.take (i + 1)).drop (i + 1); rw [e0]; simp, Nat.le_refl _, ?_⟩
      · rcases List.mem_append.1 hx with hx | hx
        · exact h1 x hx
        · rw [List.mem_singleton] at hx
          rw [hx]
          exact h2
      · show ((cutTo c l i).1 ++ [(l.take i).drop (cutTo c l i).2]).flatMap (· ++ [c]) ++ (l.take (i + 1)).drop (i + 1) = _
        rw [e0, List.append_nil, List.flatMap_append, ht, hc]
        simp only [List.flatMap_cons, List.flatMap_nil, List.append_nil]
        rw [← List.append_assoc, h4]
    · rw [cut_no h]
      have hc : l[i] ≠ c := fun e => h (.inr (by rw [List.getElem?_eq_getElem hil, e]))
      have hd : (l.take (i + 1)).drop (cutTo c l i).2 = (l.take i).drop (cutTo c l i).2 ++ [l[i]] := by
        rw [ht, List.drop_append_of_le_length (by rw [List.length_take]; omega)]
      refine ⟨h1, ?_, by omega, ?_⟩
      · rw [hd]
        intro hm
        rcases List.mem_append.1 hm with hm | hm
        · exact h2 hm
        · rw [List.mem_singleton] at hm
          exact hc hm.symm
      · rw [hd, ← List.append_assoc, h4, ht]
theorem cutL_ok (c : UInt8) (l : List UInt8) : Lib.join (cutL c l) [c] = l ∧ (∀ x ∈ cutL c l, c ∉ x) ∧ cutL c l ≠ [] := by
  obtain ⟨h1, h2, h3, h4⟩ := cutTo_inv c l l.length (Nat.le_refl _)
  have e : cutL c l = (cutTo c l l.length).1 ++ [(l.take l.length).drop (cutTo c l l.length).2] := by
    unfold cutL
    rw [cut_yes (.inl rfl)]
  rw [e]
  refine ⟨by rw [join_flat, h4, List.take_length], fun x hx => ?_, by simp⟩
  rcases List.mem_append.1 hx with hx | hx
  · exact h1 x hx
  · rw [List.mem_singleton] at hx
    rw [hx]
    exact h2
/-- A list of pieces without c is the pieces of what it joins to. -/
theorem cutL_join {c : UInt8} {r : List (List UInt8)} (h0 : r ≠ []) (hr : ∀ x ∈ r, c ∉ x) : cutL c (Lib.join r [c]) = r := by
  obtain ⟨h1, h2, h3⟩ := cutL_ok c (Lib.join r [c])
  exact join_inj h3 h0 h2 hr h1

theorem occ_one {l : List UInt8} {c : UInt8} {j : Nat} : Lib.occAt l [c] j = true ↔ l[j]? = some c := by
  unfold Lib.occAt
  rw [show l[j]? = (l.drop j)[0]? by simp]
  cases l.drop j with
  | nil => simp
  | cons x r =>
    simp [List.isPrefixOf]
    exact ⟨Eq.symm, Eq.symm⟩
theorem split_ok (c : UInt8) : ∀ (n : Nat) (l : List UInt8), l.length ≤ n → Lib.join (Lib.split l [c]) [c] = l ∧ (∀ x ∈ Lib.split l [c], c ∉ x) ∧ Lib.split l [c] ≠ [] := by
  intro n
  induction n with
  | zero =>
    intro l hl
    have e : l = [] := List.eq_nil_of_length_eq_zero (by omega)
    subst e
    have : Lib.split [] [c] = [[]] := by
      unfold Lib.split
      have h0 : Lib.count [] [c] = 0 := by rw [Lib.count_one]; rfl
      rw [h0]
      rfl
    rw [this]
    exact ⟨rfl, by simp, by simp⟩
  | succ n ih =>
    intro l hl
    rcases Lib.index_spec l [c] with ⟨hi, hno⟩ | ⟨i, hi, hil, ho, hno⟩
    · have e : Lib.split l [c] = [l] := by
        unfold Lib.split
        rw [Lib.count_miss hi]
        rfl
      rw [e]
      refine ⟨Lib.join_one _ _, fun x hx => ?_, by simp⟩
      rw [List.mem_singleton] at hx
      subst hx
      intro hm
      obtain ⟨j, hj, e2⟩ := List.mem_iff_getElem.1 hm
      have := hno j (by omega)
      rw [occ_one.2 (by rw [List.getElem?_eq_getElem hj, e2])] at this
      cases this
    · have hc := occ_one.1 ho
      obtain ⟨hlt, hci⟩ := List.getElem?_eq_some_iff.1 hc
      have hcnt := Lib.count_hit (s := l) (sub := [c]) (i := i) (by simp) hi
      have e : Lib.split l [c] = l.take i :: Lib.split (l.drop (i + 1)) [c] := by
        have hne : ¬ (Lib.index l [c] == -1) = true := fun h => by have := beq_iff_eq.1 h; omega
        have gen : ∀ k, Lib.splitK [c] 0 (k + 1) l = l.take i :: Lib.splitK [c] 0 k (l.drop (i + 1)) := fun k => by
          show (if Lib.index l [c] == -1 then [l] else l.take ((Lib.index l [c]).toNat + 0) :: Lib.splitK [c] 0 k (l.drop ((Lib.index l [c]).toNat + [c].length))) = _
          rw [if_neg hne, hi]
          rfl
        unfold Lib.split
        rw [hcnt, Nat.add_comm 1, gen]
        rfl
      obtain ⟨g1, g2, g3⟩ := ih (l.drop (i + 1)) (by rw [List.length_drop]; omega)
      rw [e]
      refine ⟨?_, fun x hx => ?_, by simp⟩
      · rw [join_two _ g3, g1, ← hci, List.append_assoc, List.singleton_append, List.getElem_cons_drop, List.take_append_drop]
      · rcases List.mem_cons.1 hx with hx | hx
        · subst hx
          intro hm
          obtain ⟨j, hj, e2⟩ := List.mem_iff_getElem.1 hm
          rw [List.length_take] at hj
          have hnj := hno j (by omega)
          rw [List.getElem_take] at e2
          rw [occ_one.2 (by rw [List.getElem?_eq_getElem (by omega), e2])] at hnj
          cases hnj
        · exact g2 x hx
theorem split_cut (c : UInt8) (l : List UInt8) : Lib.split l [c] = cutL c l := by
  obtain ⟨h1, h2, h3⟩ := split_ok c l.length l (Nat.le_refl _)
  obtain ⟨g1, g2, g3⟩ := cutL_ok c l
  exact join_inj h3 g3 h2 g2 (h1.trans g1.symm)

/-- A word is an instruction's text. -/
def okW (l : List UInt8) : Bool := insValid (decI l) && decide (insL (decI l) = l)
theorem okW_ins {x : Ins} (h : insValid x = true) : okW (insL x) = true := by
  unfold okW
  rw [(ins_ok h).1, h]
  simp
def rowI (t : List UInt8) : List Ins := if t = [] then [] else (cutL 59 t).map decI
def rowsI (s : ByteArray) : Prg := (cutL 124 (bytS s)).map rowI
def okT (t : List UInt8) : Bool := decide (t = []) || (cutL 59 t).all okW
def allOk (s : ByteArray) : Bool := (cutL 124 (bytS s)).all okT
def impRes (s : ByteArray) : Prg × Bool := if allOk s = true ∧ progValid (rowsI s) = true then (rowsI s, true) else ([], false)
def parOk (x : Ins) : Bool := !insValid x || decide (parI (ba (insL x)) = x)
theorem par_ok_all : ∀ o < 6, ∀ l < 3, ∀ r < 3, ∀ v < 4, parOk ⟨(o : Nat), (l : Nat), (r : Nat), (v : Nat)⟩ = true := by decide +kernel
theorem par_ok {x : Ins} (h : insValid x = true) : parI (ba (insL x)) = x := by
  obtain ⟨o, l, r, v, rfl, ho, hl, hr, hv⟩ := ins_nat h
  have := par_ok_all o (by omega) l (by omega) r (by omega) v (by omega)
  unfold parOk at this
  rw [h] at this
  simpa using this
theorem rowL_cons {xs : List Ins} (h : xs ≠ []) (hx : ∀ x ∈ xs, insValid x = true) : rowL xs ≠ [] := by
  unfold rowL
  refine join_none (fun l hl => ?_) (by simpa using h)
  obtain ⟨x, hm, rfl⟩ := List.mem_map.1 hl
  exact (ins_ok (hx x hm)).2.2
theorem cut_row {xs : List Ins} (h : xs ≠ []) (hx : ∀ x ∈ xs, insValid x = true) : cutL 59 (rowL xs) = xs.map insL := by
  unfold rowL
  refine cutL_join (by simpa using h) fun l hl => ?_
  obtain ⟨x, hm, rfl⟩ := List.mem_map.1 hl
  exact fun h59 => ((ins_ok (hx x hm)).2.1 59 h59).1 rfl
theorem map_dec {xs : List Ins} (hx : ∀ x ∈ xs, insValid x = true) : (xs.map insL).map decI = xs := by
  rw [List.map_map]
  have : ∀ ys : List Ins, (∀ x ∈ ys, insValid x = true) → ys.map (decI ∘ insL) = ys := by
    intro ys
    induction ys with
    | nil => intro _; rfl
    | cons y ys ih =>
      intro hy
      rw [List.map_cons, ih fun x hm => hy x (List.mem_cons_of_mem _ hm)]
      congr 1
      exact (ins_ok (hy y List.mem_cons_self)).1
  exact this xs hx
theorem okT_rows {t : List UInt8} (h : okT t = true) : rowL (rowI t) = t ∧ ∀ x ∈ rowI t, insValid x = true := by
  unfold okT at h
  unfold rowI
  by_cases h0 : t = []
  · rw [if_pos h0, h0]
    exact ⟨rfl, by simp⟩
  · rw [if_neg h0]
    simp only [h0, decide_false, Bool.false_or, List.all_eq_true] at h
    have hw : ∀ l ∈ cutL 59 t, insValid (decI l) = true ∧ insL (decI l) = l := fun l hl => by
      have := h l hl
      unfold okW at this
      simpa using this
    refine ⟨?_, fun x hx => ?_⟩
    · unfold rowL
      rw [List.map_map]
      have : ∀ ys : List (List UInt8), (∀ l ∈ ys, insValid (decI l) = true ∧ insL (decI l) = l) → ys.map (insL ∘ decI) = ys := by
        intro ys
        induction ys with
        | nil => intro _; rfl
        | cons y ys ih =>
          intro hy
          rw [List.map_cons, ih fun x hm => hy x (List.mem_cons_of_mem _ hm)]
          congr 1
          exact (hy y List.mem_cons_self).2
      rw [this _ hw]
      exact (cutL_ok 59 t).1
    · obtain ⟨l, hl, rfl⟩ := List.mem_map.1 hx
      exact (hw l hl).1
theorem parRow_eq {t : List UInt8} (h : okT t = true) (hl : (rowI t).length ≤ 7) : parRow t = rowI t := by
  have hr := okT_rows h
  unfold parRow
  by_cases h0 : t = []
  · rw [if_pos h0]
    unfold rowI
    rw [if_pos h0]
  · rw [if_neg h0]
    have e : rowI t = (cutL 59 t).map decI := by unfold rowI; rw [if_neg h0]
    rw [e] at hl ⊢
    rw [List.length_map] at hl
    unfold parTo
    rw [List.take_of_length_le (by omega)]
    refine List.map_congr_left fun l hm => ?_
    unfold okT at h
    simp only [h0, decide_false, Bool.false_or, List.all_eq_true] at h
    have hw := h l hm
    unfold okW at hw
    simp only [Bool.and_eq_true, decide_eq_true_eq] at hw
    have := par_ok hw.1
    rw [hw.2] at this
    exact this
theorem bytS_inj {s t : ByteArray} (h : bytS s = bytS t) : s = t := by
  apply ByteArray.ext
  exact Array.toList_inj.1 h
theorem res_eq (s : ByteArray) : impRes s = parRes s := by
  have key : (allOk s = true ∧ progValid (rowsI s) = true) ↔ (progValid (parsP s) = true ∧ ba (prgL (parsP s)) = s) := by
    constructor
    · rintro ⟨ha, hv⟩
      have hs := (valid_of hv).toShape
      unfold allOk at ha
      rw [List.all_eq_true] at ha
      have hlen : (cutL 124 (bytS s)).length ≤ 3 := by
        have := hs.len
        unfold rowsI at this
        rwa [List.length_map] at this
      have hrow : ∀ t ∈ cutL 124 (bytS s), (rowI t).length ≤ 7 := fun t ht => by
        obtain ⟨i, hi, rfl⟩ := List.mem_iff_getElem.1 ht
        exact hs.row i _ (by unfold rowsI; rw [List.getElem?_map, List.getElem?_eq_getElem hi]; rfl)
      have e : parsP s = rowsI s := by
        unfold parsP parsTo rowsI
        rw [List.take_of_length_le (by omega)]
        exact List.map_congr_left fun t ht => parRow_eq (ha t ht) (hrow t ht)
      rw [e]
      refine ⟨hv, bytS_inj ?_⟩
      rw [bytS_ba]
      unfold prgL rowsI
      rw [List.map_map]
      have : ∀ ys : List (List UInt8), (∀ t ∈ ys, okT t = true) → ys.map (rowL ∘ rowI) = ys := by
        intro ys
        induction ys with
        | nil => intro _; rfl
        | cons y ys ih =>
          intro hy
          rw [List.map_cons, ih fun x hm => hy x (List.mem_cons_of_mem _ hm)]
          congr 1
          exact (okT_rows (hy y List.mem_cons_self)).1
      rw [this _ ha]
      exact (cutL_ok 124 (bytS s)).1
    · rintro ⟨hv, he⟩
      have hb : bytS s = prgL (parsP s) := by rw [← he, bytS_ba, he]
      generalize parsP s = p at hv hb
      have hs := (valid_of hv).toShape
      have hrows := rows_of hv
      have hp : p ≠ [] := fun e => by subst e; exact absurd hv (by decide)
      have hc : cutL 124 (bytS s) = p.map rowL := by
        rw [hb]
        unfold prgL
        refine cutL_join (by simpa using hp) fun l hl => ?_
        obtain ⟨xs, hm, rfl⟩ := List.mem_map.1 hl
        exact rowL_bar (rowB_ins (hrows xs hm))
      have hrowI : ∀ xs ∈ p, rowI (rowL xs) = xs ∧ okT (rowL xs) = true := fun xs hm => by
        have hx := rowB_ins (hrows xs hm)
        by_cases h0 : xs = []
        · subst h0
          exact ⟨rfl, rfl⟩
        · have hne := rowL_cons h0 hx
          unfold rowI okT
          rw [if_neg hne, cut_row h0 hx, map_dec hx]
          refine ⟨rfl, ?_⟩
          rw [Bool.or_eq_true]
          refine .inr (List.all_eq_true.2 fun l hl => ?_)
          obtain ⟨x, hmx, rfl⟩ := List.mem_map.1 hl
          exact okW_ins (hx x hmx)
      refine ⟨?_, ?_⟩
      · unfold allOk
        rw [hc, List.all_eq_true]
        intro t ht
        obtain ⟨xs, hm, rfl⟩ := List.mem_map.1 ht
        exact (hrowI xs hm).2
      · unfold rowsI
        rw [hc, List.map_map]
        have : ∀ q : Prg, (∀ xs ∈ q, rowI (rowL xs) = xs) → q.map (rowI ∘ rowL) = q := by
          intro q
          induction q with
          | nil => intro _; rfl
          | cons y q ih =>
            intro hy
            rw [List.map_cons, ih fun x hm => hy x (List.mem_cons_of_mem _ hm)]
            congr 1
            exact hy y List.mem_cons_self
        rw [this _ fun xs hm => (hrowI xs hm).1]
        exact hv
  unfold impRes parRes
  by_cases h : allOk s = true ∧ progValid (rowsI s) = true
  · rw [if_pos h, if_pos (key.1 h)]
    have : parsP s = rowsI s := by
      obtain ⟨ha, hv⟩ := h
      have hs := (valid_of hv).toShape
      unfold allOk at ha
      rw [List.all_eq_true] at ha
      have hlen : (cutL 124 (bytS s)).length ≤ 3 := by
        have := hs.len
        unfold rowsI at this
        rwa [List.length_map] at this
      have hrow : ∀ t ∈ cutL 124 (bytS s), (rowI t).length ≤ 7 := fun t ht => by
        obtain ⟨i, hi, rfl⟩ := List.mem_iff_getElem.1 ht
        exact hs.row i _ (by unfold rowsI; rw [List.getElem?_map, List.getElem?_eq_getElem hi]; rfl)
      unfold parsP parsTo rowsI
      rw [List.take_of_length_le (by omega)]
      exact List.map_congr_left fun t ht => parRow_eq (ha t ht) (hrow t ht)
    rw [this]
  · rw [if_neg h, if_neg fun h' => h (key.2 h')]
/-- How large what impl.ParseProgram reads can grow. -/
theorem lens_join (c : UInt8) : ∀ r : List (List UInt8), r ≠ [] → (Lib.join r [c]).length + 1 = (r.map fun x => x.length + 1).sum
  | [], h => absurd rfl h
  | [x], _ => by simp [Lib.join_one]
  | x :: y :: r, _ => by
    rw [join_two _ (by simp), List.length_append, List.length_append, List.map_cons, List.sum_cons, ← lens_join c (y :: r) (by simp)]
    simp
    omega
theorem rowI_len (t : List UInt8) : (rowI t).length ≤ t.length + 1 := by
  unfold rowI
  split
  · simp
  · rw [List.length_map]; exact cutL_len 59 t
theorem rowsI_size (s : ByteArray) (hs : s.size ≤ 1048576) : sizeP (rowsI s) ≤ 2100000 := by
  obtain ⟨h1, _, h3⟩ := cutL_ok 124 (bytS s)
  have hl := lens_join 124 _ h3
  rw [h1, size_bytS] at hl
  have hn := cutL_len 124 (bytS s)
  rw [size_bytS] at hn
  have : ∀ r : List (List UInt8), ((r.map rowI).map List.length).sum ≤ (r.map fun x => x.length + 1).sum := by
    intro r
    induction r with
    | nil => simp
    | cons x r ih =>
      have := rowI_len x
      simp only [List.map_cons, List.sum_cons]
      omega
  have := this (cutL 124 (bytS s))
  unfold sizeP rowsI
  rw [List.length_map]
  omega
end Go.Proofs.YtmeoclkngjboiaaDoor
