/-
  PROVED HERE: plain facts on the pieces of a text; the two ways to read a program's text answer alike. what strings.Split does at a separator of one byte. what impl.allInstrs does. CONDITIONS: as each theorem states.
-/
import Derived.Test.YtmeoclkngjboiaaDoorPps
import Derived.Test.YtmeoclkngjboiaaDoorFab
import Derived.Lib.SplitLaws
import Derived.Lib.IndexMore
import Derived.Shelf.Strings.Split
import Derived.Shelf.Vars
import Derived.Test.YtmeoclkngjboiaaDoorRow
namespace Go.Proofs.YtmeoclkngjboiaaDoor
open Go.RowKit
set_option linter.unusedVariables false
set_option linter.unusedSimpArgs false

theorem join_two {x : List UInt8} {r : List (List UInt8)} (s : List UInt8) (h : r ≠ []) : Lib.join (x :: r) s = x ++ s ++ Lib.join r s := by
  cases r with
  | nil => exact absurd rfl h
  | cons y r =>
    rw [Lib.join_cons, Lib.join_cons]
    simp [Lib.joinTail]
theorem join_flat (c : UInt8) (y : List UInt8) : ∀ O : List (List UInt8), Lib.join (O ++ [y]) [c] = O.flatMap (· ++ [c]) ++ y
  | [] => by simp [Lib.join_one]
  | x :: O => by
    rw [List.cons_append, join_two _ (by simp), join_flat c y O]
    simp
theorem cutTo_inv (c : UInt8) (l : List UInt8) : ∀ i, i ≤ l.length →
    (∀ x ∈ (cutTo c l i).1, c ∉ x) ∧ c ∉ (l.take i).drop (cutTo c l i).2 ∧ (cutTo c l i).2 ≤ i ∧ (cutTo c l i).1.flatMap (· ++ [c]) ++ (l.take i).drop (cutTo c l i).2 = l.take i
  | 0, _ => by simp [cutTo]
  | i + 1, hi => by
    obtain ⟨h1, h2, h3, h4⟩ := cutTo_inv c l i (by omega)
    have hil : i < l.length := by omega
    have ht : l.take (i + 1) = l.take i ++ [l[i]] := List.take_succ_eq_append_getElem hil
    by_cases h : i = l.length ∨ l[i]? = some c
    · rw [cut_yes h]
      have hc : l[i] = c := by
        rcases h with h | h
        · omega
        · rw [List.getElem?_eq_getElem hil] at h
          exact Option.some.inj h
      have e0 : (l.take (i + 1)).drop (i + 1) = [] := by rw [List.drop_eq_nil_iff, List.length_take]; omega
      refine ⟨fun x hx => ?_, by show c ∉ (l.take (i + 1)).drop (i + 1); rw [e0]; simp, Nat.le_refl _, ?_⟩
      · rcases List.mem_append.1 hx with hx | hx
        · exact h1 x hx
        · rw [List.mem_singleton] at hx
          rw [hx]
          exact h2
      · show ((cutTo c l i).1 ++ [(l.take i).drop (cutTo c l i).2]).flatMap (· ++ [c]) ++ (l.take (i + 1)).drop (i + 1) = _
        rw [e0, List.append_nil, List.flatMap_append, ht, hc]
        simp only [List.flatMap_cons, List.flatMap_nil, List.append_nil]
        rw [← List.append_assoc, h4]
    · rw [cut_no h]
      have hc : l[i] ≠ c := fun e => h (.inr (by rw [List.getElem?_eq_getElem hil, e]))
      have hd : (l.take (i + 1)).drop (cutTo c l i).2 = (l.take i).drop (cutTo c l i).2 ++ [l[i]] := by
        rw [ht, List.drop_append_of_le_length (by rw [List.length_take]; omega)]
      refine ⟨h1, ?_, by omega, ?_⟩
      · rw [hd]
        intro hm
        rcases List.mem_append.1 hm with hm | hm
        · exact h2 hm
        · rw [List.mem_singleton] at hm
          exact hc hm.symm
      · rw [hd, ← List.append_assoc, h4, ht]
theorem cutL_ok (c : UInt8) (l : List UInt8) : Lib.join (cutL c l) [c] = l ∧ (∀ x ∈ cutL c l, c ∉ x) ∧ cutL c l ≠ [] := by
  obtain ⟨h1, h2, h3, h4⟩ := cutTo_inv c l l.length (Nat.le_refl _)
  have e : cutL c l = (cutTo c l l.length).1 ++ [(l.take l.length).drop (cutTo c l l.length).2] := by
    unfold cutL
    rw [cut_yes (.inl rfl)]
  rw [e]
  refine ⟨by rw [join_flat, h4, List.take_length], fun x hx => ?_, by simp⟩
  rcases List.mem_append.1 hx with hx | hx
  · exact h1 x hx
  · rw [List.mem_singleton] at hx
    rw [hx]
    exact h2
/-- A list of pieces without c is the pieces of what it joins to. -/
theorem cutL_join {c : UInt8} {r : List (List UInt8)} (h0 : r ≠ []) (hr : ∀ x ∈ r, c ∉ x) : cutL c (Lib.join r [c]) = r := by
  obtain ⟨h1, h2, h3⟩ := cutL_ok c (Lib.join r [c])
  exact join_inj h3 h0 h2 hr h1

theorem occ_one {l : List UInt8} {c : UInt8} {j : Nat} : Lib.occAt l [c] j = true ↔ l[j]? = some c := by
  unfold Lib.occAt
  rw [show l[j]? = (l.drop j)[0]? by simp]
  cases l.drop j with
  | nil => simp
  | cons x r =>
    simp [List.isPrefixOf]
    exact ⟨Eq.symm, Eq.symm⟩
theorem split_ok (c : UInt8) : ∀ (n : Nat) (l : List UInt8), l.length ≤ n → Lib.join (Lib.split l [c]) [c] = l ∧ (∀ x ∈ Lib.split l [c], c ∉ x) ∧ Lib.split l [c] ≠ [] := by
  intro n
  induction n with
  | zero =>
    intro l hl
    have e : l = [] := List.eq_nil_of_length_eq_zero (by omega)
    subst e
    have : Lib.split [] [c] = [[]] := by
      unfold Lib.split
      have h0 : Lib.count [] [c] = 0 := by rw [Lib.count_one]; rfl
      rw [h0]
      rfl
    rw [this]
    exact ⟨rfl, by simp, by simp⟩
  | succ n ih =>
    intro l hl
    rcases Lib.index_spec l [c] with ⟨hi, hno⟩ | ⟨i, hi, hil, ho, hno⟩
    · have e : Lib.split l [c] = [l] := by
        unfold Lib.split
        rw [Lib.count_miss hi]
        rfl
      rw [e]
      refine ⟨Lib.join_one _ _, fun x hx => ?_, by simp⟩
      rw [List.mem_singleton] at hx
      subst hx
      intro hm
      obtain ⟨j, hj, e2⟩ := List.mem_iff_getElem.1 hm
      have := hno j (by omega)
      rw [occ_one.2 (by rw [List.getElem?_eq_getElem hj, e2])] at this
      cases this
    · have hc := occ_one.1 ho
      obtain ⟨hlt, hci⟩ := List.getElem?_eq_some_iff.1 hc
      have hcnt := Lib.count_hit (s := l) (sub := [c]) (i := i) (by simp) hi
      have e : Lib.split l [c] = l.take i :: Lib.split (l.drop (i + 1)) [c] := by
        have hne : ¬ (Lib.index l [c] == -1) = true := fun h => by have := beq_iff_eq.1 h; omega
        have gen : ∀ k, Lib.splitK [c] 0 (k + 1) l = l.take i :: Lib.splitK [c] 0 k (l.drop (i + 1)) := fun k => by
          show (if Lib.index l [c] == -1 then [l] else l.take ((Lib.index l [c]).toNat + 0) :: Lib.splitK [c] 0 k (l.drop ((Lib.index l [c]).toNat + [c].length))) = _
          rw [if_neg hne, hi]
          rfl
        unfold Lib.split
        rw [hcnt, Nat.add_comm 1, gen]
        rfl
      obtain ⟨g1, g2, g3⟩ := ih (l.drop (i + 1)) (by rw [List.length_drop]; omega)
      rw [e]
      refine ⟨?_, fun x hx => ?_, by simp⟩
      · rw [join_two _ g3, g1, ← hci, List.append_assoc, List.singleton_append, List.getElem_cons_drop, List.take_append_drop]
      · rcases List.mem_cons.1 hx with hx | hx
        · subst hx
          intro hm
          obtain ⟨j, hj, e2⟩ := List.mem_iff_getElem.1 hm
          rw [List.length_take] at hj
          have hnj := hno j (by omega)
          rw [List.getElem_take] at e2
          rw [occ_one.2 (by rw [List.getElem?_eq_getElem (by omega), e2])] at hnj
          cases hnj
        · exact g2 x hx
theorem split_cut (c : UInt8) (l : List UInt8) : Lib.split l [c] = cutL c l := by
  obtain ⟨h1, h2, h3⟩ := split_ok c l.length l (Nat.le_refl _)
  obtain ⟨g1, g2, g3⟩ := cutL_ok c l
  exact join_inj h3 g3 h2 g2 (h1.trans g1.symm)

/-- A word is an instruction's text. -/
def okW (l : List UInt8) : Bool := insValid (decI l) && decide (insL (decI l) = l)
theorem okW_ins {x : Ins} (h : insValid x = true) : okW (insL x) = true := by
  unfold okW
  rw [(ins_ok h).1, h]
  simp
def rowI (t : List UInt8) : List Ins := if t = [] then [] else (cutL 59 t).map decI
def rowsI (s : ByteArray) : Prg := (cutL 124 (bytS s)).map rowI
def okT (t : List UInt8) : Bool := decide (t = []) || (cutL 59 t).all okW
def allOk (s : ByteArray) : Bool := (cutL 124 (bytS s)).all okT
def impRes (s : ByteArray) : Prg × Bool := if allOk s = true ∧ progValid (rowsI s) = true then (rowsI s, true) else ([], false)
def parOk (x : Ins) : Bool := !insValid x || decide (parI (ba (insL x)) = x)
theorem par_ok_all : ∀ o < 6, ∀ l < 3, ∀ r < 3, ∀ v < 4, parOk ⟨(o : Nat), (l : Nat), (r : Nat), (v : Nat)⟩ = true := by decide +kernel
theorem par_ok {x : Ins} (h : insValid x = true) : parI (ba (insL x)) = x := by
  obtain ⟨o, l, r, v, rfl, ho, hl, hr, hv⟩ := ins_nat h
  have := par_ok_all o (by omega) l (by omega) r (by omega) v (by omega)
  unfold parOk at this
  rw [h] at this
  simpa using this
theorem rowL_cons {xs : List Ins} (h : xs ≠ []) (hx : ∀ x ∈ xs, insValid x = true) : rowL xs ≠ [] := by
  unfold rowL
  refine join_none (fun l hl => ?_) (by simpa using h)
  obtain ⟨x, hm, rfl⟩ := List.mem_map.1 hl
  exact (ins_ok (hx x hm)).2.2
theorem cut_row {xs : List Ins} (h : xs ≠ []) (hx : ∀ x ∈ xs, insValid x = true) : cutL 59 (rowL xs) = xs.map insL := by
  unfold rowL
  refine cutL_join (by simpa using h) fun l hl => ?_
  obtain ⟨x, hm, rfl⟩ := List.mem_map.1 hl
  exact fun h59 => ((ins_ok (hx x hm)).2.1 59 h59).1 rfl
theorem map_dec {xs : List Ins} (hx : ∀ x ∈ xs, insValid x = true) : (xs.map insL).map decI = xs := by
  rw [List.map_map]
  have : ∀ ys : List Ins, (∀ x ∈ ys, insValid x = true) → ys.map (decI ∘ insL) = ys := by
    intro ys
    induction ys with
    | nil => intro _; rfl
    | cons y ys ih =>
      intro hy
      rw [List.map_cons, ih fun x hm => hy x (List.mem_cons_of_mem _ hm)]
      congr 1
      exact (ins_ok (hy y List.mem_cons_self)).1
  exact this xs hx
theorem okT_rows {t : List UInt8} (h : okT t = true) : rowL (rowI t) = t ∧ ∀ x ∈ rowI t, insValid x = true := by
  unfold okT at h
  unfold rowI
  by_cases h0 : t = []
  · rw [if_pos h0, h0]
    exact ⟨rfl, by simp⟩
  · rw [if_neg h0]
    simp only [h0, decide_false, Bool.false_or, List.all_eq_true] at h
    have hw : ∀ l ∈ cutL 59 t, insValid (decI l) = true ∧ insL (decI l) = l := fun l hl => by
      have := h l hl
      unfold okW at this
      simpa using this
    refine ⟨?_, fun x hx => ?_⟩
    · unfold rowL
      rw [List.map_map]
      have : ∀ ys : List (List UInt8), (∀ l ∈ ys, insValid (decI l) = true ∧ insL (decI l) = l) → ys.map (insL ∘ decI) = ys := by
        intro ys
        induction ys with
        | nil => intro _; rfl
        | cons y ys ih =>
          intro hy
          rw [List.map_cons, ih fun x hm => hy x (List.mem_cons_of_mem _ hm)]
          congr 1
          exact (hy y List.mem_cons_self).2
      rw [this _ hw]
      exact (cutL_ok 59 t).1
    · obtain ⟨l, hl, rfl⟩ := List.mem_map.1 hx
      exact (hw l hl).1
theorem parRow_eq {t : List UInt8} (h : okT t = true) (hl : (rowI t).length ≤ 7) : parRow t = rowI t := by
  have hr := okT_rows h
  unfold parRow
  by_cases h0 : t = []
  · rw [if_pos h0]
    unfold rowI
    rw [if_pos h0]
  · rw [if_neg h0]
    have e : rowI t = (cutL 59 t).map decI := by unfold rowI; rw [if_neg h0]
    rw [e] at hl ⊢
    rw [List.length_map] at hl
    unfold parTo
    rw [List.take_of_length_le (by omega)]
    refine List.map_congr_left fun l hm => ?_
    unfold okT at h
    simp only [h0, decide_false, Bool.false_or, List.all_eq_true] at h
    have hw := h l hm
    unfold okW at hw
    simp only [Bool.and_eq_true, decide_eq_true_eq] at hw
    have := par_ok hw.1
    rw [hw.2] at this
    exact this
theorem bytS_inj {s t : ByteArray} (h : bytS s = bytS t) : s = t := by
  apply ByteArray.ext
  exact Array.toList_inj.1 h
theorem res_eq (s : ByteArray) : impRes s = parRes s := by
  have key : (allOk s = true ∧ progValid (rowsI s) = true) ↔ (progValid (parsP s) = true ∧ ba (prgL (parsP s)) = s) := by
    constructor
    · rintro ⟨ha, hv⟩
      have hs := (valid_of hv).toShape
      unfold allOk at ha
      rw [List.all_eq_true] at ha
      have hlen : (cutL 124 (bytS s)).length ≤ 3 := by
        have := hs.len
        unfold rowsI at this
        rwa [List.length_map] at this
      have hrow : ∀ t ∈ cutL 124 (bytS s), (rowI t).length ≤ 7 := fun t ht => by
        obtain ⟨i, hi, rfl⟩ := List.mem_iff_getElem.1 ht
        exact hs.row i _ (by unfold rowsI; rw [List.getElem?_map, List.getElem?_eq_getElem hi]; rfl)
      have e : parsP s = rowsI s := by
        unfold parsP parsTo rowsI
        rw [List.take_of_length_le (by omega)]
        exact List.map_congr_left fun t ht => parRow_eq (ha t ht) (hrow t ht)
      rw [e]
      refine ⟨hv, bytS_inj ?_⟩
      rw [bytS_ba]
      unfold prgL rowsI
      rw [List.map_map]
      have : ∀ ys : List (List UInt8), (∀ t ∈ ys, okT t = true) → ys.map (rowL ∘ rowI) = ys := by
        intro ys
        induction ys with
        | nil => intro _; rfl
        | cons y ys ih =>
          intro hy
          rw [List.map_cons, ih fun x hm => hy x (List.mem_cons_of_mem _ hm)]
          congr 1
          exact (okT_rows (hy y List.mem_cons_self)).1
      rw [this _ ha]
      exact (cutL_ok 124 (bytS s)).1
    · rintro ⟨hv, he⟩
      have hb : bytS s = prgL (parsP s) := by rw [← he, bytS_ba, he]
      generalize parsP s = p at hv hb
      have hs := (valid_of hv).toShape
      have hrows := rows_of hv
      have hp : p ≠ [] := fun e => by subst e; exact absurd hv (by decide)
      have hc : cutL 124 (bytS s) = p.map rowL := by
        rw [hb]
        unfold prgL
        refine cutL_join (by simpa using hp) fun l hl => ?_
        obtain ⟨xs, hm, rfl⟩ := List.mem_map.1 hl
        exact rowL_bar (rowB_ins (hrows xs hm))
      have hrowI : ∀ xs ∈ p, rowI (rowL xs) = xs ∧ okT (rowL xs) = true := fun xs hm => by
        have hx := rowB_ins (hrows xs hm)
        by_cases h0 : xs = []
        · subst h0
          exact ⟨rfl, rfl⟩
        · have hne := rowL_cons h0 hx
          unfold rowI okT
          rw [if_neg hne, cut_row h0 hx, map_dec hx]
          refine ⟨rfl, ?_⟩
          rw [Bool.or_eq_true]
          refine .inr (List.all_eq_true.2 fun l hl => ?_)
          obtain ⟨x, hmx, rfl⟩ := List.mem_map.1 hl
          exact okW_ins (hx x hmx)
      refine ⟨?_, ?_⟩
      · unfold allOk
        rw [hc, List.all_eq_true]
        intro t ht
        obtain ⟨xs, hm, rfl⟩ := List.mem_map.1 ht
        exact (hrowI xs hm).2
      · unfold rowsI
        rw [hc, List.map_map]
        have : ∀ q : Prg, (∀ xs ∈ q, rowI (rowL xs) = xs) → q.map (rowI ∘ rowL) = q := by
          intro q
          induction q with
          | nil => intro _; rfl
          | cons y q ih =>
            intro hy
            rw [List.map_cons, ih fun x hm => hy x (List.mem_cons_of_mem _ hm)]
            congr 1
            exact hy y List.mem_cons_self
        rw [this _ fun xs hm => (hrowI xs hm).1]
        exact hv
  unfold impRes parRes
  by_cases h : allOk s = true ∧ progValid (rowsI s) = true
  · rw [if_pos h, if_pos (key.1 h)]
    have : parsP s = rowsI s := by
      obtain ⟨ha, hv⟩ := h
      have hs := (valid_of hv).toShape
      unfold allOk at ha
      rw [List.all_eq_true] at ha
      have hlen : (cutL 124 (bytS s)).length ≤ 3 := by
        have := hs.len
        unfold rowsI at this
        rwa [List.length_map] at this
      have hrow : ∀ t ∈ cutL 124 (bytS s), (rowI t).length ≤ 7 := fun t ht => by
        obtain ⟨i, hi, rfl⟩ := List.mem_iff_getElem.1 ht
        exact hs.row i _ (by unfold rowsI; rw [List.getElem?_map, List.getElem?_eq_getElem hi]; rfl)
      unfold parsP parsTo rowsI
      rw [List.take_of_length_le (by omega)]
      exact List.map_congr_left fun t ht => parRow_eq (ha t ht) (hrow t ht)
    rw [this]
  · rw [if_neg h, if_neg fun h' => h (key.2 h')]
/-- How large what impl.ParseProgram reads can grow. -/
theorem lens_join (c : UInt8) : ∀ r : List (List UInt8), r ≠ [] → (Lib.join r [c]).length + 1 = (r.map fun x => x.length + 1).sum
  | [], h => absurd rfl h
  | [x], _ => by simp [Lib.join_one]
  | x :: y :: r, _ => by
    rw [join_two _ (by simp), List.length_append, List.length_append, List.map_cons, List.sum_cons, ← lens_join c (y :: r) (by simp)]
    simp
    omega
theorem rowI_len (t : List UInt8) : (rowI t).length ≤ t.length + 1 := by
  unfold rowI
  split
  · simp
  · rw [List.length_map]; exact cutL_len 59 t
theorem rowsI_size (s : ByteArray) (hs : s.size ≤ 1048576) : sizeP (rowsI s) ≤ 2100000 := by
  obtain ⟨h1, _, h3⟩ := cutL_ok 124 (bytS s)
  have hl := lens_join 124 _ h3
  rw [h1, size_bytS] at hl
  have hn := cutL_len 124 (bytS s)
  rw [size_bytS] at hn
  have : ∀ r : List (List UInt8), ((r.map rowI).map List.length).sum ≤ (r.map fun x => x.length + 1).sum := by
    intro r
    induction r with
    | nil => simp
    | cons x r ih =>
      have := rowI_len x
      simp only [List.map_cons, List.sum_cons]
      omega
  have := this (cutL 124 (bytS s))
  unfold sizeP rowsI
  rw [List.length_map]
  omega
end Go.Proofs.YtmeoclkngjboiaaDoor
namespace Go.Proofs.YtmeoclkngjboiaaDoor
open Go.RowKit Go.Shelf
set_option linter.unusedVariables false
set_option linter.unusedSimpArgs false

def Tryd.lays146_ren : Go.Shelf.Ren := ⟨fun | 138 => 86 | 143 => 87 | 146 => 31 | 195 => 96 | 197 => 97 | 217 => 107 | 218 => 98 | 219 => 99 | 221 => 59 | 224 => 109 | 225 => 108 | 260 => 106 | 266 => 116 | 267 => 110 | 268 => 85 | 314 => 117 | n => n, fun | 0 => 0 | 3 => 3 | 4 => 4 | 5 => 5 | 9 => 9 | 21 => 21 | 31 => 42 | 46 => 67 | 51 => 95 | 105 => 107 | 119 => 120 | 138 => 122 | 139 => 123 | 146 => 124 | n => n, fun | 1 => 0 | 3 => 2 | 4 => 3 | n => n⟩
theorem Tryd.lays146 : Go.Proofs.Lays.n146 Tryd.prog Tryd.lays146_ren := {
  mixed := by kernel_rfl
  f138 := Tryd.func86.trans (congrArg some (by kernel_rfl))
  f143 := Tryd.func87.trans (congrArg some (by kernel_rfl))
  f146 := Tryd.func31.trans (congrArg some (by kernel_rfl))
  f195 := Tryd.func96.trans (congrArg some (by kernel_rfl))
  f197 := Tryd.func97.trans (congrArg some (by kernel_rfl))
  f217 := Tryd.func107.trans (congrArg some (by kernel_rfl))
  f218 := Tryd.func98.trans (congrArg some (by kernel_rfl))
  f219 := Tryd.func99.trans (congrArg some (by kernel_rfl))
  f221 := Tryd.func59.trans (congrArg some (by kernel_rfl))
  f224 := Tryd.func109.trans (congrArg some (by kernel_rfl))
  f225 := Tryd.func108.trans (congrArg some (by kernel_rfl))
  f260 := Tryd.func106.trans (congrArg some (by kernel_rfl))
  f266 := Tryd.func116.trans (congrArg some (by kernel_rfl))
  f267 := Tryd.func110.trans (congrArg some (by kernel_rfl))
  f268 := Tryd.func85.trans (congrArg some (by kernel_rfl))
  f314 := Tryd.func117.trans (congrArg some (by kernel_rfl))
  t0 := Tryd.underlying0
  a0 := Tryd.isAgg0
  z0 := Tryd.sizeOf0
  v0 := Tryd.zeroValue0
  t3 := Tryd.underlying3
  a3 := Tryd.isAgg3
  z3 := Tryd.sizeOf3
  v3 := Tryd.zeroValue3
  t4 := Tryd.underlying4
  a4 := Tryd.isAgg4
  z4 := Tryd.sizeOf4
  v4 := Tryd.zeroValue4
  t5 := Tryd.underlying5
  a5 := Tryd.isAgg5
  z5 := Tryd.sizeOf5
  v5 := Tryd.zeroValue5
  t9 := Tryd.underlying9
  a9 := Tryd.isAgg9
  z9 := Tryd.sizeOf9
  v9 := Tryd.zeroValue9
  t21 := Tryd.underlying21
  a21 := Tryd.isAgg21
  z21 := Tryd.sizeOf21
  v21 := Tryd.zeroValue21
  t31 := Tryd.underlying42
  a31 := Tryd.isAgg42
  z31 := Tryd.sizeOf42
  v31 := Tryd.zeroValue42
  t46 := Tryd.underlying67
  a46 := Tryd.isAgg67
  z46 := Tryd.sizeOf67
  v46 := Tryd.zeroValue67
  t51 := Tryd.underlying95
  a51 := Tryd.isAgg95
  z51 := Tryd.sizeOf95
  v51 := Tryd.zeroValue95
  t105 := Tryd.underlying107
  a105 := Tryd.isAgg107
  z105 := Tryd.sizeOf107
  v105 := Tryd.zeroValue107
  t119 := Tryd.underlying120
  a119 := Tryd.isAgg120
  z119 := Tryd.sizeOf120
  t138 := Tryd.underlying122
  a138 := Tryd.isAgg122
  z138 := Tryd.sizeOf122
  v138 := Tryd.zeroValue122
  t139 := Tryd.underlying123
  a139 := Tryd.isAgg123
  z139 := Tryd.sizeOf123
  v139 := Tryd.zeroValue123
  t146 := Tryd.underlying124
  a146 := Tryd.isAgg124
  z146 := Tryd.sizeOf124
  v146 := Tryd.zeroValue124
  g1 := by kernel_rfl
  g3 := by kernel_rfl
  g4 := by kernel_rfl }
theorem Tryd.strings_Split (s sep : ByteArray) (m : Int) (w : World) (hs : s.size < 4294967281) (hm : w.cell? ⟨0, 0, none⟩ = some (.int .i64 m)) (h1 : 1 ≤ sep.size) :
    Calls Tryd.prog 31 #[.string s, .string sep] w fun e w' => e = .returned (.slice (some ⟨w.heap.size, 0, none⟩) (Lib.countB s sep + 1) (Lib.countB s sep + 1)) ∧ w' = w.alloc (.cells ((Lib.splitB sep 0 (Lib.countB s sep) s).map Value.string).toArray 9) :=
  Any.strings_Split Tryd.lays146 (by kernel_rfl) s sep m w hs hm h1
theorem splitB_cut (s : ByteArray) (c : UInt8) : (Lib.splitB ⟨#[c]⟩ 0 (Lib.countB s ⟨#[c]⟩) s).map Value.string = sL (cutL c (bytS s)) ∧ (cutL c (bytS s)).length = Lib.countB s ⟨#[c]⟩ + 1 := by
  have h1 := Lib.splitB_data ⟨#[c]⟩ 0 (Lib.countB s ⟨#[c]⟩) s
  have h2 : (Lib.splitB ⟨#[c]⟩ 0 (Lib.countB s ⟨#[c]⟩) s).map (·.data.toList) = cutL c (bytS s) := by
    rw [h1, ← split_cut]
    rfl
  refine ⟨?_, ?_⟩
  · rw [← h2]
    unfold sL
    rw [List.map_map]
    exact List.map_congr_left fun x _ => by
      show Value.string x = Value.string (ba x.data.toList)
      congr 1
  · rw [← h2, List.length_map, Lib.splitB_all _ (Nat.le_refl _) 0 _ _ rfl]
theorem split_c (w : World) (s : ByteArray) (c : UInt8) (m : Int) (hs : s.size ≤ 1048576) (hm : w.cell? ⟨0, 0, none⟩ = some (.int .i64 m)) :
    Calls Tryd.prog 31 #[.string s, .string ⟨#[c]⟩] w fun e w' => e = .returned (.slice (some ⟨w.heap.size, 0, none⟩) (cutL c (bytS s)).length (cutL c (bytS s)).length) ∧ w'.ownsRow w.heap.size 9 1 (.slice (some ⟨w.heap.size, 0, none⟩) (cutL c (bytS s)).length (cutL c (bytS s)).length) (cutL c (bytS s)).length (sL (cutL c (bytS s))) ∧ Below w.heap.size w w' := by
  obtain ⟨h1, h2⟩ := splitB_cut s c
  have hn := cutL_len c (bytS s)
  rw [size_bytS] at hn
  refine (Tryd.strings_Split s ⟨#[c]⟩ m w (by omega) hm (Nat.le_refl _)).mono ?_
  rintro e w' ⟨rfl, rfl⟩
  rw [h1, ← h2]
  exact ⟨rfl, ⟨by rw [length_sL, Nat.mul_one], .inr ⟨_, _, _, rfl, Nat.le_refl _, heap_alloc_new w _, Nat.le_refl _, by unfold maxLen; omega, by simp [length_sL], by simp; rw [List.take_of_length_le (by rw [length_sL]; exact Nat.le_refl _)]⟩⟩, (Below.refl _ _).alloc (Nat.le_refl _) _⟩
end Go.Proofs.YtmeoclkngjboiaaDoor
namespace Go.Proofs.YtmeoclkngjboiaaDoor
open Go.RowKit
set_option linter.unusedVariables false
set_option linter.unusedSimpArgs false

def insAt (e : Nat) : Ins := ⟨((e / 36 + 1 : Nat) : Int), ((e / 12 % 3 : Nat) : Int), ((e / 4 % 3 : Nat) : Int), ((e % 4 : Nat) : Int)⟩
def allTo : Nat → List Ins
  | 0 => []
  | e + 1 => allTo e ++ if insValid (insAt e) then [insAt e] else []
def allI : List Ins := allTo 180
theorem insAt_eq (o l r v : Nat) (ho : 1 ≤ o) (hl : l < 3) (hr : r < 3) (hv : v < 4) : insAt ((o - 1) * 36 + l * 12 + r * 4 + v) = ⟨(o : Nat), (l : Nat), (r : Nat), (v : Nat)⟩ := by
  unfold insAt
  have e1 : ((o - 1) * 36 + l * 12 + r * 4 + v) / 36 + 1 = o := by omega
  have e2 : ((o - 1) * 36 + l * 12 + r * 4 + v) / 12 % 3 = l := by omega
  have e3 : ((o - 1) * 36 + l * 12 + r * 4 + v) / 4 % 3 = r := by omega
  have e4 : ((o - 1) * 36 + l * 12 + r * 4 + v) % 4 = v := by omega
  rw [e1, e2, e3, e4]
theorem allTo_yes {e : Nat} (h : insValid (insAt e) = true) : allTo (e + 1) = allTo e ++ [insAt e] := by
  show _ ++ (if _ then _ else _) = _
  rw [if_pos h]
theorem allTo_no {e : Nat} (h : insValid (insAt e) = false) : allTo (e + 1) = allTo e := by
  show _ ++ (if _ then _ else _) = _
  rw [if_neg (by rw [h]; decide), List.append_nil]
theorem allTo_len : ∀ e, (allTo e).length ≤ e
  | 0 => Nat.le_refl _
  | e + 1 => by
    have := allTo_len e
    show (allTo e ++ _).length ≤ _
    rw [List.length_append]
    split <;> simp <;> omega

set_option maxRecDepth 100000 in
set_option maxHeartbeats 3200000 in
theorem allI_c (w : World) : Calls Tryd.prog 29 #[] w fun e w' => ∃ a cap, e = .returned (.slice a allI.length cap) ∧ w'.ownsRow w.heap.size 46 4 (.slice a allI.length cap) allI.length (insV allI) ∧ Below w.heap.size w w' := by
  have HYES := hid (fun e (h : insValid (insAt e) = true) => allTo_yes h)
  have HNO := hid (fun e (h : insValid (insAt e) = false) => allTo_no h)
  have HAT := hid insAt_eq
  have HLE := hid allTo_len
  have HALL := hid (show allTo 180 = allI from rfl)
  have HO0 := hid (World.ownsRow_nil w w.heap.size 46 4)
  go_enter Tryd.func29, Tryd.ntmps29
  go_wp2
  go_loopw [1, 2] (fun v o wr => ∃ i : Nat, 1 ≤ i ∧ i ≤ 6 ∧ o = .int .i64 i ∧ Hid (wr.ownsRow w.heap.size 46 4 v (allTo ((i - 1) * 36)).length (insV (allTo ((i - 1) * 36)))) ∧ Hid (Below w.heap.size w wr)) (fun _ o _ => 6 - (intOf o).toNat)
  case atStart => exact ⟨1, Nat.le_refl _, by omega, rfl, HO0, hid (Below.refl _ _)⟩
  case round =>
    obtain ⟨i, hi1, hi6, rfl, HO, HB⟩ := hrel
    by_cases hi : i ≤ 5
    · have hi' : (i : Int) ≤ 5 := by omega
      have HE0 := hid (show (i - 1) * 36 = (i - 1) * 36 + 0 * 12 from by omega)
      rw [HE0.out] at HO
      go_wp2_with fail
      go_loopw [1, 11] (fun v o wr => ∃ l : Nat, l ≤ 3 ∧ o = .int .i64 l ∧ Hid (wr.ownsRow w.heap.size 46 4 v (allTo ((i - 1) * 36 + l * 12)).length (insV (allTo ((i - 1) * 36 + l * 12)))) ∧ Hid (Below w.heap.size w wr)) (fun _ o _ => 3 - (intOf o).toNat)
      case atStart => exact ⟨0, by omega, rfl, HO, HB⟩
      case round =>
        obtain ⟨l, hl3, rfl, HO, HB⟩ := hrel
        by_cases hl : l < 3
        · have hl' : (l : Int) < 3 := by omega
          have HE0 := hid (show (i - 1) * 36 + l * 12 = (i - 1) * 36 + l * 12 + 0 * 4 from by omega)
          rw [HE0.out] at HO
          go_wp2_with fail
          go_loopw [1, 14] (fun v o wr => ∃ r : Nat, r ≤ 3 ∧ o = .int .i64 r ∧ Hid (wr.ownsRow w.heap.size 46 4 v (allTo ((i - 1) * 36 + l * 12 + r * 4)).length (insV (allTo ((i - 1) * 36 + l * 12 + r * 4)))) ∧ Hid (Below w.heap.size w wr)) (fun _ o _ => 3 - (intOf o).toNat)
          case atStart => exact ⟨0, by omega, rfl, HO, HB⟩
          case round =>
            obtain ⟨r, hr3, rfl, HO, HB⟩ := hrel
            by_cases hr : r < 3
            · have hr' : (r : Int) < 3 := by omega
              have HE0 := hid (show (i - 1) * 36 + l * 12 + r * 4 = (i - 1) * 36 + l * 12 + r * 4 + 0 from by omega)
              rw [HE0.out] at HO
              go_wp2_with fail
              go_loopw [1, 17] (fun v o wr => ∃ k : Nat, k ≤ 4 ∧ o = .int .i64 k ∧ Hid (wr.ownsRow w.heap.size 46 4 v (allTo ((i - 1) * 36 + l * 12 + r * 4 + k)).length (insV (allTo ((i - 1) * 36 + l * 12 + r * 4 + k)))) ∧ Hid (Below w.heap.size w wr)) (fun _ o _ => 4 - (intOf o).toNat)
              case atStart => exact ⟨0, by omega, rfl, HO, HB⟩
              case round =>
                obtain ⟨k, hk4, rfl, HO, HB⟩ := hrel
                obtain ⟨wo, rfl⟩ : ∃ wo : World, wo = wr := ⟨_, rfl⟩
                by_cases hk : k < 4
                · have hk' : (k : Int) < 4 := by omega
                  have HEQ := hid (HAT.out i l r k hi1 hl hr hk)
                  have HLL := hid (HLE.out ((i - 1) * 36 + l * 12 + r * 4 + k))
                  have hEB : (i - 1) * 36 + l * 12 + r * 4 + k ≤ 180 := by omega
                  have HY := hid (HYES.out ((i - 1) * 36 + l * 12 + r * 4 + k))
                  have HN := hid (HNO.out ((i - 1) * 36 + l * 12 + r * 4 + k))
                  have HNX := hid (show (i - 1) * 36 + l * 12 + r * 4 + (k + 1) = (i - 1) * 36 + l * 12 + r * 4 + k + 1 from by omega)
                  obtain ⟨E, hE⟩ : ∃ E, E = (i - 1) * 36 + l * 12 + r * 4 + k := ⟨_, rfl⟩
                  rw [← hE] at HEQ HLL HY HN HNX HO hEB
                  have HV := hid (fun w => validI_c w (insAt E))
                  rw [HEQ.out] at HV HY HN
                  have HOA := hid (HO.out.alloc (.cells #[.int .i64 i, .int .i64 l, .int .i64 r, .int .i64 k] 46))
                  have HBA := hid (HB.out.alloc HB.out.size (.cells #[.int .i64 i, .int .i64 l, .int .i64 r, .int .i64 k] 46))
                  have hll := HLL.out
                  clear hE
                  by_cases hv : insValid ⟨(i : Nat), (l : Nat), (r : Nat), (k : Nat)⟩ = true
                  · have HYE := hid (HY.out hv)
                    rw [hv] at HV
                    clear hv
                    go_wp2_with fail
                    refine (HV.out _).mono ?_
                    rintro e w3 ⟨rfl, hb3⟩
                    have HO3 := hid ((own_below HOA.out hb3).alloc (.cells #[.int .i64 i, .int .i64 l, .int .i64 r, .int .i64 k] 46))
                    have HB3' := hid (HBA.out.trans (hb3.mono HBA.out.size))
                    have HB3 := hid (HB3'.out.alloc HB3'.out.size (.cells #[.int .i64 i, .int .i64 l, .int .i64 r, .int .i64 k] 46))
                    have hs3 := HB3'.out.size
                    have y0 : w3.cell? ⟨wo.heap.size, 0, none⟩ = some (.int .i64 i) := by rw [hb3.cell (by simp)]; simp
                    have y1 : w3.cell? ⟨wo.heap.size, 1, none⟩ = some (.int .i64 l) := by rw [hb3.cell (by simp)]; simp
                    have y2 : w3.cell? ⟨wo.heap.size, 2, none⟩ = some (.int .i64 r) := by rw [hb3.cell (by simp)]; simp
                    have y3 : w3.cell? ⟨wo.heap.size, 3, none⟩ = some (.int .i64 k) := by rw [hb3.cell (by simp)]; simp
                    clear hb3
                    go_wp2_with (at_builtin; refine wpList_append_ins rfl (.tmp 27) (.tmp 29) rfl w.heap.size _ _ (allTo E) rfl HO3.out ⟨w3.heap.size, 0, none⟩ ⟨(i : Nat), (l : Nat), (r : Nat), (k : Nat)⟩ rfl (ins_laid w3 ⟨(i : Nat), (l : Nat), (r : Nat), (k : Nat)⟩ _) (by omega) (by simp; omega) ?_)
                    intro v4 w4 hown4 hgrow4 hat4
                    have HO4 := hid (show w4.ownsRow w.heap.size 46 4 v4 (allTo (E + 1)).length (insV (allTo (E + 1))) by
                      rw [HYE.out, List.length_append]
                      exact hown4)
                    have HB4 := hid (HB3.out.grown hgrow4 (by simp; omega) (fun b hb => (HO3.out.lt b hb).1))
                    clear hown4 hgrow4 hat4 y0 y1 y2 y3
                    go_wp2_with fail
                    go_roundw
                    case rel => exact ⟨k + 1, by omega, by go_num, by rw [HNX.out]; exact HO4, HB4⟩
                    case measure => simp [intOf]; omega
                  · have hv : insValid ⟨(i : Nat), (l : Nat), (r : Nat), (k : Nat)⟩ = false := by simpa using hv
                    have HNE := hid (HN.out hv)
                    rw [hv] at HV
                    clear hv
                    go_wp2_with fail
                    refine (HV.out _).mono ?_
                    rintro e w3 ⟨rfl, hb3⟩
                    have HO3 := hid (own_below HOA.out hb3)
                    have HB3 := hid (HBA.out.trans (hb3.mono HBA.out.size))
                    clear hb3
                    go_wp2_with fail
                    go_roundw
                    case rel => exact ⟨k + 1, by omega, by go_num, by rw [HNX.out, HNE.out]; exact HO3, HB3⟩
                    case measure => simp [intOf]; omega
                · have HK := hid (show (i - 1) * 36 + l * 12 + r * 4 + k = (i - 1) * 36 + l * 12 + (r + 1) * 4 by omega)
                  rw [HK.out] at HO
                  go_wp2_with fail
                  go_roundw
                  case rel => exact ⟨r + 1, by omega, by go_num, HO, HB⟩
                  case measure => simp [intOf]; omega
            · have HK := hid (show (i - 1) * 36 + l * 12 + r * 4 = (i - 1) * 36 + (l + 1) * 12 by omega)
              rw [HK.out] at HO
              go_wp2_with fail
              go_roundw
              case rel => exact ⟨l + 1, by omega, by go_num, HO, HB⟩
              case measure => simp [intOf]; omega
        · have HK := hid (show (i - 1) * 36 + l * 12 = (i + 1 - 1) * 36 by omega)
          rw [HK.out] at HO
          go_wp2_with fail
          go_roundw
          case rel => exact ⟨i + 1, by omega, by omega, by go_num, HO, HB⟩
          case measure => simp [intOf]; omega
    · have HI := hid (show (i - 1) * 36 = 180 by omega)
      rw [HI.out, HALL.out] at HO
      obtain ⟨a1, cap1, rfl, _⟩ := own_shape HO.out
      go_wp2
      go_ret
      exact ⟨_, _, rfl, HO.out, HB.out⟩
end Go.Proofs.YtmeoclkngjboiaaDoor
