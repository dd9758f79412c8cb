/-
  PROVED HERE: rows of bytes that a conversion of a text has made (a mark stands behind their last cell): append to them, their text. CONDITIONS: as each theorem states.
-/
import Derived.Lib.FrozenHead
import Derived.Lib.ConvBytes
import Derived.Test.YtbncmeggnhggkaaVtx
namespace Go.Proofs.Ytbncmeggnhggkaa
open Go.RowKit
set_option linter.unusedVariables false
set_option linter.unusedSimpArgs false

theorem run_storeCells_atT (P : Program) (g o : Nat) (t : TypeId) (fz : Nat × Nat) : ∀ (vs : List Value) (i : Nat) (cur : Array Value) (w : World), w.heap[g]? = some (.cells cur t fz) → (fz.2 ≤ fz.1 ∨ cur.size ≤ fz.1) → o + i + vs.length ≤ cur.size → (∀ v ∈ vs, v.oneCell' = true) →
    (storeCells ⟨g, o, none⟩ vs i).run P w = .ok () (w.setRow g (cur.toList.take (o + i) ++ vs ++ cur.toList.drop (o + i + vs.length)).toArray)
  | [], i, cur, w, hg, _, _, _ => by
    simp only [storeCells, List.append_nil, List.length_nil, Nat.add_zero, List.take_append_drop, Array.toArray_toList]
    rw [setRow_self w g cur t fz hg]
    rfl
  | v :: rest, i, cur, w, hg, hfz, hl, h1 => by
    have hi : o + i < cur.size := by simp at hl; omega
    have hadd : (⟨g, o, none⟩ : Addr).add i = ⟨g, o + i, none⟩ := by unfold Addr.add; split <;> simp_all
    have hcell : w.cell? ⟨g, o + i, none⟩ = some cur[o + i] := by simp [World.cell?, hg, hi]
    have hfro : w.frozen? ⟨g, o + i, none⟩ = false := by
      obtain ⟨lo, hi'⟩ := fz
      simp only at hfz
      simp only [World.frozen?, hg, Bool.and_eq_false_iff, decide_eq_false_iff_not]
      omega
    have hst : (store ((⟨g, o, none⟩ : Addr).add i) v).run P w = .ok () (w.setRow g (cur.setIfInBounds (o + i) v)) := by
      rw [hadd, run_store P w _ v _ (h1 v (by simp)), hcell]
      simp [hfro, setCell_eq_setRow w g (o + i) cur t fz v hg]
    have ih := run_storeCells_atT P g o t fz rest (i + 1) (cur.setIfInBounds (o + i) v) (w.setRow g (cur.setIfInBounds (o + i) v)) (setRow_heap w g cur _ t _ hg) (by simpa using hfz) (by simp at hl ⊢; omega) (fun x hx => h1 x (by simp [hx]))
    simp only [storeCells, Sem.run_bind, hst, Result.andThen_ok, ih, setRow_setRow]
    congr 3
    have e := list_seg_step cur.toList (o + i) v rest (by simp at hl ⊢; omega)
    simpa [Array.toList_setIfInBounds, Nat.add_assoc] using e
theorem run_append_roomT {P : Program} (w : World) (t ty e : TypeId) (i : TypeInfo) (ht : P.underlying t = some (.slice e)) (hi : P.info? e = some i)
    (g sLen sCap : Nat) (cur : Array Value) (fz : Nat × Nat) (hg : w.heap[g]? = some (.cells cur e fz)) (hfz : fz.2 ≤ fz.1 ∨ cur.size ≤ fz.1)
    (a : Addr) (m c : Nat) (news : List Value) (hl : news.length = m * i.size) (hnews : ∀ j u, news[j]? = some u → w.cell? (a.add j) = some u) (h1 : ∀ u ∈ news, u.oneCell' = true)
    (hroom : sLen + m ≤ sCap) (hfit : sLen * i.size + news.length ≤ cur.size) :
    (Builtin.append_ #[t, t] ty #[.slice (some ⟨g, 0, none⟩) sLen sCap, .slice (some a) m c]).run P w =
      .ok (.slice (some ⟨g, 0, none⟩) (sLen + m) sCap) (w.setRow g (cur.toList.take (sLen * i.size) ++ news ++ cur.toList.drop (sLen * i.size + news.length)).toArray) := by
  have hf := run_firstCells_some (P := P) w i.size m a m c news hl hnews
  have hst := run_storeCells_atT P g (sLen * i.size) e fz news 0 cur w hg hfz (by simpa using hfit) h1
  simp only [Nat.add_zero] at hst
  simp [Builtin.append_, run_underlying ht, sizeOf, typeInfo, hi, Builtin.lenOf, hroom, hf, Addr.add_lit, hst]
/-- A row of bytes that the call owns, a mark perhaps behind its last cell. -/
def OwT (w : World) (base : Nat) (v : Value) (n : Nat) (xs : List Value) : Prop :=
  xs.length = n ∧ ∃ g cap cur fz, v = .slice (some ⟨g, 0, none⟩) n cap ∧ base ≤ g ∧ w.heap[g]? = some (.cells cur 5 fz) ∧ (fz.2 ≤ fz.1 ∨ cap ≤ fz.1) ∧ n ≤ cap ∧ cap ≤ maxLen ∧ cur.size = cap ∧ cur.toList.take n = xs
theorem OwT.keeps {w w' : World} {S : Nat → Prop} {base n : Nat} {v : Value} {xs : List Value} (h : OwT w base v n xs) (hk : Keeps S w w') (hs : ∀ b, v.ownBlock = some b → ¬ S b) : OwT w' base v n xs := by
  obtain ⟨hl, g, cap, cur, fz, rfl, hb, hg, rest⟩ := h
  exact ⟨hl, g, cap, cur, fz, rfl, hb, (hk.block g (Array.getElem?_eq_some_iff.1 hg).1 (hs g rfl)).trans hg, rest⟩
theorem OwT.below {w w' : World} {base n : Nat} {v : Value} {xs : List Value} (h : OwT w base v n xs) (hb : Below w.heap.size w w') : OwT w' base v n xs :=
  h.keeps (S := fun _ => False) (Keeps.of_below hb) fun _ _ e => e
theorem OwT.blk {w : World} {base n : Nat} {v : Value} {xs : List Value} (h : OwT w base v n xs) : ∀ b, v.ownBlock = some b → base ≤ b ∧ b < w.heap.size := by
  intro b hb
  obtain ⟨_, g, cap, cur, fz, rfl, hbg, hg, _⟩ := h
  simp only [Value.ownBlock, Option.some.injEq] at hb
  subst hb
  exact ⟨hbg, (Array.getElem?_eq_some_iff.1 hg).1⟩
theorem OwT.shape {w : World} {base n : Nat} {v : Value} {xs : List Value} (h : OwT w base v n xs) : ∃ g cap, v = .slice (some ⟨g, 0, none⟩) n cap ∧ g < w.heap.size := by
  obtain ⟨_, g, cap, cur, fz, rfl, _, hg, _⟩ := h
  exact ⟨g, cap, rfl, (Array.getElem?_eq_some_iff.1 hg).1⟩
theorem OwT.cell {w : World} {base n g cap : Nat} {a : Option Addr} {xs : List Value} (h : OwT w base (.slice a n cap) n xs) : ∃ g, a = some ⟨g, 0, none⟩ ∧ ∀ j u, xs[j]? = some u → w.cell? ⟨g, j, none⟩ = some u := by
  obtain ⟨_, g, cap, cur, fz, hv, _, hg, _, _, _, _, ht⟩ := h
  simp only [Value.slice.injEq, true_and] at hv
  obtain ⟨rfl, rfl⟩ := hv
  refine ⟨g, rfl, fun j u hu => ?_⟩
  rw [cell_of_row w g j cur _ _ hg]
  rw [← ht, List.getElem?_take] at hu
  split at hu
  · simpa using hu
  · cases hu
/-- '[]byte(s)': a row of the call's own. -/
theorem owT_conv (w : World) (xs : List Int) (hx : ∀ x ∈ xs, 0 ≤ x ∧ x ≤ 255) (hl : xs.length ≤ 1000000) : ∃ v w', (convert 9 138 (.string (strOfNums xs))).run Try.prog w = .ok v w' ∧ OwT w' w.heap.size v xs.length (kbs xs) ∧ Below w.heap.size w w' := by
  have hsz : (strOfNums xs).size = xs.length := by rw [strOfNums_size]
  refine ⟨_, _, Go.Lib.run_convert_string_bytes w 9 138 5 (strOfNums xs) Try.underlying9 Try.underlying138 Try.underlying5, ?_, ?_⟩
  · have hge := grownCap_ge w (strOfNums xs).size 0 5
    have hcm := grownCap_le_maxLen w (strOfNums xs).size 0 5 (by unfold maxLen; omega)
    have hcs : (Go.Lib.bytesCells w 5 (strOfNums xs)).size = grownCap w (strOfNums xs).size 0 5 := by
      unfold Go.Lib.bytesCells
      have : (strOfNums xs).data.size = (strOfNums xs).size := rfl
      simp [this]
      omega
    rw [hsz] at hge hcm hcs ⊢
    refine ⟨by simp, w.heap.size, _, _, _, rfl, Nat.le_refl _, Go.Lib.bytesWorld_at_new w 5 _, ?_, hge, hcm, hcs, ?_⟩
    · right
      rw [hcs]
      exact Nat.le_refl _
    · unfold Go.Lib.bytesCells
      rw [Array.toList_append, List.take_append_of_le_length (by simp; omega), List.take_of_length_le (by simp; omega)]
      rw [Array.toList_map, strOfNums_data]
      simp only [List.map_map]
      apply List.map_congr_left
      intro x hxm
      obtain ⟨h0, h1⟩ := hx x hxm
      simp only [Function.comp]
      congr 1
      rw [UInt8.toNat_ofNat']
      omega
  · refine ⟨rfl, rfl, rfl, by rw [Go.Lib.bytesWorld_size]; omega, fun k hk => Go.Lib.bytesWorld_at_old w _ _ k hk⟩
theorem run_append_T (w : World) (base : Nat) (v : Value) (n : Nat) (xs : List Value) (hown : OwT w base v n xs) (src : Option Addr) (m c : Nat) (cs : List Value) (hrd : Rd w src cs) (hl : cs.length = m) (h1 : ∀ u ∈ cs, u.oneCell' = true) (hx1 : ∀ u ∈ xs, u.oneCell' = true) (h63 : n + m ≤ 1000000000) (hbase : base ≤ w.heap.size) (ty : TypeId) :
    ∃ v' w', (Builtin.append_ #[138, 138] ty #[v, .slice src m c]).run Try.prog w = .ok v' w' ∧ OwT w' base v' (n + m) (xs ++ cs) ∧ w.grownBy w' v.ownBlock := by
  obtain ⟨i, hi, hz, hs1, hb1⟩ := info_parts Try.info_u8
  obtain ⟨hxl, g, cap, cur, fz, rfl, hbg, hg, hfz, hnc, hcm, hcs, htake⟩ := hown
  cases src with
  | none =>
    rcases hrd with rfl | ⟨b, off, hb, _⟩
    · simp at hl
      subst hl
      refine ⟨_, w, ?_, ⟨by simpa using hxl, g, cap, cur, fz, rfl, hbg, hg, hfz, hnc, hcm, hcs, by simpa using htake⟩, ⟨rfl, rfl, rfl, Nat.le_refl _, fun _ _ _ => rfl⟩⟩
      simp [Builtin.append_, run_underlying Try.underlying138, sizeOf, typeInfo, hi, Builtin.lenOf, Builtin.firstCells, hnc, storeCells]
    · cases hb
  | some a =>
    have hnews : ∀ j u, cs[j]? = some u → w.cell? (a.add j) = some u := by
      intro j u hj
      rcases hrd with rfl | ⟨b, off, hb, _, hc⟩
      · simp at hj
      · cases hb
        rw [Addr.add_lit]
        exact hc j u hj
    by_cases hroom : n + m ≤ cap
    · have hr := run_append_roomT (P := Try.prog) w 138 ty 5 i Try.underlying138 hi g n cap cur fz hg (by rw [hcs]; exact hfz) a m c cs (by rw [hs1, Nat.mul_one]; exact hl) hnews h1 hroom (by rw [hs1, Nat.mul_one, hl, hcs]; exact hroom)
      rw [hs1, Nat.mul_one] at hr
      refine ⟨_, _, hr, ⟨by rw [List.length_append, hxl, hl], g, cap, _, fz, rfl, hbg, setRow_heap w g cur _ 5 _ hg, hfz, hroom, hcm, ?_, ?_⟩, ⟨rfl, rfl, rfl, by simp, fun k _ hk => setRow_other w g k _ (fun e => hk (by simp [Value.ownBlock, e]))⟩⟩
      · simp only [List.size_toArray, List.length_append, List.length_take, List.length_drop, Array.length_toList]
        omega
      · have hxm : (xs ++ cs).length = n + m := by rw [List.length_append, hxl, hl]
        rw [htake, ← hxm]
        exact List.take_left
    · have holds : ∀ j u, xs[j]? = some u → w.cell? ((⟨g, 0, none⟩ : Addr).add j) = some u := by
        intro j u hu
        rw [Addr.add_lit, Nat.zero_add, cell_of_row w g j cur _ _ hg]
        rw [← htake, List.getElem?_take] at hu
        split at hu
        · simpa using hu
        · cases hu
      have hr := run_append_grow (P := Try.prog) w 138 ty 5 i _ Try.underlying138 hi hz ⟨g, 0, none⟩ n cap xs (by rw [hs1, Nat.mul_one]; exact hxl) holds a m c cs (by rw [hs1, Nat.mul_one]; exact hl) hnews (by omega) (by omega) (growslice_fits (by omega) (by rw [hb1]; omega))
      refine ⟨_, _, hr, ⟨by rw [List.length_append, hxl, hl], w.heap.size, _, _, (0, 0), rfl, hbase, heap_alloc_new w.drew _, .inl (Nat.le_refl _), grownCap_ge w (n + m) cap 5, grownCap_le_maxLen w (n + m) cap 5 (by unfold maxLen; omega), ?_, ?_⟩, ⟨rfl, rfl, rfl, by simp, fun k hk _ => Go.heap_alloc_old w.drew _ hk⟩⟩
      · have hge := grownCap_ge w (n + m) cap 5
        simp only [Array.size_append, List.size_toArray, size_zeroCells, Value.cells, hxl, hl]
        simp
        omega
      · have hxm : (xs ++ cs).length = n + m := by rw [List.length_append, hxl, hl]
        simp only [Array.toList_append, List.append_assoc]
        rw [← List.append_assoc, ← hxm]
        exact List.take_left
theorem wpList_append_T {ops : Array Oper} {Q : Exit → Act → World → Prop} {a : Act} {w : World} {o : Oper} {rest : List Oper} (hgd : o.guard = none) (s x : Operand)
    (ho : o.op = .call { callee := .builtin .append, args := #[s, x], argTypes := #[138, 138] })
    (base : Nat) (v : Value) (n : Nat) (xs : List Value) (hs : a.eval s = v) (hown : OwT w base v n xs)
    (src : Option Addr) (m c : Nat) (cs : List Value) (hx : a.eval x = .slice src m c) (hrd : Rd w src cs) (hl : cs.length = m) (h1 : ∀ u ∈ cs, u.oneCell' = true) (hx1 : ∀ u ∈ xs, u.oneCell' = true)
    (h63 : n + m ≤ 1000000000) (hbase : base ≤ w.heap.size)
    (h : ∀ v' w', OwT w' base v' (n + m) (xs ++ cs) → w.grownBy w' v.ownBlock → wpList Try.prog ops Q rest (a.put o.dst v') w') : wpList Try.prog ops Q (o :: rest) a w := by
  refine wpList_plain hgd fun K hK => ?_
  obtain ⟨v', w', hrun, q1, q2⟩ := run_append_T w base v n xs hown src m c cs hrd hl h1 hx1 h63 hbase o.type
  unfold Oper.wp execOp
  simp only [ho, resolve, invoke, builtin, Sem.run_bind, Sem.run_pure, Result.andThen_ok, List.map_toArray, List.map_cons, List.map_nil, hs, hx, hrun]
  exact hK _ _ (h v' w' q1 q2)
theorem conv_T {w : World} {base n cap g : Nat} {xs : List Int} (h : OwT w base (.slice (some ⟨g, 0, none⟩) n cap) n (kbs xs)) (hn : n = xs.length) : (convert 138 9 (.slice (some ⟨g, 0, none⟩) n cap)).run Try.prog w = .ok (.string (strOfNums xs)) w := by
  subst hn
  obtain ⟨g', e, hc⟩ := h.cell (g := 0) (cap := cap)
  cases e
  refine run_convert_bytes_arg w 138 5 Try.underlying138 Try.underlying5 g 0 xs.length cap xs rfl (fun i hi => ?_) 9 Try.underlying9
  rw [Nat.zero_add, hc i (.int .u8 xs[i]) (by simp [hi])]
  simp [List.getD, hi]
end Go.Proofs.Ytbncmeggnhggkaa
