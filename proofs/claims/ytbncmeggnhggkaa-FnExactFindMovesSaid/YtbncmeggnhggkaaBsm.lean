/-
  PROVED HERE: plain facts on the first moves with store buffers that lead to an outcome; texts tell states with buffers apart; what a search leaves. CONDITIONS: as each lemma states.
-/
import Derived.Test.YtbncmeggnhggkaaBst
import Derived.Test.YtbncmeggnhggkaaHis
namespace Go.Proofs.Ytbncmeggnhggkaa
open Go.RowKit
set_option linter.unusedVariables false
set_option linter.unusedSimpArgs false

theorem flatB_split : ∀ (r r' : List (Int × Int)) (c c' : List Int), (∀ e ∈ r, e.1 ≠ 255) → (∀ e ∈ r', e.1 ≠ 255) → (c = [] ∨ ∃ d, c = 255 :: d) → (c' = [] ∨ ∃ d, c' = 255 :: d) → flatB r ++ c = flatB r' ++ c' → r = r' ∧ c = c'
  | [], [], c, c', _, _, _, _, h => ⟨rfl, by simpa [flatB] using h⟩
  | [], e :: r', c, c', _, h2, h3, _, h => by
    exfalso
    have h : c = e.1 :: (e.2 :: (flatB r' ++ c')) := by simpa [flatB] using h
    rcases h3 with rfl | ⟨d, rfl⟩
    · cases h
    · exact h2 e List.mem_cons_self (List.cons.inj h).1.symm
  | e :: r, [], c, c', h1, _, _, h4, h => by
    exfalso
    have h : e.1 :: (e.2 :: (flatB r ++ c)) = c' := by simpa [flatB] using h
    rcases h4 with rfl | ⟨d, rfl⟩
    · cases h
    · exact h1 e List.mem_cons_self (List.cons.inj h).1
  | e :: r, e' :: r', c, c', h1, h2, h3, h4, h => by
    have h : e.1 :: (e.2 :: (flatB r ++ c)) = e'.1 :: (e'.2 :: (flatB r' ++ c')) := by simpa [flatB] using h
    obtain ⟨a1, a2⟩ := List.cons.inj h
    obtain ⟨a2, a3⟩ := List.cons.inj a2
    obtain ⟨b1, b2⟩ := flatB_split r r' c c' (fun x hx => h1 x (List.mem_cons_of_mem _ hx)) (fun x hx => h2 x (List.mem_cons_of_mem _ hx)) h3 h4 a3
    obtain ⟨e1, e2⟩ := e
    obtain ⟨f1, f2⟩ := e'
    simp only at a1 a2
    exact ⟨by rw [a1, a2, b1], b2⟩
theorem keyR_head (b : List (List (Int × Int))) : keyR b = [] ∨ ∃ d, keyR b = 255 :: d := by
  cases b with
  | nil => exact .inl rfl
  | cons r b => exact .inr ⟨flatB r ++ keyR b, by unfold keyR; simp⟩
theorem keyR_inj : ∀ (b b' : List (List (Int × Int))), (∀ r ∈ b, ∀ e ∈ r, e.1 ≠ 255) → (∀ r ∈ b', ∀ e ∈ r, e.1 ≠ 255) → keyR b = keyR b' → b = b'
  | [], [], _, _, _ => rfl
  | [], r :: b', _, _, h => by simp [keyR] at h
  | r :: b, [], _, _, h => by simp [keyR] at h
  | r :: b, r' :: b', h1, h2, h => by
    have h : flatB r ++ keyR b = flatB r' ++ keyR b' := by simpa [keyR] using h
    obtain ⟨e1, e2⟩ := flatB_split r r' _ _ (h1 r List.mem_cons_self) (h2 r' List.mem_cons_self) (keyR_head b) (keyR_head b') h
    rw [e1, keyR_inj b b' (fun x hx => h1 x (List.mem_cons_of_mem _ hx)) (fun x hx => h2 x (List.mem_cons_of_mem _ hx)) e2]
theorem Good4.entm {p : Prg} {split : Bool} {s : St} (h : Good4 p split s) {r : List (Int × Int)} (hr : r ∈ s.buf) {e : Int × Int} (he : e ∈ r) : (0 ≤ e.1 ∧ e.1 ≤ 2) ∧ (0 ≤ e.2 ∧ e.2 ≤ 3) := by
  obtain ⟨i, hi⟩ := List.mem_iff_getElem?.1 hr
  exact h.ent i r hi e he
theorem R4.small {p : Prg} {split : Bool} {s : St} (h : R4 p split s) (hv : Shape p) : ∀ x ∈ Proofs.Ytbncmeggnhggkaa.keyB s, 0 ≤ x ∧ x ≤ 255 := by
  unfold Proofs.Ytbncmeggnhggkaa.keyB
  intro x hx
  rcases List.mem_append.1 hx with hx | hx
  · rcases List.mem_append.1 hx with hx | hx
    · rcases List.mem_append.1 hx with hx | hx
      · have := h.toGood.pc7 hv x hx; omega
      · have := h.regb x hx; omega
    · have := h.memb x hx; omega
  · unfold keyR at hx
    obtain ⟨r, hr, hx⟩ := List.mem_flatMap.1 hx
    rcases List.mem_cons.1 hx with rfl | hx
    · omega
    · unfold flatB at hx
      obtain ⟨e, he, hx⟩ := List.mem_flatMap.1 hx
      have := h.toGood4.entm hr he
      simp at hx
      omega
theorem R4.inj {p : Prg} {split : Bool} {s s' : St} (h : R4 p split s) (h' : R4 p split s') (hv : Shape p) (he : keyS s = keyS s') : s = s' := by
  have h1 := strOfNums_inj (h.small hv) (h'.small hv) he
  unfold Proofs.Ytbncmeggnhggkaa.keyB at h1
  obtain ⟨e1, eb⟩ := List.append_inj h1 (by simp [h.pcl, h'.pcl, h.regl, h'.regl, h.meml, h'.meml])
  obtain ⟨e1, em⟩ := List.append_inj e1 (by simp [h.pcl, h'.pcl, h.regl, h'.regl])
  obtain ⟨ep, er⟩ := List.append_inj e1 (by simp [h.pcl, h'.pcl])
  have e4 := keyR_inj _ _ (fun r hr e he => by have := h.toGood4.entm hr he; omega) (fun r hr e he => by have := h'.toGood4.entm hr he; omega) eb
  cases s; cases s'
  simp only at ep er em e4
  rw [ep, er, em, e4]
theorem TabOk.row_le4 {p : Prg} {split : Bool} {tb : List (List ByteArray)} (h : TabOk (R4 p split) tb) (hv : Shape p) (k : Nat) : (tb.getD k []).length ≤ 8000000000000 := by
  by_cases hk : k < tb.length
  · have hm : tb.getD k [] ∈ tb := by
      rw [List.getD_eq_getElem?_getD, List.getElem?_eq_getElem hk]
      exact List.getElem_mem _
    have key := h.st _ hm
    have hnd := h.nd _ hm
    generalize tb.getD k [] = r at *
    obtain ⟨f, hf⟩ : ∃ f : ByteArray → Nat, ∀ t ∈ r, ∃ s, R4 p split s ∧ t = keyS s ∧ f t = code4 p split s := by
      refine ⟨fun t => open Classical in if h : ∃ s, R4 p split s ∧ t = keyS s then code4 p split h.choose else 0, fun t ht => ?_⟩
      have h := key t ht
      refine ⟨h.choose, h.choose_spec.1, h.choose_spec.2, ?_⟩
      simp only
      rw [dif_pos h]
    have := nodup_code f (8 ^ 3 * 4 ^ 12 * 4 ^ 3) r hnd (fun t ht => by obtain ⟨s, h1, _, h3⟩ := hf t ht; rw [h3]; exact h1.code_lt hv) (fun t ht u hu e => by
      obtain ⟨s, h1, h2, h3⟩ := hf t ht
      obtain ⟨s', h1', h2', h3'⟩ := hf u hu
      rw [h3, h3'] at e
      rw [h2, h2', h1.code_inj h1' hv e])
    exact Nat.le_trans this (by decide)
  · rw [List.getD_eq_getElem?_getD, List.getElem?_eq_none (by omega)]
    simp
/-- The first moves from a state to an outcome. -/
def best4 (p : Prg) (split : Bool) (o : List Int) : Nat → St → Option (List Int)
  | 0, _ => none
  | n + 1, s => if done4 p s then (if out3 s = o then some [] else none) else (List.range (p.length + s.buf.length)).findSome? fun t => if can4 p s split t then (best4 p split o n (do4 p s split t)).map ((t : Int) :: ·) else none
theorem best4_fuel {p : Prg} {split : Bool} (hv : Shape p) (o : List Int) : ∀ (n m : Nat) (s : St), Good4 p split s → left4 p s < n → left4 p s < m → best4 p split o n s = best4 p split o m s
  | 0, _, s, _, h, _ => absurd h (Nat.not_lt_zero _)
  | _ + 1, 0, s, _, _, h => absurd h (Nat.not_lt_zero _)
  | n + 1, m + 1, s, hg, h1, h2 => by
    unfold best4
    split
    · rfl
    · apply findSome_congr
      intro t ht
      have ht := List.mem_range.1 ht
      split
      · rename_i hgo
        have := left_step hg hv ht hgo
        rw [best4_fuel hv o n m _ (hg.do4 hv ht hgo) (by omega) (by omega)]
      · rfl
where
  findSome_congr {α β : Type} {f g : α → Option β} : ∀ {l : List α}, (∀ x ∈ l, f x = g x) → l.findSome? f = l.findSome? g
  | [], _ => rfl
  | x :: l, h => by
    rw [List.findSome?_cons, List.findSome?_cons, h x List.mem_cons_self, findSome_congr fun y hy => h y (List.mem_cons_of_mem _ hy)]
def bestM (p : Prg) (split : Bool) (o : List Int) (s : St) : Option (List Int) := best4 p split o (left4 p s + 1) s
theorem bestM_done {p : Prg} {split : Bool} {o : List Int} {s : St} (h : done4 p s = true) : bestM p split o s = if out3 s = o then some [] else none := by
  unfold bestM best4
  rw [if_pos h]
theorem bestM_step {p : Prg} {split : Bool} (hv : Shape p) {o : List Int} {s : St} (hg : Good4 p split s) (h : done4 p s = false) : bestM p split o s = (List.range (p.length + s.buf.length)).findSome? fun t => if can4 p s split t then (bestM p split o (do4 p s split t)).map ((t : Int) :: ·) else none := by
  unfold bestM
  rw [best4, if_neg (by rw [h]; decide)]
  apply best4_fuel.findSome_congr
  intro t ht
  have ht := List.mem_range.1 ht
  split
  · rename_i hgo
    have := left_step hg hv ht hgo
    rw [best4_fuel hv o _ (left4 p (do4 p s split t) + 1) _ (hg.do4 hv ht hgo) (by omega) (by omega)]
  · rfl
theorem best4_len {p : Prg} {split : Bool} (hv : Shape p) (o : List Int) : ∀ (n : Nat) (s : St) (π : List Int), Good4 p split s → best4 p split o n s = some π → π.length ≤ left4 p s
  | 0, s, π, _, h => by cases h
  | n + 1, s, π, hg, h => by
    unfold best4 at h
    split at h
    · split at h
      · cases h; simp
      · cases h
    · obtain ⟨t, hm, ht⟩ := List.exists_of_findSome?_eq_some h
      have hm := List.mem_range.1 hm
      split at ht
      · rename_i hgo
        obtain ⟨π', h1, rfl⟩ := Option.map_eq_some_iff.1 ht
        have := best4_len hv o n _ _ (hg.do4 hv hm hgo) h1
        have := left_step hg hv hm hgo
        rw [List.length_cons]
        omega
      · cases ht
theorem bestM_none {p : Prg} {split : Bool} (hv : Shape p) {o : List Int} {s : St} (hg : Good4 p split s) (hd : done4 p s = false) (h : ∀ t, t < p.length + s.buf.length → can4 p s split t = true → bestM p split o (do4 p s split t) = none) : bestM p split o s = none := by
  rw [bestM_step hv hg hd]
  refine first_none fun t ht => ?_
  split
  · rename_i hgo
    rw [h t ht hgo]
    rfl
  · rfl
theorem bestM_some {p : Prg} {split : Bool} (hv : Shape p) {o : List Int} {s : St} (hg : Good4 p split s) (hd : done4 p s = false) {k : Nat} (hk : k < p.length + s.buf.length) (hgo : can4 p s split k = true) (h : ∀ t, t < k → can4 p s split t = true → bestM p split o (do4 p s split t) = none) {π : List Int} (hb : bestM p split o (do4 p s split k) = some π) : bestM p split o s = some ((k : Int) :: π) := by
  rw [bestM_step hv hg hd]
  refine first_some (k := k) (fun t ht => ?_) ?_ _ hk
  · split
    · rename_i hgo
      rw [h t ht hgo]
      rfl
    · rfl
  · rw [if_pos hgo, hb]
    rfl
/-- Marked states with less left have no moves to the outcome. -/
def Sound4 (p : Prg) (split : Bool) (o : List Int) (tb : List (List ByteArray)) (n : Nat) : Prop := ∀ s, R4 p split s → left4 p s < n → foundT tb (keyS s) = true → bestM p split o s = none
def Grow4 (p : Prg) (split : Bool) (tb tb' : List (List ByteArray)) (n : Nat) : Prop := ∀ t, foundT tb' t = true → foundT tb t = true ∨ ∃ s, R4 p split s ∧ left4 p s < n ∧ t = keyS s
theorem Grow4.refl (p : Prg) (split : Bool) (tb : List (List ByteArray)) (n : Nat) : Grow4 p split tb tb n := fun t h => .inl h
theorem Sound4.sub {p : Prg} {split : Bool} (hv : Shape p) {o : List Int} {tb : List (List ByteArray)} {n : Nat} {s : St} (h : Sound4 p split o tb n) (hl : tb.length = 4096) (hs : R4 p split s) (hn : left4 p s < n) : Sound4 p split o (markT tb (keyS s)) (left4 p s) := by
  intro s' hs' hlt hf
  rcases (found_mark hl _ _).1 hf with hf | he
  · exact h s' hs' (by omega) hf
  · have := hs'.inj hs hv he
    subst this
    omega
theorem Sound4.back {p : Prg} {split : Bool} (hv : Shape p) {o : List Int} {tb tb2 : List (List ByteArray)} {n : Nat} {s : St} (h : Sound4 p split o tb n) (hl : tb.length = 4096) (hs : R4 p split s) (hn : left4 p s < n) (hb : bestM p split o s = none)
    (hg : Grow4 p split (markT tb (keyS s)) tb2 (left4 p s)) (h2 : Sound4 p split o tb2 (left4 p s)) : Sound4 p split o tb2 n := by
  intro s' hs' hlt hf
  rcases hg _ hf with hf1 | ⟨s2, h3, h4, h5⟩
  · rcases (found_mark hl _ _).1 hf1 with hf1 | he
    · exact h s' hs' hlt hf1
    · rw [hs'.inj hs hv he]
      exact hb
  · have := hs'.inj h3 hv h5
    subst this
    exact h2 s' hs' h4 hf
theorem Grow4.back {p : Prg} {split : Bool} {tb0 tb tb2 : List (List ByteArray)} {n : Nat} {s : St} (h : Grow4 p split tb0 tb n) (hl : tb.length = 4096) (hs : R4 p split s) (hn : left4 p s < n)
    (hg : Grow4 p split (markT tb (keyS s)) tb2 (left4 p s)) : Grow4 p split tb0 tb2 n := by
  intro t ht
  rcases hg t ht with hf | ⟨s2, h3, h4, h5⟩
  · rcases (found_mark hl _ _).1 hf with hf | he
    · exact h t hf
    · exact .inr ⟨s, hs, hn, he⟩
  · exact .inr ⟨s2, h3, by omega, h5⟩
theorem left4_le4 {p : Prg} {split : Bool} {s : St} (h : Good4 p split s) (hv : Shape p) : left4 p s ≤ 1000 := by
  unfold left4
  have key : ∀ n, n ≤ 3 → ((List.range n).map (leftT p s.pc)).sum ≤ 14 * n := by
    intro n
    induction n with
    | zero => intro _; exact Nat.le_refl _
    | succ n ih =>
      intro hn
      have h1 := ih (by omega)
      rw [List.range_succ, List.map_append, List.sum_append]
      have h2 : leftT p s.pc n ≤ 14 := by
        unfold leftT
        have cl : ∀ xs : List Ins, (xs.map cost4).sum ≤ 2 * xs.length := fun xs => by
          induction xs with
          | nil => exact Nat.le_refl _
          | cons x xs ih =>
            simp only [List.map_cons, List.sum_cons, List.length_cons]
            have : cost4 x ≤ 2 := by unfold cost4; split <;> omega
            omega
        refine Nat.le_trans (cl _) ?_
        rw [List.length_drop]
        have : (p.getD n []).length ≤ 7 := by
          rw [List.getD_eq_getElem?_getD]
          cases hx : p[n]? with
          | none => simp
          | some xs => exact hv.row n xs hx
        omega
      simp only [List.map_cons, List.map_nil, List.sum_cons, List.sum_nil]
      omega
  have h1 := key p.length hv.len
  have h2 := hv.len
  have h3 := h.blen hv
  have h4 : ∀ (b : List (List (Int × Int))), (∀ r ∈ b, r.length ≤ 7) → (b.map List.length).sum ≤ 7 * b.length := by
    intro b
    induction b with
    | nil => intro _; exact Nat.le_refl _
    | cons r b ih =>
      intro hr
      have := ih fun r' h' => hr r' (List.mem_cons_of_mem _ h')
      have := hr r List.mem_cons_self
      simp only [List.map_cons, List.sum_cons, List.length_cons]
      omega
  have h5 := h4 s.buf fun r hr => by
    obtain ⟨i, hi⟩ := List.mem_iff_getElem?.1 hr
    exact h.rlen hv hi
  omega
end Go.Proofs.Ytbncmeggnhggkaa
