/-
  PROVED HERE: plain facts on the search with failed texts, with store buffers: what the failed texts say, that they are few. CONDITIONS: as each lemma states.
-/
import Derived.Test.YtbncmeggnhggkaaBsm
import Derived.Test.YtbncmeggnhggkaaSeb
import Derived.Test.YtbncmeggnhggkaaIbk
namespace Go.Proofs.Ytbncmeggnhggkaa
open Go.RowKit
set_option linter.unusedVariables false
set_option linter.unusedSimpArgs false

/-- The bytes of the text by which the program tells states with store buffers apart. -/
def keyL4 (s : St) : List UInt8 := (strOfNums (keyW s)).data.toList
theorem bytesB_inj : ∀ (r r' : List (Int × Int)), (∀ e ∈ r, 0 ≤ e.2 ∧ e.2 ≤ 3) → (∀ e ∈ r', 0 ≤ e.2 ∧ e.2 ≤ 3) → bytesB r = bytesB r' → r = r'
  | [], [], _, _, _ => rfl
  | [], e :: r', _, _, h => by simp [bytesB] at h
  | e :: r, [], _, _, h => by simp [bytesB] at h
  | (a, b) :: r, (c, d) :: r', h1, h2, h => by
    simp only [bytesB, List.map_cons, List.cons.injEq] at h
    have h3 := h1 _ List.mem_cons_self
    have h4 := h2 _ List.mem_cons_self
    simp only at h3 h4
    have e1 : a = c := by omega
    have e2 : b = d := by omega
    rw [e1, e2, bytesB_inj r r' (fun e he => h1 e (List.mem_cons_of_mem _ he)) (fun e he => h2 e (List.mem_cons_of_mem _ he)) h.2]
theorem keyQ_inj : ∀ (b b' : List (List (Int × Int))), b.length = b'.length → (∀ r ∈ b, ∀ e ∈ r, 0 ≤ e.2 ∧ e.2 ≤ 3) → (∀ r ∈ b', ∀ e ∈ r, 0 ≤ e.2 ∧ e.2 ≤ 3) → keyQ b = keyQ b' → b = b'
  | [], [], _, _, _, _ => rfl
  | [], _ :: _, h, _, _, _ => by simp at h
  | _ :: _, [], h, _, _, _ => by simp at h
  | r :: b, r' :: b', hl, h1, h2, h => by
    have h : (r.length : Int) :: (bytesB r ++ keyQ b) = (r'.length : Int) :: (bytesB r' ++ keyQ b') := by simpa [keyQ] using h
    obtain ⟨e1, e2⟩ := List.cons.inj h
    obtain ⟨e2, e3⟩ := List.append_inj e2 (by simp [bytesB]; omega)
    rw [bytesB_inj r r' (h1 r List.mem_cons_self) (h2 r' List.mem_cons_self) e2, keyQ_inj b b' (by simpa using hl) (fun x hx => h1 x (List.mem_cons_of_mem _ hx)) (fun x hx => h2 x (List.mem_cons_of_mem _ hx)) e3]
theorem R4.smallW {p : Prg} {split : Bool} {s : St} (h : R4 p split s) (hv : Shape p) : ∀ x ∈ keyW s, 0 ≤ x ∧ x ≤ 255 := by
  unfold keyW
  intro x hx
  rcases List.mem_append.1 hx with hx | hx
  · exact h.toGood.smallV hv x hx
  · unfold keyQ at hx
    obtain ⟨r, hr, hx⟩ := List.mem_flatMap.1 hx
    rcases List.mem_cons.1 hx with rfl | hx
    · obtain ⟨i, hi⟩ := List.mem_iff_getElem?.1 hr
      have := h.toGood4.rlen hv hi
      omega
    · unfold bytesB at hx
      obtain ⟨e, he, rfl⟩ := List.mem_map.1 hx
      have := h.toGood4.entm hr he
      omega
theorem R4.injV {p : Prg} {split : Bool} {s s' : St} (h : R4 p split s) (h' : R4 p split s') (hv : Shape p) (he : keyL4 s = keyL4 s') : s = s' := by
  have h1 : keyW s = keyW s' := strOfNums_inj (h.smallW hv) (h'.smallW hv) (ByteArray.ext (Array.toList_inj.1 he))
  have hl := h.toGood.vlen hv
  have hl' := h'.toGood.vlen hv
  unfold keyW at h1
  obtain ⟨h1, eb⟩ := List.append_inj h1 (by rw [keyV_len hl, keyV_len hl'])
  unfold keyV at h1
  have e1 := List.append_inj h1 (by rw [length_pad hl.pc, length_pad hl'.pc])
  have e2 := List.append_inj e1.2 (by rw [length_pad hl.regs, length_pad hl'.regs])
  have p1 := pad_inj (by rw [h.pcl, h'.pcl]) e1.1
  have p2 := pad_inj (by rw [h.regl, h'.regl]) e2.1
  have e3 := keyQ_inj _ _ (by rw [h.bufl, h'.bufl]) (fun r hr e he => (h.toGood4.entm hr he).2) (fun r hr e he => (h'.toGood4.entm hr he).2) eb
  cases s; cases s'
  simp only at p1 p2 e2 e3
  rw [p1, p2, e2.2, e3]
theorem keyL4_size {p : Prg} {split : Bool} {s : St} (h : R4 p split s) (hv : Shape p) : (strOfNums (keyW s)).size ≤ 2000000 := by
  rw [strOfNums_size]
  unfold keyW
  rw [List.length_append, keyV_len (h.toGood.vlen hv)]
  have h1 := keyQ_len s.buf fun r hr => by
    obtain ⟨i, hi⟩ := List.mem_iff_getElem?.1 hr
    exact h.toGood4.rlen hv hi
  have h2 := h.toGood4.blen hv
  omega
/-- The failed texts: each once, each the text of a state. -/
structure FailOk4 (p : Prg) (split : Bool) (o : List Int) (L : List (List UInt8)) : Prop where
  nd : L.Nodup
  st : ∀ l ∈ L, ∃ s, R4 p split s ∧ l = keyL4 s
  no : ∀ s, R4 p split s → keyL4 s ∈ L → bestM p split o s = none
theorem FailOk4.len {p : Prg} {split : Bool} {o : List Int} {L : List (List UInt8)} (h : FailOk4 p split o L) (hv : Shape p) : L.length < 9000000000000000000 := by
  obtain ⟨f, hf⟩ : ∃ f : List UInt8 → Nat, ∀ t ∈ L, ∃ s, R4 p split s ∧ t = keyL4 s ∧ f t = code4 p split s := by
    refine ⟨fun t => open Classical in if h : ∃ s, R4 p split s ∧ t = keyL4 s then code4 p split h.choose else 0, fun t ht => ?_⟩
    have h := h.st t ht
    refine ⟨h.choose, h.choose_spec.1, h.choose_spec.2, ?_⟩
    simp only
    rw [dif_pos h]
  have := nodup_code f (8 ^ 3 * 4 ^ 12 * 4 ^ 3) L h.nd (fun t ht => by obtain ⟨s, h1, _, h3⟩ := hf t ht; rw [h3]; exact h1.code_lt hv) (fun t ht u hu e => by
    obtain ⟨s, h1, h2, h3⟩ := hf t ht
    obtain ⟨s', h1', h2', h3'⟩ := hf u hu
    rw [h3, h3'] at e
    rw [h2, h2', h1.code_inj h1' hv e])
  exact Nat.lt_of_le_of_lt this (by decide)
theorem FailOk4.start (p : Prg) (split : Bool) (o : List Int) : FailOk4 p split o [] := ⟨.nil, fun l h => (by cases h), fun s _ h => (by cases h)⟩
/-- From L the failed texts have grown to L', by states with less than n left. -/
def GrowF4 (p : Prg) (split : Bool) (L L' : List (List UInt8)) (n : Nat) : Prop := ∀ l ∈ L', l ∈ L ∨ ∃ s, R4 p split s ∧ left4 p s < n ∧ l = keyL4 s
theorem GrowF4.refl (p : Prg) (split : Bool) (L : List (List UInt8)) (n : Nat) : GrowF4 p split L L n := fun l h => .inl h
theorem GrowF4.trans {p : Prg} {split : Bool} {L L' L2 : List (List UInt8)} {n m : Nat} (h : GrowF4 p split L L' n) (h2 : GrowF4 p split L' L2 m) (hm : m ≤ n) : GrowF4 p split L L2 n := by
  intro l hl
  rcases h2 l hl with h3 | ⟨s, h3, h4, h5⟩
  · exact h l h3
  · exact .inr ⟨s, h3, by omega, h5⟩
/-- A state whose search has failed is put to the failed texts. -/
theorem FailOk4.put {p : Prg} {split : Bool} {o : List Int} {L L' : List (List UInt8)} {s : St} (hv : Shape p) (h : FailOk4 p split o L') (hs : R4 p split s) (hn : keyL4 s ∉ L) (hg : GrowF4 p split L L' (left4 p s)) (hb : bestM p split o s = none) : FailOk4 p split o (L' ++ [keyL4 s]) := by
  have hnot : keyL4 s ∉ L' := fun hm => by
    rcases hg _ hm with h1 | ⟨s', h1, h2, h3⟩
    · exact hn h1
    · have := hs.injV h1 hv h3
      subst this
      omega
  refine ⟨?_, fun l hl => ?_, fun s' hs' hl => ?_⟩
  · rw [List.nodup_append]
    refine ⟨h.nd, by simp, fun a ha b hb => ?_⟩
    rw [List.mem_singleton] at hb
    rintro rfl
    subst hb
    exact hnot ha
  · rcases List.mem_append.1 hl with hl | hl
    · exact h.st l hl
    · rw [List.mem_singleton] at hl
      exact ⟨s, hs, hl⟩
  · rcases List.mem_append.1 hl with hl | hl
    · exact h.no s' hs' hl
    · rw [List.mem_singleton] at hl
      rw [hs'.injV hs hv hl]
      exact hb
theorem GrowF4.put {p : Prg} {split : Bool} {L L' : List (List UInt8)} {s : St} {n : Nat} (hs : R4 p split s) (hn : left4 p s < n) (hg : GrowF4 p split L L' n) : GrowF4 p split L (L' ++ [keyL4 s]) n := by
  intro l hl
  rcases List.mem_append.1 hl with hl | hl
  · exact hg l hl
  · rw [List.mem_singleton] at hl
    exact .inr ⟨s, hs, hn, hl⟩
/-- The moves of a state, one by one: the first that leads on. -/
theorem bestM_moves {p : Prg} {split : Bool} (hv : Shape p) {o : List Int} {s : St} (hg : Good4 p split s) (hd : done4 p s = false) : bestM p split o s = (moves4 p s split).findSome? fun m => (bestM p split o (do4 p s split m.toNat)).map (m :: ·) := by
  rw [bestM_step hv hg hd]
  unfold moves4
  rw [List.findSome?_map]
  generalize List.range (p.length + s.buf.length) = R
  induction R with
  | nil => rfl
  | cons t R ih =>
    cases h : can4 p s split t with
    | false =>
      rw [List.findSome?_cons, List.filter_cons_of_neg (by rw [h]; decide), ← ih]
      simp [h]
    | true =>
      rw [List.findSome?_cons, List.filter_cons_of_pos h, List.findSome?_cons, ← ih]
      simp [h]
end Go.Proofs.Ytbncmeggnhggkaa
