/-
  PROVED HERE: plain facts on the search with failed texts: what the failed texts say, that they are few. CONDITIONS: as each lemma states.
-/
import Derived.Test.YtbncmeggnhggkaaBst
import Derived.Test.YtbncmeggnhggkaaVtx
namespace Go.Proofs.Ytbncmeggnhggkaa
open Go.RowKit
set_option linter.unusedVariables false
set_option linter.unusedSimpArgs false

/-- The bytes of the text by which the program tells states apart. -/
def keyL (s : St) : List UInt8 := (strOfNums (keyV s)).data.toList
theorem pad_inj {k : Nat} {xs ys : List Int} (hl : xs.length = ys.length) (h : pad k xs = pad k ys) : xs = ys := by
  unfold pad at h
  exact (List.append_inj h hl).1
theorem G3.smallV {p : Prg} {s : St} (h : G3 p s) (hv : Shape p) : ∀ x ∈ keyV s, 0 ≤ x ∧ x ≤ 255 := by
  intro x hx
  unfold keyV pad at hx
  rcases List.mem_append.1 hx with hx | hx
  · rcases List.mem_append.1 hx with hx | hx
    · have := h.toGood.pc7 hv x hx; omega
    · have := (List.mem_replicate.1 hx).2; omega
  · rcases List.mem_append.1 hx with hx | hx
    · rcases List.mem_append.1 hx with hx | hx
      · have := h.regb x hx; omega
      · have := (List.mem_replicate.1 hx).2; omega
    · have := h.memb x hx; omega
theorem G3.injV {p : Prg} {s s' : St} (h : G3 p s) (h' : G3 p s') (hv : Shape p) (he : keyL s = keyL s') : s = s' := by
  have h1 : keyV s = keyV s' := by
    refine strOfNums_inj (h.smallV hv) (h'.smallV hv) (ByteArray.ext (Array.toList_inj.1 he))
  unfold keyV at h1
  have hl := h.toGood.vlen hv
  have hl' := h'.toGood.vlen hv
  have e1 := List.append_inj h1 (by rw [length_pad hl.pc, length_pad hl'.pc])
  have e2 := List.append_inj e1.2 (by rw [length_pad hl.regs, length_pad hl'.regs])
  have p1 := pad_inj (by rw [h.pcl, h'.pcl]) e1.1
  have p2 := pad_inj (by rw [h.regl, h'.regl]) e2.1
  have e3 : s.buf = s'.buf := by rw [h.nobuf, h'.nobuf]
  cases s; cases s'
  simp only at p1 p2 e2 e3
  rw [p1, p2, e2.2, e3]
theorem keyL_size {s : St} (h : ValLen s) : (strOfNums (keyV s)).size ≤ 2000000 := by
  rw [strOfNums_size, keyV_len h]
  decide
/-- The failed texts: each once, each the text of a state. -/
structure FailOk (p : Prg) (o : List Int) (L : List (List UInt8)) : Prop where
  nd : L.Nodup
  st : ∀ l ∈ L, ∃ s, G3 p s ∧ l = keyL s
  no : ∀ s, G3 p s → keyL s ∈ L → bestS p o s = none
theorem FailOk.len {p : Prg} {o : List Int} {L : List (List UInt8)} (h : FailOk p o L) (hv : Shape p) : L.length < 9000000000000000000 := by
  obtain ⟨f, hf⟩ : ∃ f : List UInt8 → Nat, ∀ t ∈ L, ∃ s, G3 p s ∧ t = keyL s ∧ f t = code3 s := by
    refine ⟨fun t => open Classical in if h : ∃ s, G3 p s ∧ t = keyL s then code3 h.choose else 0, fun t ht => ?_⟩
    have h := h.st t ht
    refine ⟨h.choose, h.choose_spec.1, h.choose_spec.2, ?_⟩
    simp only
    rw [dif_pos h]
  have := nodup_code f (8 ^ 3 * 4 ^ 12) L h.nd (fun t ht => by obtain ⟨s, h1, _, h3⟩ := hf t ht; rw [h3]; exact h1.code_lt hv) (fun t ht u hu e => by
    obtain ⟨s, h1, h2, h3⟩ := hf t ht
    obtain ⟨s', h1', h2', h3'⟩ := hf u hu
    rw [h3, h3'] at e
    rw [h2, h2', h1.code_inj h1' hv e])
  exact Nat.lt_of_le_of_lt this (by decide)
theorem FailOk.start (p : Prg) (o : List Int) : FailOk p o [] := ⟨.nil, fun l h => (by cases h), fun s _ h => (by cases h)⟩
/-- From L the failed texts have grown to L', by states with less than n left. -/
def GrowF (p : Prg) (L L' : List (List UInt8)) (n : Nat) : Prop := ∀ l ∈ L', l ∈ L ∨ ∃ s, G3 p s ∧ left4 p s < n ∧ l = keyL s
theorem GrowF.refl (p : Prg) (L : List (List UInt8)) (n : Nat) : GrowF p L L n := fun l h => .inl h
theorem GrowF.trans {p : Prg} {L L' L2 : List (List UInt8)} {n m : Nat} (h : GrowF p L L' n) (h2 : GrowF p L' L2 m) (hm : m ≤ n) : GrowF p L L2 n := by
  intro l hl
  rcases h2 l hl with h3 | ⟨s, h3, h4, h5⟩
  · exact h l h3
  · exact .inr ⟨s, h3, by omega, h5⟩
/-- A state whose search has failed is put to the failed texts. -/
theorem FailOk.put {p : Prg} {o : List Int} {L L' : List (List UInt8)} {s : St} (hv : Shape p) (h : FailOk p o L') (hs : G3 p s) (hn : keyL s ∉ L) (hg : GrowF p L L' (left4 p s)) (hb : bestS p o s = none) : FailOk p o (L' ++ [keyL s]) := by
  have hnot : keyL s ∉ L' := fun hm => by
    rcases hg _ hm with h1 | ⟨s', h1, h2, h3⟩
    · exact hn h1
    · have := hs.injV h1 hv h3
      subst this
      omega
  refine ⟨?_, fun l hl => ?_, fun s' hs' hl => ?_⟩
  · rw [List.nodup_append]
    refine ⟨h.nd, by simp, fun a ha b hb => ?_⟩
    rw [List.mem_singleton] at hb
    rintro rfl
    subst hb
    exact hnot ha
  · rcases List.mem_append.1 hl with hl | hl
    · exact h.st l hl
    · rw [List.mem_singleton] at hl
      exact ⟨s, hs, hl⟩
  · rcases List.mem_append.1 hl with hl | hl
    · exact h.no s' hs' hl
    · rw [List.mem_singleton] at hl
      rw [hs'.injV hs hv hl]
      exact hb
theorem GrowF.put {p : Prg} {L L' : List (List UInt8)} {s : St} {n : Nat} (hs : G3 p s) (hn : left4 p s < n) (hg : GrowF p L L' n) : GrowF p L (L' ++ [keyL s]) n := by
  intro l hl
  rcases List.mem_append.1 hl with hl | hl
  · exact hg l hl
  · rw [List.mem_singleton] at hl
    exact .inr ⟨s, hs, hn, hl⟩
/-- The moves of a state, one by one: the first that leads on. -/
theorem bestS_moves {p : Prg} (hv : Shape p) {o : List Int} {s : St} (hg : Good p s) (hd : done3 p s = false) : bestS p o s = (moves3 p s).findSome? fun m => (bestS p o (do3 p s m.toNat)).map (m :: ·) := by
  rw [bestS_step hv hg hd]
  unfold moves3
  rw [List.findSome?_map]
  generalize List.range p.length = R
  induction R with
  | nil => rfl
  | cons t R ih =>
    cases h : goes p s t with
    | false =>
      rw [List.findSome?_cons, List.filter_cons_of_neg (by rw [h]; decide), ← ih]
      simp [h]
    | true =>
      rw [List.findSome?_cons, List.filter_cons_of_pos h, List.findSome?_cons, ← ih]
      simp [h]
end Go.Proofs.Ytbncmeggnhggkaa
