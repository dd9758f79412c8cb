/-
  PROVED HERE: words for the loop over the moves in the closure of impl.search. CONDITIONS: as each lemma states.
-/
import Derived.Test.YtbncmeggnhggkaaSrc
namespace Go.Proofs.Ytbncmeggnhggkaa
open Go.RowKit
set_option linter.unusedVariables false
set_option linter.unusedSimpArgs false

theorem findSome_at {α β : Type} {f : α → Option β} {r : β} : ∀ (xs : List α) (k : Nat) (x : α), xs[k]? = some x → (∀ (i : Nat) (y : α), i < k → xs[i]? = some y → f y = none) → f x = some r → xs.findSome? f = some r
  | [], k, x, h, _, _ => by simp at h
  | y :: ys, 0, x, h, _, hf => by
    simp only [List.getElem?_cons_zero, Option.some.injEq] at h
    subst h
    rw [List.findSome?_cons, hf]
  | y :: ys, k + 1, x, h, hn, hf => by
    rw [List.findSome?_cons, hn 0 y (by omega) rfl]
    exact findSome_at ys k x (by simpa using h) (fun i z hi hz => hn (i + 1) z (by omega) (by simpa using hz)) hf
theorem findSome_no {α β : Type} {f : α → Option β} (xs : List α) (h : ∀ (i : Nat) (y : α), xs[i]? = some y → f y = none) : xs.findSome? f = none := by
  rw [List.findSome?_eq_none_iff]
  intro x hx
  obtain ⟨i, hi⟩ := List.mem_iff_getElem?.1 hx
  exact h i x hi
theorem moves3_at {p : Prg} {s : St} {k : Nat} {x : Int} (h : (moves3 p s)[k]? = some x) : ∃ t : Nat, x = (t : Int) ∧ goes p s t = true := by
  have hm := List.mem_of_getElem? h
  unfold moves3 at hm
  obtain ⟨t, ht, rfl⟩ := List.mem_map.1 hm
  exact ⟨t, rfl, (List.mem_filter.1 ht).2⟩
theorem own_pop {w : World} {base e n cap : Nat} {a : Option Addr} {xs : List Value} {x : Value} (h : w.ownsRow base e 1 (.slice a (n + 1) cap) (n + 1) (xs ++ [x])) : w.ownsRow base e 1 (.slice a n cap) n xs := by
  have hl : xs.length = n := by have := h.1; rw [List.length_append] at this; simp at this; omega
  refine ⟨by omega, ?_⟩
  rcases h.2 with ⟨_, h0⟩ | ⟨g, cap', cur, hv, hb, hg, hn, hc, hs, ht⟩
  · omega
  · simp only [Value.slice.injEq, true_and] at hv
    obtain ⟨rfl, rfl⟩ := hv
    refine .inr ⟨g, cap, cur, rfl, hb, hg, by omega, hc, hs, ?_⟩
    have h2 := congrArg (List.take n) ht
    rw [List.take_take, Nat.min_eq_left (by omega), List.take_append_of_le_length (Nat.le_of_eq hl.symm), List.take_of_length_le (l := xs) (Nat.le_of_eq hl)] at h2
    rw [Nat.mul_one]
    exact h2
theorem own_one1 (w : World) (base : Nat) (x : Value) (e : TypeId) (h : base ≤ w.heap.size) : (w.alloc (.cells #[x] e)).ownsRow base e 1 (.slice (some ⟨w.heap.size, 0, none⟩) 1 1) 1 [x] :=
  ⟨rfl, .inr ⟨w.heap.size, 1, #[x], rfl, h, heap_alloc_new w _, Nat.le_refl _, by decide, rfl, rfl⟩⟩
theorem keeps_trans1 {S S2 : Nat → Prop} {a b c : World} (h : Keeps S a b) (k : Keeps S2 b c) (hs : ∀ j, j < a.heap.size → S2 j → S j) : Keeps S a c :=
  ⟨k.os.trans h.os, k.tape.trans h.tape, k.output.trans h.output, Nat.le_trans h.size k.size, fun j hj hn => (k.block j (Nat.lt_of_lt_of_le hj h.size) fun e => hn (hs j hj e)).trans (h.block j hj hn)⟩
/-- The list of moves: readable, away from what the closure turns. -/
structure LvA (w : World) (S0 : Nat) (ra va : Option Addr) (xs : List Int) : Prop where
  rd : Rd w va (ints xs)
  lt : ∀ k, blk va = some k → k < w.heap.size ∧ ¬ SrS S0 ra k
section
variable {w0 w wr w' : World} {ao ra ra2 ra3 va : Option Addr} {no co S0 rc rc2 rc3 m m' b cap n k : Nat} {L L2 L3 : List (List UInt8)} {ms ms' : List Int} {a : Option Addr} {p : Prg} {s : St} {o : List Int}
theorem LvA.turn {xs : List Int} (h : LvA w S0 ra2 va xs) (hk : Keeps (SrS S0 ra2) w w') (hr : ∀ k, blk ra3 = some k → blk ra2 = some k ∨ w.heap.size ≤ k) : LvA w' S0 ra3 va xs := by
  refine ⟨h.rd.keeps hk fun j hj => (h.lt j hj).2, fun j hj => ⟨Nat.lt_of_lt_of_le (h.lt j hj).1 hk.size, fun e => ?_⟩⟩
  rcases e with e | e | e
  · exact (h.lt j hj).2 (.inl e)
  · exact (h.lt j hj).2 (.inr (.inl e))
  · rcases hr j e with h1 | h1
    · exact (h.lt j hj).2 (.inr (.inr h1))
    · have := (h.lt j hj).1; omega
/-- What the closure holds while it goes through the moves. -/
structure SrL (w0 w wr : World) (a : Option Addr) (cap : Nat) (p : Prg) (o : List Int) (ao : Option Addr) (no co S0 : Nat) (L L2 : List (List UInt8)) (ra ra2 : Option Addr) (rc2 m : Nat) (ms : List Int) (n b : Nat) (s : St) (va : Option Addr) (k : Nat) : Prop where
  sw : SrW w0 wr ao no co S0 L2 ra2 rc2 m ms
  st : SqA wr a cap p S0 ra2 b s
  lv : LvA wr S0 ra2 va (moves3 p s)
  fo : FailOk p o L2
  gr : GrowF p L L2 n
  kp : Keeps (SrS S0 ra) w wr
  nb : ∀ j, blk ra2 = some j → blk ra = some j ∨ w.heap.size ≤ j
  no : ∀ i x, i < k → (moves3 p s)[i]? = some x → bestS p o (do3 p s x.toNat) = none
theorem SrL.turn (h : SrL w0 w wr a cap p o ao no co S0 L L2 ra ra2 rc2 m ms n b s va k) (hw : SrW w0 w' ao no co S0 L3 ra3 rc3 m' ms') (hf : FailOk p o L3) (hg : GrowF p L2 L3 n) (hk : Keeps (SrS S0 ra2) wr w') (hr : ∀ k, blk ra3 = some k → blk ra2 = some k ∨ wr.heap.size ≤ k) :
    SrL w0 w w' a cap p o ao no co S0 L L3 ra ra3 rc3 m' ms' n b s va k := by
  refine ⟨hw, h.st.turn hk hr, h.lv.turn hk hr, hf, h.gr.trans hg (Nat.le_refl _), keeps_trans1 h.kp hk fun j hj e => ?_, fun j hj => ?_, h.no⟩
  · rcases e with e | e | e
    · exact .inl e
    · exact .inr (.inl e)
    · rcases h.nb j e with h1 | h1
      · exact .inr (.inr h1)
      · omega
  · rcases hr j hj with h1 | h1
    · exact h.nb j h1
    · exact .inr (Nat.le_trans h.kp.size h1)
theorem SrL.step (h : SrL w0 w wr a cap p o ao no co S0 L L2 ra ra2 rc2 m ms n b s va k) (hb : Below wr.heap.size wr w') : SrL w0 w w' a cap p o ao no co S0 L L2 ra ra2 rc2 m ms n b s va k :=
  h.turn (h.sw.step hb) h.fo (GrowF.refl _ _ _) (Keeps.of_below hb) fun k hk => .inl hk
theorem SrL.next (h : SrL w0 w wr a cap p o ao no co S0 L L2 ra ra2 rc2 m ms n b s va k) {x : Int} (hx : (moves3 p s)[k]? = some x) (hb : bestS p o (do3 p s x.toNat) = none) : SrL w0 w wr a cap p o ao no co S0 L L2 ra ra2 rc2 m ms n b s va (k + 1) := by
  refine ⟨h.sw, h.st, h.lv, h.fo, h.gr, h.kp, h.nb, fun i y hi hy => ?_⟩
  by_cases he : i = k
  · subst he
    rw [hx] at hy
    cases hy
    exact hb
  · exact h.no i y (by omega) hy
/-- A new row for the moves, written to their cell. -/
theorem SrW.rows {w w' : World} (h : SrW w0 w ao no co S0 L ra2 rc2 m ms) (hk : Keeps (fun j => blk ra2 = some j) w w') (ho : w'.ownsRow (S0 + 3) 3 1 (.slice ra3 m' rc3) m' (ints ms')) (hb : ∀ b, blk ra3 = some b → b = S0 + 3 ∨ S0 + 6 ≤ b) :
    SrW w0 (w'.setCell ⟨S0 + 4, 0, none⟩ (.slice ra3 m' rc3)) ao no co S0 L ra3 rc3 m' ms' ∧ Keeps (SrS S0 ra2) w (w'.setCell ⟨S0 + 4, 0, none⟩ (.slice ra3 m' rc3)) := by
  have ht := h.top
  have hs := hk.size
  have h0 := h.s0
  have oth : ∀ k, k < w.heap.size → k ≠ S0 + 3 → k < S0 + 6 → w'.heap[k]? = w.heap[k]? := fun k hk' hne hlt => hk.block k hk' fun e => by
    rcases h.rb k e with h1 | h1 <;> omega
  have hK : Keeps (SrS S0 ra2) w (w'.setCell ⟨S0 + 4, 0, none⟩ (.slice ra3 m' rc3)) := (hk.mono fun j hj => .inr (.inr hj)).trans ((Keeps.setCell _ _ _).mono fun j hj => .inr (.inl hj))
  have oth2 : ∀ k, k < w.heap.size → k ≠ S0 + 3 → k ≠ S0 + 4 → k < S0 + 6 → (w'.setCell ⟨S0 + 4, 0, none⟩ (.slice ra3 m' rc3)).heap[k]? = w.heap[k]? := fun k hk' hne hne4 hlt => (heap_setCell_other w' ⟨S0 + 4, 0, none⟩ k _ hne4).trans (oth k hk' hne hlt)
  refine ⟨⟨Proofs.Ytbncmeggnhggkaa.Below.keeps (S := SrS S0 ra2) h.below hK h.below.size (fun k e => ?_), h.s0, ?_, (oth2 _ (by omega) (by omega) (by omega) (by omega)).trans h.c0, (h.mp.keeps (S := fun j => blk ra2 = some j) hk (fun e => ?_)).keeps (S := (· = S0 + 4)) (Keeps.setCell w' ⟨S0 + 4, 0, none⟩ _) (fun e => by omega), (oth2 _ (by omega) (by omega) (by omega) (by omega)).trans h.c2, ?_, (oth2 _ (by omega) (by omega) (by omega) (by omega)).trans h.c5, own_keeps ho (Keeps.setCell _ _ _) (fun b hb' e => ?_), hb⟩, hK⟩
  · rcases e with e | e | e
    · omega
    · omega
    · rcases h.rb k e with h1 | h1 <;> omega
  · have := hK.size; omega
  · rcases h.rb _ e with h1 | h1 <;> omega
  · exact heap_setCell_same w' (S0 + 4) 0 _ _ _ ((oth _ (by omega) (by omega) (by omega)).trans h.c4)
  · rcases hb b hb' with h1 | h1 <;> (simp only at e; omega)
end
end Go.Proofs.Ytbncmeggnhggkaa
