/-
  PROVED HERE: plain facts on the first way to an outcome with one memory; what a search leaves. CONDITIONS: as each lemma states.
-/
import Derived.Test.YtbncmeggnhggkaaSea
namespace Go.Proofs.Ytbncmeggnhggkaa
open Go.RowKit
set_option linter.unusedVariables false
set_option linter.unusedSimpArgs false

theorem first_none {α : Type} {f : Nat → Option α} : ∀ {n : Nat}, (∀ t, t < n → f t = none) → (List.range n).findSome? f = none
  | n, h => List.findSome?_eq_none_iff.2 fun t ht => h t (List.mem_range.1 ht)
theorem first_some {α : Type} {f : Nat → Option α} {k : Nat} {x : α} (h : ∀ t, t < k → f t = none) (hk : f k = some x) : ∀ n, k < n → (List.range n).findSome? f = some x
  | 0, hn => absurd hn (Nat.not_lt_zero _)
  | n + 1, hn => by
    rw [List.range_succ, List.findSome?_append]
    by_cases e : k = n
    · subst e
      rw [first_none h]
      simp [hk]
    · rw [first_some h hk n (by omega)]
      rfl
theorem left_do3 {p : Prg} {s : St} (h : Good p s) (hv : Shape p) {t : Nat} (hg : goes p s t = true) : left4 p (do3 p s t) < left4 p s := by
  obtain ⟨xs, k, x, hp, hk, hx, hiv, hn, _⟩ := h.next hv hg
  unfold left4
  rw [left_pc h hp hk hx]
  have : 1 ≤ cost4 x := by unfold cost4; split <;> omega
  show ((List.range p.length).map (leftT p (s.pc.set t (s.pc.getD t 0 + 1)))).sum + (s.buf.map List.length).sum < _
  omega
/-- The first way from a state to an outcome. -/
def best3 (p : Prg) (o : List Int) : Nat → St → Option (List Int)
  | 0, _ => none
  | n + 1, s => if done3 p s then (if out3 s = o then some [] else none) else (List.range p.length).findSome? fun t => if goes p s t then (best3 p o n (do3 p s t)).map ((t : Int) :: ·) else none
theorem best3_fuel {p : Prg} (hv : Shape p) (o : List Int) : ∀ (n m : Nat) (s : St), Good p s → left4 p s < n → left4 p s < m → best3 p o n s = best3 p o m s
  | 0, _, s, _, h, _ => absurd h (Nat.not_lt_zero _)
  | _ + 1, 0, s, _, _, h => absurd h (Nat.not_lt_zero _)
  | n + 1, m + 1, s, hg, h1, h2 => by
    unfold best3
    split
    · rfl
    · congr 1
      funext t
      split
      · rename_i hgo
        have := left_do3 hg hv hgo
        rw [best3_fuel hv o n m _ (hg.do3 hv hgo) (by omega) (by omega)]
      · rfl
def bestS (p : Prg) (o : List Int) (s : St) : Option (List Int) := best3 p o (left4 p s + 1) s
theorem bestS_done {p : Prg} {o : List Int} {s : St} (h : done3 p s = true) : bestS p o s = if out3 s = o then some [] else none := by
  unfold bestS best3
  rw [if_pos h]
theorem bestS_step {p : Prg} (hv : Shape p) {o : List Int} {s : St} (hg : Good p s) (h : done3 p s = false) : bestS p o s = (List.range p.length).findSome? fun t => if goes p s t then (bestS p o (do3 p s t)).map ((t : Int) :: ·) else none := by
  unfold bestS
  rw [best3, if_neg (by rw [h]; decide)]
  congr 1
  funext t
  split
  · rename_i hgo
    have := left_do3 hg hv hgo
    rw [best3_fuel hv o _ (left4 p (do3 p s t) + 1) _ (hg.do3 hv hgo) this (by omega)]
  · rfl
/-- A way is no longer than what is left. -/
theorem best3_len {p : Prg} (hv : Shape p) (o : List Int) : ∀ (n : Nat) (s : St) (π : List Int), Good p s → best3 p o n s = some π → π.length ≤ left4 p s
  | 0, s, π, _, h => by cases h
  | n + 1, s, π, hg, h => by
    unfold best3 at h
    split at h
    · split at h
      · cases h; simp
      · cases h
    · obtain ⟨t, _, ht⟩ := List.exists_of_findSome?_eq_some h
      split at ht
      · rename_i hgo
        obtain ⟨π', h1, rfl⟩ := Option.map_eq_some_iff.1 ht
        have := best3_len hv o n _ _ (hg.do3 hv hgo) h1
        have := left_do3 hg hv hgo
        rw [List.length_cons]
        omega
      · cases ht
/-- Marked states with less left have no way to the outcome. -/
def Sound (p : Prg) (o : List Int) (tb : List (List ByteArray)) (n : Nat) : Prop := ∀ s, G3 p s → left4 p s < n → foundT tb (keyS s) = true → bestS p o s = none
def Grow (p : Prg) (tb tb' : List (List ByteArray)) (n : Nat) : Prop := ∀ t, foundT tb' t = true → foundT tb t = true ∨ ∃ s, G3 p s ∧ left4 p s < n ∧ t = keyS s
theorem Grow.refl (p : Prg) (tb : List (List ByteArray)) (n : Nat) : Grow p tb tb n := fun t h => .inl h
/-- A state is marked, what is behind it is searched without success. -/
theorem Sound.sub {p : Prg} (hv : Shape p) {o : List Int} {tb tb2 : List (List ByteArray)} {n : Nat} {s : St} (h : Sound p o tb n) (hl : tb.length = 4096) (hs : G3 p s) (hn : left4 p s < n) : Sound p o (markT tb (keyS s)) (left4 p s) := by
  intro s' hs' hlt hf
  rcases (found_mark hl _ _).1 hf with hf | he
  · exact h s' hs' (by omega) hf
  · have := hs'.inj hs hv he
    subst this
    omega
theorem Sound.back {p : Prg} (hv : Shape p) {o : List Int} {tb tb2 : List (List ByteArray)} {n : Nat} {s : St} (h : Sound p o tb n) (hl : tb.length = 4096) (hs : G3 p s) (hn : left4 p s < n) (hb : bestS p o s = none)
    (hg : Grow p (markT tb (keyS s)) tb2 (left4 p s)) (h2 : Sound p o tb2 (left4 p s)) : Sound p o tb2 n := by
  intro s' hs' hlt hf
  rcases hg _ hf with hf1 | ⟨s2, h3, h4, h5⟩
  · rcases (found_mark hl _ _).1 hf1 with hf1 | he
    · exact h s' hs' hlt hf1
    · rw [hs'.inj hs hv he]
      exact hb
  · have := hs'.inj h3 hv h5
    subst this
    exact h2 s' hs' h4 hf
theorem Grow.back {p : Prg} {tb0 tb tb2 : List (List ByteArray)} {n : Nat} {s : St} (h : Grow p tb0 tb n) (hl : tb.length = 4096) (hs : G3 p s) (hn : left4 p s < n)
    (hg : Grow p (markT tb (keyS s)) tb2 (left4 p s)) : Grow p tb0 tb2 n := by
  intro t ht
  rcases hg t ht with hf | ⟨s2, h3, h4, h5⟩
  · rcases (found_mark hl _ _).1 hf with hf | he
    · exact h t hf
    · exact .inr ⟨s, hs, hn, he⟩
  · exact .inr ⟨s2, h3, by omega, h5⟩
/-- The state s can be read, and stays so while the blocks of N are left alone. -/
def Kp (w : World) (N : Nat → Prop) (q : Sp) (s : St) : Prop := ∀ w', Keeps (fun b => ¬ N b) w w' → RdS w' q s
theorem Kp.rd {w : World} {N : Nat → Prop} {q : Sp} {s : St} (h : Kp w N q s) : RdS w q s := h w (Keeps.refl _ _)
theorem Kp.step {w w' : World} {N S : Nat → Prop} {q : Sp} {s : St} (h : Kp w N q s) (hk : Keeps S w w') (hs : ∀ b, S b → ¬ N b) : Kp w' N q s := fun w2 h2 => h w2 ((hk.mono hs).trans h2)
theorem Fresh.kp {w : World} {B : Nat} {q : Sp} {s : St} (h : Fresh w B q s) : Kp w (fun b => B ≤ b ∧ b < w.heap.size) q s := fun w' hk =>
  (h.keeps (S := fun b => b < B) ⟨hk.os, hk.tape, hk.output, hk.size, fun k h1 h2 => hk.block k h1 (fun e => e ⟨Nat.not_lt.1 h2, h1⟩)⟩ (fun b h1 (h2 : b < B) => by omega)).rd
/-- A state beside the table. -/
def StA (w : World) (S : Nat → Prop) (q : Sp) (s : St) : Prop := ∃ N, Kp w N q s ∧ ∀ b, N b → b < w.heap.size ∧ ¬ S b
theorem StA.rd {w : World} {S : Nat → Prop} {q : Sp} {s : St} (h : StA w S q s) : RdS w q s := by obtain ⟨N, h1, _⟩ := h; exact h1.rd
theorem StA.below {w w' : World} {S : Nat → Prop} {q : Sp} {s : St} (h : StA w S q s) (hb : Below w.heap.size w w') : StA w' S q s := by
  obtain ⟨N, h1, h2⟩ := h
  exact ⟨N, h1.step (S := fun _ => False) (Keeps.of_below hb) (fun _ e => e.elim), fun b hn => ⟨Nat.lt_of_lt_of_le (h2 b hn).1 hb.size, (h2 b hn).2⟩⟩
theorem StA.change {w w' : World} {S S' : Nat → Prop} {q : Sp} {s : St} (h : StA w S q s) (hk : Keeps S w w') (hS : ∀ b, S' b → S b ∨ w.heap.size ≤ b) : StA w' S' q s := by
  obtain ⟨N, h1, h2⟩ := h
  refine ⟨N, h1.step hk (fun b hb hn => (h2 b hn).2 hb), fun b hn => ⟨Nat.lt_of_lt_of_le (h2 b hn).1 hk.size, fun hs => ?_⟩⟩
  rcases hS b hs with h | h
  · exact (h2 b hn).2 h
  · have := (h2 b hn).1; omega
theorem Fresh.sta {w w' : World} {S : Nat → Prop} {q : Sp} {s : St} (h : Fresh w' w.heap.size q s) (hS : ∀ b, S b → b < w.heap.size) : StA w' S q s :=
  ⟨_, h.kp, fun b hb => ⟨hb.2, fun hs => by have := hS b hs; have := hb.1; omega⟩⟩
end Go.Proofs.Ytbncmeggnhggkaa
