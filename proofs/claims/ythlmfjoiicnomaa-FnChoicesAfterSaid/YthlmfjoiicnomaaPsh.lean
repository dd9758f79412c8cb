/-
  PROVED HERE: append of a row to a program of the call's own; rows of different types lie apart. CONDITIONS: as each theorem states.
-/
import Derived.Test.YthlmfjoiicnomaaBf
import Derived.Test.YthlmfjoiicnomaaPrgA
namespace Go.Proofs.Ythlmfjoiicnomaa
open Go.RowKit
set_option linter.unusedVariables false
set_option linter.unusedSimpArgs false

theorem own_apart {w : World} {base base' e e' size size' n n' : Nat} {a a' : Option Addr} {cap cap' : Nat} {cs cs' : List Value} (h : w.ownsRow base e size (.slice a n cap) n cs) (h' : w.ownsRow base' e' size' (.slice a' n' cap') n' cs') (hne : e ≠ e') : ∀ b, blk a = some b → blk a' ≠ some b := by
  intro b hb hb'
  rcases h.2 with ⟨hv, _⟩ | ⟨g, c, cur, hv, _, hg, _⟩
  · simp only [Value.slice.injEq] at hv
    rw [hv.1] at hb
    cases hb
  · rcases h'.2 with ⟨hv', _⟩ | ⟨g', c', cur', hv', _, hg', _⟩
    · simp only [Value.slice.injEq] at hv'
      rw [hv'.1] at hb'
      cases hb'
    · simp only [Value.slice.injEq] at hv hv'
      rw [hv.1] at hb
      rw [hv'.1] at hb'
      simp only [blk, Option.some.injEq] at hb hb'
      subst hb
      subst hb'
      rw [hg] at hg'
      simp only [Option.some.injEq, Obj.cells.injEq] at hg'
      exact hne hg'.2.1
theorem ownBlock_slice (a : Option Addr) (n cap : Nat) : (Value.slice a n cap).ownBlock = blk a := by cases a <;> rfl
theorem own_other {w w' : World} {base base' e e' size size' n n' : Nat} {a a' : Option Addr} {cap cap' : Nat} {cs cs' : List Value} (h : w.ownsRow base e size (.slice a n cap) n cs) (h' : w.ownsRow base' e' size' (.slice a' n' cap') n' cs') (hne : e ≠ e') (hg : w.grownBy w' (blk a')) : w'.ownsRow base e size (.slice a n cap) n cs :=
  own_kept h hg fun b hb he => own_apart h h' hne b hb he.symm
theorem OwP.grown {w w' : World} {base top cap : Nat} {a : Option Addr} {p : Prg} {row : Option Nat} (h : OwP w base top a cap p) (hg : w.grownBy w' row) (hr : ∀ k, row = some k → top ≤ k) : OwP w' base top a cap p :=
  h.keeps (S := fun k => row = some k) (Keeps.of_grown hg fun k hk => hk) fun b _ hb he => by have := hr b he; omega
theorem OwP.nil (w : World) (base e : Nat) (h : base ≤ w.heap.size) (he : e = 30) : OwP (w.alloc (.cells #[] e)) base (w.heap.size + 1) (some ⟨w.heap.size, 0, none⟩) 0 [] := by
  subst he
  exact ⟨[], rfl, own_lit0 w base _ 1 h, fun k r xs h => by simp at h, fun i k r s b h => by simp at h, fun k r b h => by simp at h, fun b hb => by simp [blk] at hb; omega⟩
theorem OwP.up {w : World} {base top top' cap : Nat} {a : Option Addr} {p : Prg} (h : OwP w base top a cap p) (ht : top ≤ top') : OwP w base top' a cap p := by
  obtain ⟨rs, hl, ho, hi, hd, h1, h2⟩ := h
  exact ⟨rs, hl, ho, hi, hd, fun k r b hr hb => Nat.lt_of_lt_of_le (h1 k r b hr hb) ht, fun b hb => Nat.lt_of_lt_of_le (h2 b hb) ht⟩
theorem OwP.down {w : World} {base base' top cap : Nat} {a : Option Addr} {p : Prg} (h : OwP w base' top a cap p) (hb : base ≤ base') : OwP w base top a cap p := by
  obtain ⟨rs, hl, ho, hi, r⟩ := h
  exact ⟨rs, hl, own_base ho hb, fun k r xs h1 h2 => own_base (hi k r xs h1 h2) hb, r⟩
theorem OwP.push {w w' : World} {base top cap : Nat} {b : Option Addr} {p : Prg} {rs : List (Option Addr × Nat)} (hl : rs.length = p.length) (ho : w.ownsRow base 30 1 (.slice b p.length cap) p.length (rowsV rs p))
    (hi : ∀ (k : Nat) r xs, rs[k]? = some r → p[k]? = some xs → OwX w base r.1 r.2 xs) (hd : ∀ (i k : Nat) r s b, rs[i]? = some r → rs[k]? = some s → blk r.1 = some b → blk s.1 = some b → i = k) (h1 : ∀ (k : Nat) r b, rs[k]? = some r → blk r.1 = some b → b < top)
    {r : Option Addr × Nat} {ys : List Ins} (hr : OwX w base r.1 r.2 ys) (hrt : ∀ k, blk r.1 = some k → top ≤ k) {a' : Option Addr} {cap' : Nat} (hown : w'.ownsRow base 30 1 (.slice a' (p.length + 1) cap') (p.length + 1) (rowsV rs p ++ [.slice r.1 ys.length r.2])) (hg : w.grownBy w' (blk b)) :
    OwP w' base w'.heap.size a' cap' (p ++ [ys]) := by
  have hget : ∀ (k : Nat) s xs, (rs ++ [r])[k]? = some s → (p ++ [ys])[k]? = some xs → (k < rs.length ∧ rs[k]? = some s ∧ p[k]? = some xs) ∨ (k = rs.length ∧ s = r ∧ xs = ys) := by
    intro k s xs hs hx
    by_cases hk : k < rs.length
    · rw [List.getElem?_append_left hk] at hs
      rw [List.getElem?_append_left (by omega)] at hx
      exact .inl ⟨hk, hs, hx⟩
    · have hk2 := (List.getElem?_eq_some_iff.1 hs).1
      simp only [List.length_append, List.length_singleton] at hk2
      have e : k = rs.length := by omega
      subst e
      rw [List.getElem?_append_right (by omega), Nat.sub_self] at hs
      rw [hl, List.getElem?_append_right (by omega), Nat.sub_self] at hx
      simp only [List.getElem?_cons_zero, Option.some.injEq] at hs hx
      exact .inr ⟨rfl, hs.symm, hx.symm⟩
  have hsz : (rs ++ [r]).length = (p ++ [ys]).length := by simp [hl]
  have keep : ∀ (s : Option Addr × Nat) xs, OwX w base s.1 s.2 xs → OwX w' base s.1 s.2 xs := fun s xs hs => own_other hs ho (by decide) hg
  refine ⟨rs ++ [r], hsz, ?_, ?_, ?_, ?_, ?_⟩
  · have e : rowsV (rs ++ [r]) (p ++ [ys]) = rowsV rs p ++ [.slice r.1 ys.length r.2] := by
      unfold rowsV
      rw [List.zipWith_append hl]
      rfl
    rw [e]
    simpa using hown
  · intro k s xs hs hx
    rcases hget k s xs hs hx with ⟨_, h2, h3⟩ | ⟨_, rfl, rfl⟩
    · exact keep s xs (hi k s xs h2 h3)
    · exact keep _ _ hr
  · intro i k s t c hs ht hbs hbt
    have g := fun (j : Nat) (u : Option Addr × Nat) (hu : (rs ++ [r])[j]? = some u) => hget j u _ hu (List.getElem?_eq_getElem (by rw [← hsz]; exact (List.getElem?_eq_some_iff.1 hu).1))
    rcases g i s hs with ⟨_, h2, _⟩ | ⟨e1, rfl, _⟩ <;> rcases g k t ht with ⟨_, h3, _⟩ | ⟨e2, rfl, _⟩
    · exact hd i k s t c h2 h3 hbs hbt
    · have := h1 i s c h2 hbs
      have := hrt c hbt
      omega
    · have := h1 k t c h3 hbt
      have := hrt c hbs
      omega
    · omega
  · intro k s c hs hc
    rcases hget k s _ hs (List.getElem?_eq_getElem (by rw [← hsz]; exact (List.getElem?_eq_some_iff.1 hs).1)) with ⟨hk, h2, _⟩ | ⟨_, rfl, _⟩
    · have := (own_blk (hi k s _ h2 (List.getElem?_eq_getElem (by omega))) c hc).2
      have := hg.size
      omega
    · have := (own_blk hr c hc).2
      have := hg.size
      omega
  · intro c hc
    exact (own_blk hown c hc).2
/-- Append of a row to a program. -/
theorem wpList_push {ops : Array Oper} {Q : Exit → Act → World → Prop} {a : Act} {w : World} {o : Oper} {rest : List Oper} (hgd : o.guard = none) (s x : Operand)
    (ho : o.op = .call { callee := .builtin .append, args := #[s, x], argTypes := #[23, 23] })
    (base top : Nat) (b : Option Addr) (cap : Nat) (p : Prg) (hs : a.eval s = .slice b p.length cap) (hP : OwP w base top b cap p) (r : Option Addr × Nat) (ys : List Ins) (hr : OwX w base r.1 r.2 ys) (hrt : ∀ k, blk r.1 = some k → top ≤ k)
    (ad : Addr) (hx : a.eval x = .slice (some ad) 1 1) (hu : w.cell? ad = some (.slice r.1 ys.length r.2)) (hn : p.length + 1 ≤ 3000000) (hbase : base ≤ w.heap.size)
    (h : ∀ a' cap' w', OwP w' base w'.heap.size a' cap' (p ++ [ys]) → w.grownBy w' (blk b) → wpList Try.prog ops Q rest (a.put o.dst (.slice a' (p.length + 1) cap')) w') : wpList Try.prog ops Q (o :: rest) a w := by
  obtain ⟨rs, hl, hO, hi, hd, h1, h2⟩ := hP
  refine wpList_append_one hgd s x 23 ho base 30 (.slice none 0 0) 24 Try.underlying23 Try.info_row rfl _ _ _ hs hO ad _ hx hu rfl (by omega) (by omega) hbase ?_
  intro v' w' hown hgrow
  obtain ⟨a', cap', rfl, _⟩ := own_shape hown
  rw [ownBlock_slice] at hgrow
  exact h a' cap' w' (OwP.push hl hO hi hd h1 hr hrt hown hgrow) hgrow
end Go.Proofs.Ythlmfjoiicnomaa
