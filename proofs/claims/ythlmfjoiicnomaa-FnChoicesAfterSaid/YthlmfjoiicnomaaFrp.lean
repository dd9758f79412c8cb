/-
  PROVED HERE: a region whose first operations come in any order and only make new blocks: what each has made stays, and lies by itself; append of a slice that can be read to an empty literal. CONDITIONS: as each lemma states.
-/
import Derived.Test.YthlmfjoiicnomaaSw
import Derived.Test.YthlmfjoiicnomaaFree
namespace Go.Proofs.Ythlmfjoiicnomaa
open Go.RowKit
set_option linter.unusedVariables false
set_option linter.unusedSimpArgs false

/-- The block that a value leads to. -/
def vblk : Value → Option Nat | .slice a _ _ => blk a | .pointer a => blk a | _ => none
/-- What the acts of S have made since w0. -/
structure Parts (w0 : World) (grp : Nat → Nat) (Q : Nat → World → Value → Prop) (S : Nat → Bool) (ρ : Nat → Value) (w : World) : Prop where
  below : Below w0.heap.size w0 w
  part : ∀ k, S k = true → Q k w (ρ k)
  rng : ∀ k b, S k = true → vblk (ρ k) = some b → w0.heap.size ≤ b ∧ b < w.heap.size
  sep : ∀ j k b, S j = true → S k = true → grp j ≠ grp k → vblk (ρ j) = some b → vblk (ρ k) ≠ some b
theorem Parts.start (w0 : World) (grp : Nat → Nat) (Q : Nat → World → Value → Prop) (ρ : Nat → Value) : Parts w0 grp Q (fun _ => false) ρ w0.drew :=
  ⟨below_drewN 1 (Below.refl _ _), fun k h => (by cases h), fun k b h => (by cases h), fun j k b h => (by cases h)⟩
/-- What holds of a value holds in every later world. -/
def Stays (Q : Nat → World → Value → Prop) : Prop := ∀ k w w' v, Q k w v → Below w.heap.size w w' → Q k w' v
theorem Parts.step {w0 w w' : World} {grp : Nat → Nat} {Q : Nat → World → Value → Prop} {S : Nat → Bool} {ρ : Nat → Value} {k : Nat} {v : Value} (h : Parts w0 grp Q S ρ w) (hs : Stays Q) (hb : Below w.heap.size w w') (hq : Q k w' v)
    (hv : ∀ b, vblk v = some b → (w.heap.size ≤ b ∧ b < w'.heap.size) ∨ ∃ j, S j = true ∧ j ≠ k ∧ grp j = grp k ∧ vblk (ρ j) = some b) : Parts w0 grp Q (FR.upd S k true) (FR.upd ρ k v) w' := by
  have hsz := hb.size
  have hsz0 := h.below.size
  have hS : ∀ j, FR.upd S k true j = true → j = k ∨ (j ≠ k ∧ S j = true) := fun j hj => by
    by_cases e : j = k
    · exact .inl e
    · rw [FR.upd_ne _ _ e] at hj; exact .inr ⟨e, hj⟩
  refine ⟨h.below.trans (hb.mono hsz0), fun j hj => ?_, fun j b hj hb' => ?_, fun i j b hi hj hg h1 => ?_⟩
  · rcases hS j hj with rfl | ⟨e, hj⟩
    · rw [FR.upd_same]; exact hq
    · rw [FR.upd_ne _ _ e]; exact hs j w w' _ (h.part j hj) hb
  · rcases hS j hj with rfl | ⟨e, hj⟩
    · rw [FR.upd_same] at hb'
      rcases hv b hb' with h1 | ⟨i, h1, _, _, h2⟩
      · omega
      · have := h.rng i b h1 h2; omega
    · rw [FR.upd_ne _ _ e] at hb'
      have := h.rng j b hj hb'; omega
  · rcases hS i hi with rfl | ⟨ei, hi'⟩ <;> rcases hS j hj with rfl | ⟨ej, hj'⟩
    · exact absurd rfl hg
    · rw [FR.upd_same] at h1
      rw [FR.upd_ne _ _ ej]
      intro h2
      rcases hv b h1 with h3 | ⟨l, h3, _, h4, h5⟩
      · have := h.rng j b hj' h2; omega
      · exact h.sep l j b h3 hj' (by rw [h4]; exact hg) h5 h2
    · rw [FR.upd_ne _ _ ei] at h1
      rw [FR.upd_same]
      intro h2
      rcases hv b h2 with h3 | ⟨l, h3, _, h4, h5⟩
      · have := h.rng i b hi' h1; omega
      · exact h.sep i l b hi' h3 (by rw [h4]; exact hg) h1 h5
    · rw [FR.upd_ne _ _ ei] at h1
      rw [FR.upd_ne _ _ ej]
      exact h.sep i j b hi' hj' hg h1
/-- A new block. -/
theorem Parts.new {w0 w : World} {grp : Nat → Nat} {Q : Nat → World → Value → Prop} {S : Nat → Bool} {ρ : Nat → Value} {k : Nat} {v : Value} (h : Parts w0 grp Q S ρ w) (hs : Stays Q) (o : Obj) (hq : Q k (w.alloc o) v) (hv : vblk v = some w.heap.size) : Parts w0 grp Q (FR.upd S k true) (FR.upd ρ k v) (w.alloc o) :=
  h.step hs ((Below.refl _ _).alloc (Nat.le_refl _) o) hq fun b hb => .inl (by rw [hv] at hb; cases hb; simp)
/-- The empty literal. -/
def IsLit (w0 w : World) (e : TypeId) (v : Value) : Prop := ∃ g, v = .slice (some ⟨g, 0, none⟩) 0 0 ∧ w0.heap.size ≤ g ∧ w.heap[g]? = some (.cells #[] e (0, 0))
theorem IsLit.below {w0 w w' : World} {e : TypeId} {v : Value} (h : IsLit w0 w e v) (hb : Below w.heap.size w w') : IsLit w0 w' e v := by
  obtain ⟨g, h1, h2, h3⟩ := h
  exact ⟨g, h1, h2, by rw [hb.block g (Array.getElem?_eq_some_iff.1 h3).1]; exact h3⟩
theorem IsLit.new (w0 w : World) (e : TypeId) (h : w0.heap.size ≤ w.heap.size) : IsLit w0 (w.alloc (.cells #[] e)) e (.slice (some ⟨w.heap.size, 0, none⟩) 0 0) :=
  ⟨_, rfl, h, heap_alloc_new w _⟩

section
variable {P : Program}
/-- 'append([]T{}, x...)'. -/
theorem run_append_lit (w0 w : World) (t ty : TypeId) (e : TypeId) (z : Value) (size bytes : Nat) (ht : P.underlying t = some (.slice e)) (hi : (P.info? e).map (fun i => (i.zero, i.size, i.bytes)) = some (some z, size, bytes)) (hzs : z.cells.size = size) (hsz : 0 < size)
    (g : Nat) (hg0 : w0.heap.size ≤ g) (hg : w.heap[g]? = some (.cells #[] e (0, 0)))
    (src : Option Addr) (m c : Nat) (cs : List Value) (hrd : Rd w src cs) (hl : cs.length = m * size) (h1 : ∀ u ∈ cs, u.oneCell' = true)
    (h63 : m ≤ 1000000000) (hbytes : bytes ≤ 1000) :
    ∃ a' c' w', (Builtin.append_ #[t, t] ty #[.slice (some ⟨g, 0, none⟩) 0 0, .slice src m c]).run P w = .ok (.slice a' m c') w' ∧ w'.ownsRow w0.heap.size e size (.slice a' m c') m cs ∧ Below w.heap.size w w' ∧ (∀ b, blk a' = some b → b = g ∨ (w.heap.size ≤ b ∧ b < w'.heap.size)) := by
  have hlt : g < w.heap.size := (Array.getElem?_eq_some_iff.1 hg).1
  have hown : w.ownsRow w0.heap.size e size (.slice (some ⟨g, 0, none⟩) 0 0) 0 [] := ⟨by simp, .inr ⟨g, 0, #[], rfl, hg0, hg, Nat.le_refl _, by decide, by simp, by simp⟩⟩
  have same : m = 0 → (Builtin.append_ #[t, t] ty #[.slice (some ⟨g, 0, none⟩) 0 0, .slice src m c]).run P w = .ok (.slice (some ⟨g, 0, none⟩) m 0) w → ∃ a' c' w', (Builtin.append_ #[t, t] ty #[.slice (some ⟨g, 0, none⟩) 0 0, .slice src m c]).run P w = .ok (.slice a' m c') w' ∧ w'.ownsRow w0.heap.size e size (.slice a' m c') m cs ∧ Below w.heap.size w w' ∧ (∀ b, blk a' = some b → b = g ∨ (w.heap.size ≤ b ∧ b < w'.heap.size)) := by
    intro h0 hr
    subst h0
    obtain rfl : cs = [] := List.eq_nil_of_length_eq_zero (by simpa using hl)
    exact ⟨_, _, _, hr, hown, Below.refl _ _, fun b hb => .inl (by simpa [blk] using hb.symm)⟩
  obtain ⟨i, h2, hz, h3, h4⟩ := info_parts hi
  by_cases h0 : m = 0
  · refine same h0 ?_
    subst h0
    cases src with
    | none => simp [Builtin.append_, run_underlying ht, sizeOf, typeInfo, h2, Builtin.lenOf, Builtin.firstCells, storeCells]
    | some ad => simp [Builtin.append_, run_underlying ht, sizeOf, typeInfo, h2, Builtin.lenOf, Builtin.firstCells, storeCells, loadCells, loadCellsFrom]
  · have hb : (0 + m) * bytes ≤ 140737488355328 := by
      have : (0 + m) * bytes ≤ 1000000000 * 1000 := Nat.mul_le_mul (by omega) hbytes
      omega
    cases src with
    | none =>
      rcases hrd with rfl | ⟨b, off, hb, _⟩
      · have h0' : m * size = 0 := hl.symm
        rcases Nat.mul_eq_zero.1 h0' with h | h <;> omega
      · cases hb
    | some ad =>
      have hnews : ∀ j u, cs[j]? = some u → w.cell? (ad.add j) = some u := by
        intro j u hj
        rcases hrd with rfl | ⟨b, off, hb, _, hc⟩
        · simp at hj
        · cases hb
          rw [Addr.add_lit]
          exact hc j u hj
      obtain ⟨v', w', hr, q1, _, _, q3⟩ := run_append_own_at (P := P) w w0.heap.size t ty e i z size bytes ht h2 hz h3 h4 hzs hsz _ 0 [] hown ad m c cs hl hnews h1 (by unfold maxLen; omega) hb (by omega)
      have hgrow := run_append_grow (P := P) w t ty e i z ht h2 hz ⟨g, 0, none⟩ 0 0 [] (by simp) (by simp) ad m c cs (by rw [h3]; exact hl) hnews (by omega) (by omega) (growslice_fits (by omega) (by rw [h4]; exact hb))
      rw [hr] at hgrow
      simp only [Result.ok.injEq] at hgrow
      obtain ⟨rfl, rfl⟩ := hgrow
      refine ⟨_, _, _, hr.trans (by rw [Nat.zero_add]), by simpa using q1, ?_, fun b hb => .inr ?_⟩
      · exact ⟨rfl, rfl, rfl, by simp, fun k hk => heap_alloc_old w.drew _ (by simpa using hk)⟩
      · simp only [blk, Option.some.injEq] at hb
        subst hb
        simp
theorem oper_append_lit {o : Oper} {a : Act} {w : World} {K : Act → World → Prop} {Q : Exit → Act → World → Prop} (w0 : World) (s x : Operand) (t : TypeId)
    (ho : o.op = .call { callee := .builtin .append, args := #[s, x], argTypes := #[t, t] })
    (e : TypeId) (z : Value) (size bytes : Nat) (ht : P.underlying t = some (.slice e)) (hi : (P.info? e).map (fun i => (i.zero, i.size, i.bytes)) = some (some z, size, bytes)) (hzs : z.cells.size = size) (hsz : 0 < size)
    (v : Value) (hs : a.eval s = v) (hg : IsLit w0 w e v)
    (src : Option Addr) (m c : Nat) (cs : List Value) (hx : a.eval x = .slice src m c) (hrd : Rd w src cs) (hl : cs.length = m * size) (h1 : ∀ u ∈ cs, u.oneCell' = true)
    (h63 : m ≤ 1000000000) (hbytes : bytes ≤ 1000)
    (h : ∀ a' c' w', w'.ownsRow w0.heap.size e size (.slice a' m c') m cs → Below w.heap.size w w' → (∀ b, blk a' = some b → vblk v = some b ∨ (w.heap.size ≤ b ∧ b < w'.heap.size)) → K (a.put o.dst (.slice a' m c')) w') : o.wp P a w K Q := by
  obtain ⟨g, rfl, hg0, hg⟩ := hg
  obtain ⟨a', c', w', hr, h2, h3, h4⟩ := run_append_lit (P := P) w0 w t o.type e z size bytes ht hi hzs hsz g hg0 hg src m c cs hrd hl h1 h63 hbytes
  unfold Oper.wp execOp
  simp only [ho, resolve, invoke, builtin, Sem.run_bind, Sem.run_pure, Result.andThen_ok, List.map_toArray, List.map_cons, List.map_nil, hs, hx, hr]
  exact h a' c' w' h2 h3 fun b hb => by
    rcases h4 b hb with e | e
    · exact .inl (by rw [e]; rfl)
    · exact .inr e
theorem ints_one (k : IntKind) (xs : List Int) : ∀ u ∈ xs.map (Value.int k), u.oneCell' = true := by
  intro u hu
  obtain ⟨x, _, rfl⟩ := List.mem_map.1 hu
  rfl
end
end Go.Proofs.Ythlmfjoiicnomaa
