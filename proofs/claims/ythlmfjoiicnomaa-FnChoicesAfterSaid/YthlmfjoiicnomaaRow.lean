/-
  PROVED HERE: append to one row of a program of the call's own. CONDITIONS: as each theorem states.
-/
import Derived.Test.YthlmfjoiicnomaaPsh
import Derived.Test.YthlmfjoiicnomaaOpn
import Derived.Test.YthlmfjoiicnomaaPrz
import Derived.Maps.AppendAt
namespace Go.Proofs.Ythlmfjoiicnomaa
open Go.RowKit
set_option linter.unusedVariables false
set_option linter.unusedSimpArgs false

/-- Append of one instruction, which has just been laid in a block of its own. -/
theorem run_append_ins (w : World) (base ty : Nat) (v : Value) (n : Nat) (xs : List Ins) (hown : w.ownsRow base 70 4 v n (insV xs)) (ad : Addr) (x : Ins) (hu : ∀ j u, x.cells[j]? = some u → w.cell? (ad.add j) = some u) (hn : n + 1 ≤ 3000000) (hbase : base ≤ w.heap.size) :
    ∃ v' w', (Builtin.append_ #[30, 30] ty #[v, .slice (some ad) 1 1]).run Try.prog w = .ok v' w' ∧ w'.ownsRow base 70 4 v' (n + 1) (insV (xs ++ [x])) ∧ w.grownBy w' v.ownBlock ∧ (v'.ownBlock = v.ownBlock ∨ v'.ownBlock = some w.heap.size) := by
  obtain ⟨i, h2, hz, h3, h4⟩ := info_parts Try.info_instr
  obtain ⟨v', w', hr, q1, q2, _, q3⟩ := run_append_own_at (P := Try.prog) w base 30 ty 70 i _ 4 32 Try.underlying30 h2 hz h3 h4 rfl (by omega) v n (insV xs) hown ad 1 1 x.cells rfl hu (by
    intro u hu
    simp only [Ins.cells, List.mem_cons, List.not_mem_nil, or_false] at hu
    rcases hu with rfl | rfl | rfl | rfl <;> rfl) (by unfold maxLen; omega) (by omega) hbase
  refine ⟨v', w', hr, ?_, q2, q3⟩
  have e : insV (xs ++ [x]) = insV xs ++ x.cells := by rw [insV_append]; simp [insV]
  rw [e]
  exact q1
theorem wpList_append_ins {ops : Array Oper} {rest : List Oper} {o : Oper} {a : Act} {w : World} {Q : Exit → Act → World → Prop} (hgd : o.guard = none) (s x : Operand)
    (ho : o.op = .call { callee := .builtin .append, args := #[s, x], argTypes := #[30, 30] })
    (base : Nat) (v : Value) (n : Nat) (xs : List Ins) (hs : a.eval s = v) (hown : w.ownsRow base 70 4 v n (insV xs)) (ad : Addr) (y : Ins) (hx : a.eval x = .slice (some ad) 1 1) (hu : ∀ j u, y.cells[j]? = some u → w.cell? (ad.add j) = some u) (hn : n + 1 ≤ 3000000) (hbase : base ≤ w.heap.size)
    (h : ∀ v' w', w'.ownsRow base 70 4 v' (n + 1) (insV (xs ++ [y])) → w.grownBy w' v.ownBlock → (v'.ownBlock = v.ownBlock ∨ v'.ownBlock = some w.heap.size) → wpList Try.prog ops Q rest (a.put o.dst v') w') : wpList Try.prog ops Q (o :: rest) a w := by
  refine wpList_plain hgd fun K hK => ?_
  obtain ⟨v', w', hr, h2, h3, h4⟩ := run_append_ins w base o.type v n xs hown ad y hu hn hbase
  unfold Oper.wp execOp
  simp only [ho, resolve, invoke, builtin, Sem.run_bind, Sem.run_pure, Result.andThen_ok, List.map_toArray, List.map_cons, List.map_nil, hs, hx, hr]
  exact hK _ _ (h v' w' h2 h3 h4)
theorem wpMix_append_ins {ops : Array Oper} {rest : List Oper} {o : Oper} {a : Act} {w : World} {Q : Act → World → Prop} (hgd : o.guard = none) (s x : Operand)
    (ho : o.op = .call { callee := .builtin .append, args := #[s, x], argTypes := #[30, 30] })
    (base : Nat) (v : Value) (n : Nat) (xs : List Ins) (hs : a.eval s = v) (hown : w.ownsRow base 70 4 v n (insV xs)) (ad : Addr) (y : Ins) (hx : a.eval x = .slice (some ad) 1 1) (hu : ∀ j u, y.cells[j]? = some u → w.cell? (ad.add j) = some u) (hn : n + 1 ≤ 3000000) (hbase : base ≤ w.heap.size)
    (h : ∀ v' w', w'.ownsRow base 70 4 v' (n + 1) (insV (xs ++ [y])) → w.grownBy w' v.ownBlock → (v'.ownBlock = v.ownBlock ∨ v'.ownBlock = some w.heap.size) → wpMix Try.prog ops Q rest (a.put o.dst v') w') : wpMix Try.prog ops Q (o :: rest) a w := by
  refine wpMix_act hgd (by simp [actsB, ho]) fun K hK => ?_
  obtain ⟨v', w', hr, h2, h3, h4⟩ := run_append_ins w base o.type v n xs hown ad y hu hn hbase
  unfold Oper.wp execOp
  simp only [ho, resolve, invoke, builtin, Sem.run_bind, Sem.run_pure, Result.andThen_ok, List.map_toArray, List.map_cons, List.map_nil, hs, hx, hr]
  exact hK _ _ (h v' w' h2 h3 h4)
theorem ins_laid (w : World) (x : Ins) (t : Nat) : ∀ j u, x.cells[j]? = some u → (w.alloc (.cells #[.int .i64 x.op, .int .i64 x.loc, .int .i64 x.reg, .int .i64 x.val] t)).cell? ((⟨w.heap.size, 0, none⟩ : Addr).add j) = some u := by
  intro j u hj
  have hlt : j < 4 := (List.getElem?_eq_some_iff.1 hj).1
  have hb := Box.new w x t
  have h4 : j = 0 ∨ j = 1 ∨ j = 2 ∨ j = 3 := by omega
  rw [Addr.add_lit]
  rcases h4 with rfl | rfl | rfl | rfl <;> simp only [Ins.cells, List.getElem?_cons_zero, List.getElem?_cons_succ, Option.some.injEq] at hj <;> subst hj
  · exact hb.1
  · exact hb.2.1
  · exact hb.2.2.1
  · exact hb.2.2.2

theorem rowsV_set {rs : List (Option Addr × Nat)} {p : Prg} (hl : rs.length = p.length) (i : Nat) (r : Option Addr × Nat) (ys : List Ins) : (rowsV rs p).set i (.slice r.1 ys.length r.2) = rowsV (rs.set i r) (p.set i ys) := by
  apply List.ext_getElem?
  intro j
  unfold rowsV
  rw [List.getElem?_set]
  by_cases hij : i = j
  · subst hij
    by_cases hi : i < p.length
    · simp [hi, hl]
    · simp [hi, hl]
  · rw [if_neg hij]
    simp only [List.getElem?_zipWith, List.getElem?_set, if_neg hij]
/-- One row of a program of the call's own; what is left when another row is put in its place. -/
theorem OwP.row {w : World} {base top cap : Nat} {a : Option Addr} {p : Prg} (h : OwP w base top a cap p) {i : Nat} {xs : List Ins} (hx : p[i]? = some xs) :
    ∃ g r c, a = some ⟨g, 0, none⟩ ∧ base ≤ g ∧ g < top ∧ w.cell? ⟨g, i, none⟩ = some (.slice r xs.length c) ∧ OwX w base r c xs ∧ (∀ b, blk r = some b → b < top ∧ b ≠ g) ∧
      ∀ (S : Nat → Prop) (w' : World) (v' : Value) (ys : List Ins), Keeps S w w' → (∀ b, base ≤ b → b < top → S b → blk r = some b) → w'.ownsRow base 70 4 v' ys.length (insV ys) → (v'.ownBlock = blk r ∨ ∀ b, v'.ownBlock = some b → top ≤ b) →
        w'.cell? ⟨g, i, none⟩ = some (.slice r xs.length c) ∧ w'.frozen? ⟨g, i, none⟩ = false ∧ OwP (w'.setCell ⟨g, i, none⟩ v') base w'.heap.size a cap (p.set i ys) := by
  obtain ⟨rs, hl, ho, hi, hd, h1, h2⟩ := h
  have hip := (List.getElem?_eq_some_iff.1 hx).1
  obtain ⟨g, rfl, hgb, hgs⟩ := own_some ho (by omega)
  obtain ⟨r, hr⟩ : ∃ r, rs[i]? = some r := ⟨_, List.getElem?_eq_getElem (by omega)⟩
  have hrow := hi i r xs hr hx
  have hgt := h2 g rfl
  have hne : ∀ (k : Nat) s ys, rs[k]? = some s → p[k]? = some ys → ∀ b, blk s.1 = some b → b ≠ g := fun k s ys hs hy b hb e => own_apart (hi k s ys hs hy) ho (by decide) b hb (by rw [e]; rfl)
  have hcell : w.cell? ⟨g, i, none⟩ = some (.slice r.1 xs.length r.2) := (ho.cellAt i (by omega)).trans (rowsV_get hr hx)
  refine ⟨g, r.1, r.2, rfl, hgb, hgt, hcell, hrow, fun b hb => ⟨h1 i r b hr hb, hne i r xs hr hx b hb⟩, ?_⟩
  intro S w' v' ys hk hS hown hblk
  have hSg : ¬ S g := fun hs => hne i r xs hr hx g (hS g hgb hgt hs) rfl
  have ho' := own_keeps ho hk (fun b hb => by cases hb; exact hSg)
  obtain ⟨a', c', rfl, hab⟩ := own_shape hown
  have hag : ∀ b, blk a' = some b → b ≠ g := fun b hb e => by
    rw [ownBlock_slice] at hblk
    rcases hblk with hq | hq
    · exact hne i r xs hr hx b (by rw [← hq]; exact hb) e
    · have := hq b hb; omega
  have kset : Keeps (· = g) w' (w'.setCell ⟨g, i, none⟩ (.slice a' ys.length c')) := Keeps.setCell w' ⟨g, i, none⟩ _
  have hget : ∀ (k : Nat) s zs, (rs.set i (a', c'))[k]? = some s → (p.set i ys)[k]? = some zs → (k = i ∧ s = (a', c') ∧ zs = ys) ∨ (k ≠ i ∧ rs[k]? = some s ∧ p[k]? = some zs) := by
    intro k s zs hs hz
    by_cases hki : i = k
    · subst hki
      rw [List.getElem?_set_self (by omega)] at hs
      rw [List.getElem?_set_self hip] at hz
      cases hs; cases hz
      exact .inl ⟨rfl, rfl, rfl⟩
    · rw [List.getElem?_set_ne hki] at hs
      rw [List.getElem?_set_ne hki] at hz
      exact .inr ⟨fun e => hki e.symm, hs, hz⟩
  have hlen : (rs.set i (a', c')).length = (p.set i ys).length := by simp [hl]
  have get1 : ∀ (k : Nat) s, (rs.set i (a', c'))[k]? = some s → (k = i ∧ s = (a', c')) ∨ (k ≠ i ∧ rs[k]? = some s) := fun k s hs => by
    rcases hget k s _ hs (List.getElem?_eq_getElem (by rw [← hlen]; exact (List.getElem?_eq_some_iff.1 hs).1)) with ⟨q1, q2, _⟩ | ⟨q1, q2, _⟩
    · exact .inl ⟨q1, q2⟩
    · exact .inr ⟨q1, q2⟩
  have new : ∀ (k : Nat) s b, k ≠ i → rs[k]? = some s → blk s.1 = some b → blk a' = some b → False := fun k s b hki hs hb hb' => by
    rw [ownBlock_slice] at hblk
    rcases hblk with hq | hq
    · exact hki (hd k i s r b hs hr hb (by rw [← hq]; exact hb'))
    · have := hq b hb'
      have := h1 k s b hs hb
      omega
  refine ⟨(ho'.cellAt i (by omega)).trans (rowsV_get hr hx), ho'.frozenAt i, rs.set i (a', c'), hlen, ?_, ?_, ?_, ?_, ?_⟩
  · have := (ho'.stored i (.slice a' ys.length c')).1
    rw [rowsV_set hl i (a', c') ys] at this
    simpa using this
  · intro k s zs hs hz
    rcases hget k s zs hs hz with ⟨_, rfl, rfl⟩ | ⟨hki, q2, q3⟩
    · exact own_keeps hown kset fun b hb e => hag b hb e
    · have hr' := hi k s zs q2 q3
      refine own_keeps (own_keeps hr' hk fun b hb hs' => ?_) kset fun b hb e => hne k s zs q2 q3 b hb e
      exact hki (hd k i s r b q2 hr hb (hS b (own_blk hr' b hb).1 (h1 k s b q2 hb) hs'))
  · intro j k s t b hs ht hbs hbt
    rcases get1 j s hs with ⟨q1, rfl⟩ | ⟨q1, q2⟩ <;> rcases get1 k t ht with ⟨q3, rfl⟩ | ⟨q3, q4⟩
    · omega
    · exact absurd hbs (fun hb => new k t b q3 q4 hbt hb)
    · exact absurd hbt (fun hb => new j s b q1 q2 hbs hb)
    · exact hd j k s t b q2 q4 hbs hbt
  · intro k s b hs hb
    rcases get1 k s hs with ⟨_, rfl⟩ | ⟨_, q2⟩
    · exact (hab b hb).2
    · have := (own_blk (hi k s _ q2 (List.getElem?_eq_getElem (by have := (List.getElem?_eq_some_iff.1 q2).1; omega))) b hb).2
      have := hk.size
      omega
  · intro b hb
    have := hk.size
    have := h2 b hb
    simp only [blk, Option.some.injEq] at hb
    omega
end Go.Proofs.Ythlmfjoiicnomaa
