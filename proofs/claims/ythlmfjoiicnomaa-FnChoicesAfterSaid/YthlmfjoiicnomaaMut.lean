/-
  PROVED HERE: what spec.l1Mutate does: it draws a program out of a program. CONDITIONS: as each theorem states.
-/
import Derived.Test.YthlmfjoiicnomaaDra
import Derived.Test.YthlmfjoiicnomaaFree
namespace Go.Proofs.Ythlmfjoiicnomaa
open Go.RowKit
set_option linter.unusedVariables false
set_option linter.unusedSimpArgs false

theorem sizeP_set : ∀ {p : Prg} {i : Nat} {xs : List Ins} (y : Ins), p[i]? = some xs → sizeP (p.set i (xs ++ [y])) = sizeP p + 1
  | [], i, xs, y, h => by simp at h
  | z :: p, 0, xs, y, h => by
    simp only [List.getElem?_cons_zero, Option.some.injEq] at h
    subst h
    simp [sizeP]
    omega
  | z :: p, i + 1, xs, y, h => by
    have := sizeP_set (p := p) (i := i) y (by simpa using h)
    simp only [sizeP, List.set_cons_succ, List.length_cons, List.map_cons, List.sum_cons, List.length_set] at this ⊢
    omega
theorem sizeP_tail (p : Prg) : sizeP p.tail ≤ sizeP p := by
  cases p with
  | nil => simp [sizeP]
  | cons x p => simp [sizeP]; omega
/-- A program without its first thread. -/
theorem OwP.avTail {w : World} {base top cap g G : Nat} {p : Prg} (h : OwP w base top (some ⟨G, 0, none⟩) cap p) (hg : g < base) : AvP w g (some ⟨G, 1, none⟩) p.tail := by
  obtain ⟨rs, hl, ho, hi, _⟩ := h
  have hlt : ∀ b, blk (some ⟨G, 0, none⟩) = some b → base ≤ b ∧ b < w.heap.size := own_blk ho
  have hG := hlt G rfl
  refine ⟨rs.tail, by simp [hl], ?_, fun b hb e => ?_, fun k r xs h1 h2 => ?_⟩
  · by_cases h0 : p.tail = []
    · exact .inl (by rw [h0]; simp [rowsV])
    · refine .inr ⟨G, 1, rfl, hG.2, fun j u hj => ?_⟩
      have hp : 1 + j < p.length := by
        have := (List.getElem?_eq_some_iff.1 hj).1
        simp [rowsV, hl] at this
        omega
      rw [ho.cellAt (1 + j) (by omega)]
      rw [show (rowsV rs p)[1 + j]? = (rowsV rs.tail p.tail)[j]? by
        unfold rowsV
        simp only [List.getElem?_zipWith, List.getElem?_tail, Nat.add_comm 1 j]]
      exact hj
  · simp only [blk, Option.some.injEq] at hb
    have := hG.1
    omega
  · rw [List.getElem?_tail] at h1 h2
    have hr := hi (k + 1) r xs h1 h2
    exact ⟨Rd.own hr, own_cap hr, fun b hb e => by have := (own_blk hr b hb).1; omega⟩
/-- Append of one instruction at a step of a region that draws its order. -/
theorem wpMixJ_append_ins {J : World → Prop} {ops : Array Oper} {rest : List Oper} {o : Oper} {a : Act} {w : World} {Q : Act → World → Prop} (hgd : o.guard = none) (s x : Operand)
    (ho : o.op = .call { callee := .builtin .append, args := #[s, x], argTypes := #[30, 30] })
    (base : Nat) (v : Value) (n : Nat) (xs : List Ins) (hs : a.eval s = v) (hown : w.ownsRow base 70 4 v n (insV xs)) (ad : Addr) (y : Ins) (hx : a.eval x = .slice (some ad) 1 1) (hu : ∀ j u, y.cells[j]? = some u → w.cell? (ad.add j) = some u) (hn : n + 1 ≤ 3000000) (hbase : base ≤ w.heap.size)
    (h : ∀ v' w', w'.ownsRow base 70 4 v' (n + 1) (insV (xs ++ [y])) → w.grownBy w' v.ownBlock → (v'.ownBlock = v.ownBlock ∨ v'.ownBlock = some w.heap.size) → MJ.wpMix J Try.prog ops Q rest (a.put o.dst v') w') : MJ.wpMix J Try.prog ops Q (o :: rest) a w := by
  refine MJ.wpMix_act hgd (by simp [MJ.actsB, actsB, ho]) (by simp [MJ.makesB, ho]) fun K hK => ?_
  obtain ⟨v', w', hr, h2, h3, h4⟩ := run_append_ins w base o.type v n xs hown ad y hu hn hbase
  unfold Oper.wp execOp
  simp only [ho, resolve, invoke, builtin, Sem.run_bind, Sem.run_pure, Result.andThen_ok, List.map_toArray, List.map_cons, List.map_nil, hs, hx, hr]
  exact hK _ _ (h v' w' h2 h3 h4)
theorem keeps_drew {S : Nat → Prop} {w w' : World} (h : Keeps S w w') : Keeps S w w'.drew := ⟨h.os, h.tape, h.output, h.size, h.block⟩
theorem grown_drew {w w1 : World} {row : Option Nat} (h : w.grownBy w1 row) : w.grownBy w1.drew row := ⟨h.os, h.tape, h.output, h.size, h.block⟩
theorem keeps_alloc {S : Nat → Prop} {w w' : World} (h : Keeps S w w') (o : Obj) : Keeps S w (w'.alloc o) := h.trans (Keeps.of_below ((Below.refl _ _).alloc (Nat.le_refl _) o))
theorem keeps_grown {S : Nat → Prop} {w w1 w2 : World} {row : Option Nat} (h : Keeps S w w1) (hg : w1.grownBy w2 row) (hs : ∀ k, row = some k → S k) : Keeps S w w2 := h.trans (Keeps.of_grown hg hs)
theorem cell_alloc {w : World} {b k : Nat} {v : Value} (h : w.cell? ⟨b, k, none⟩ = some v) (hb : b < w.heap.size) (o : Obj) : (w.alloc o).cell? ⟨b, k, none⟩ = some v := (((Below.refl w.heap.size w).alloc (Nat.le_refl _) o).cell (p := ⟨b, k, none⟩) hb).trans h
theorem cell_drew {w : World} {a : Addr} {v : Value} (h : w.cell? a = some v) : w.drew.cell? a = some v := h
/-- A list of numbers that lies away from block g. -/
def LitAt (w : World) (g : Nat) (v : Value) (xs : List Int) : Prop := ∃ H, v = .slice (some ⟨H, 0, none⟩) xs.length xs.length ∧ H ≠ g ∧ Rd w (some ⟨H, 0, none⟩) (ints xs)
theorem LitAt.kept {w w' : World} {g : Nat} {v : Value} {xs : List Int} (h : LitAt w g v xs) (hg : w.grownBy w' (some g)) : LitAt w' g v xs := by
  obtain ⟨H, h1, h2, h3⟩ := h
  exact ⟨H, h1, h2, h3.grown hg (fun b hb e => by simp [blk] at hb; have := Option.some.inj e; omega)⟩
theorem LitAt.new {w : World} {g : Nat} (hg : g < w.heap.size) (xs : List Int) (e : Nat) : LitAt (w.alloc (.cells (ints xs).toArray e)) g (.slice (some ⟨w.heap.size, 0, none⟩) xs.length xs.length) xs := ⟨_, rfl, by omega, rd_lit w xs e⟩
/-- Append of one instruction. -/
theorem oper_append_ins {o : Oper} {a : Act} {w : World} {K : Act → World → Prop} {Q : Exit → Act → World → Prop} (s x : Operand)
    (ho : o.op = .call { callee := .builtin .append, args := #[s, x], argTypes := #[30, 30] })
    (base : Nat) (v : Value) (n : Nat) (xs : List Ins) (hs : a.eval s = v) (hown : w.ownsRow base 70 4 v n (insV xs)) (ad : Addr) (y : Ins) (hx : a.eval x = .slice (some ad) 1 1) (hu : ∀ j u, y.cells[j]? = some u → w.cell? (ad.add j) = some u) (hn : n + 1 ≤ 3000000) (hbase : base ≤ w.heap.size)
    (h : ∀ a' c' w', w'.ownsRow base 70 4 (.slice a' (n + 1) c') (n + 1) (insV (xs ++ [y])) → w.grownBy w' v.ownBlock → (blk a' = v.ownBlock ∨ blk a' = some w.heap.size) → K (a.put o.dst (.slice a' (n + 1) c')) w') : o.wp Try.prog a w K Q := by
  obtain ⟨v', w', hr, h2, h3, h4⟩ := run_append_ins w base o.type v n xs hown ad y hu hn hbase
  obtain ⟨a', c', rfl, _⟩ := own_shape h2
  rw [ownBlock_slice] at h4
  unfold Oper.wp execOp
  simp only [ho, resolve, invoke, builtin, Sem.run_bind, Sem.run_pure, Result.andThen_ok, List.map_toArray, List.map_cons, List.map_nil, hs, hx, hr]
  exact h a' c' w' h2 h3 h4
/-- Region 7 of l1Mutate: what holds when the acts of S have been carried out. -/
structure Reg7 (w w3 : World) (g : Nat) (bs : List Int) (q0 G I : Nat) (r : Option Addr) (m rc : Nat) (xs : List Ins) (S : Nat → Bool) (ρ : Nat → Value) (w' : World) : Prop where
  ord : (S 11 = true → S 8 = true ∧ S 10 = true) ∧ (S 13 = true → S 11 = true) ∧ (S 14 = true → S 13 = true)
  cell : S 14 = false → w'.cell? ⟨G, I, none⟩ = some (.slice r m rc)
  cell2 : w'.cell? ⟨G, I, none⟩ = some (.slice r m rc)
  rdr : Rdr w' g bs (q0 + (if S 8 then 1 else 0) + (if S 11 then 1 else 0))
  grown : w.grownBy w' (some g)
  keeps : Keeps (fun k => blk r = some k ∨ k = g) w3 w'
  l7 : S 7 = true → S 11 = false → LitAt w' g (ρ 7) [0, 6, 1, 4]
  l10 : S 10 = true → S 11 = false → LitAt w' g (ρ 10) [0, 3, -1]
  v8 : S 8 = true → ∃ x : Int, ρ 8 = .int .i64 x
  v11 : S 11 = true → ∃ x : Int, ρ 11 = .int .i64 x
  row : S 14 = false → w'.ownsRow w.heap.size 70 4 (.slice r m rc) m (insV xs)
  l13 : S 13 = true → S 14 = false → ∃ (x y : Int) (H : Nat), ρ 8 = .int .i64 x ∧ ρ 11 = .int .i64 y ∧ ρ 13 = .slice (some ⟨H, 0, none⟩) 1 1 ∧ ∀ j u, (Ins.cells ⟨x, y, 0, 0⟩)[j]? = some u → w'.cell? ((⟨H, 0, none⟩ : Addr).add j) = some u
  r14 : S 14 = true → ∃ (x y : Int) (a' : Option Addr) (c' : Nat), ρ 8 = .int .i64 x ∧ ρ 11 = .int .i64 y ∧ ρ 14 = .slice a' (m + 1) c' ∧ w'.ownsRow w.heap.size 70 4 (.slice a' (m + 1) c') (m + 1) (insV (xs ++ [⟨x, y, 0, 0⟩])) ∧ (blk a' = blk r ∨ ∀ b, blk a' = some b → w3.heap.size ≤ b)
section
variable {w w3 w' w'' : World} {g : Nat} {bs : List Int} {q0 G I : Nat} {r : Option Addr} {m rc : Nat} {xs : List Ins} {S : Nat → Bool} {ρ : Nat → Value}
theorem Reg7.start (h1 : w3.cell? ⟨G, I, none⟩ = some (.slice r m rc)) (h2 : Rdr w3 g bs q0) (h3 : w.grownBy w3 (some g)) (h4 : w3.ownsRow w.heap.size 70 4 (.slice r m rc) m (insV xs)) : Reg7 w w3 g bs q0 G I r m rc xs (fun _ => false) (fun _ => undef) w3.drew :=
  ⟨⟨(fun h => by cases h), (fun h => by cases h), (fun h => by cases h)⟩, fun _ => h1, h1, h2, grown_drew h3, keeps_drew (Keeps.refl _ _), (fun h => by cases h), (fun h => by cases h), (fun h => by cases h), (fun h => by cases h), fun _ => h4, (fun h => by cases h), (fun h => by cases h)⟩
theorem Reg7.alloc (h : Reg7 w w3 g bs q0 G I r m rc xs S ρ w') (o : Obj) : Reg7 w w3 g bs q0 G I r m rc xs S ρ (w'.alloc o) := by
  have hc : ∀ {b k : Nat} {v : Value}, w'.cell? ⟨b, k, none⟩ = some v → (w'.alloc o).cell? ⟨b, k, none⟩ = some v := fun {b k v} hc => cell_alloc hc (World.block_lt_of_cell? w' ⟨b, k, none⟩ hc) o
  refine ⟨h.ord, fun a => hc (h.cell a), hc h.cell2, rdr_alloc h.rdr o, grown_alloc h.grown o, keeps_alloc h.keeps o, fun a b => (h.l7 a b).kept (grown_alloc (grown_refl _ _) o), fun a b => (h.l10 a b).kept (grown_alloc (grown_refl _ _) o), h.v8, h.v11, fun a => (h.row a).alloc o, fun a b => ?_, fun a => ?_⟩
  · obtain ⟨x, y, H, h1, h2, h3, h4⟩ := h.l13 a b
    refine ⟨x, y, H, h1, h2, h3, fun j u hj => ?_⟩
    have := h4 j u hj
    rw [Addr.add_lit] at this ⊢
    exact hc this
  · obtain ⟨x, y, a', c', h1, h2, h3, h4, h5⟩ := h.r14 a
    exact ⟨x, y, a', c', h1, h2, h3, h4.alloc o, h5⟩
theorem Reg7.s7 (h : Reg7 w w3 g bs q0 G I r m rc xs S ρ w') {v : Value} (hl : LitAt w' g v [0, 6, 1, 4]) : Reg7 w w3 g bs q0 G I r m rc xs (FR.upd S 7 true) (FR.upd ρ 7 v) w' := by
  refine ⟨?_, ?_, h.cell2, ?_, h.grown, h.keeps, ?_, ?_, ?_, ?_, ?_, ?_, ?_⟩ <;> simp only [FR.upd, show ¬ (8 : Nat) = 7 by decide, show ¬ (10 : Nat) = 7 by decide, show ¬ (11 : Nat) = 7 by decide, show ¬ (13 : Nat) = 7 by decide, show ¬ (14 : Nat) = 7 by decide, if_false, if_true]
  · exact h.ord
  · exact h.cell
  · exact h.rdr
  · exact fun _ _ => hl
  · exact h.l10
  · exact h.v8
  · exact h.v11
  · exact h.row
  · exact h.l13
  · exact h.r14
theorem Reg7.s10 (h : Reg7 w w3 g bs q0 G I r m rc xs S ρ w') (h10 : S 10 = false) {v : Value} (hl : LitAt w' g v [0, 3, -1]) : Reg7 w w3 g bs q0 G I r m rc xs (FR.upd S 10 true) (FR.upd ρ 10 v) w' := by
  refine ⟨?_, ?_, h.cell2, ?_, h.grown, h.keeps, ?_, ?_, ?_, ?_, ?_, ?_, ?_⟩ <;> simp only [FR.upd, show ¬ (7 : Nat) = 10 by decide, show ¬ (8 : Nat) = 10 by decide, show ¬ (11 : Nat) = 10 by decide, show ¬ (13 : Nat) = 10 by decide, show ¬ (14 : Nat) = 10 by decide, if_false, if_true]
  · exact ⟨fun e => ⟨(h.ord.1 e).1, trivial⟩, h.ord.2⟩
  · exact h.cell
  · exact h.rdr
  · exact h.l7
  · exact fun _ _ => hl
  · exact h.v8
  · exact h.v11
  · exact h.row
  · exact h.l13
  · exact h.r14
theorem Reg7.num {w w3 w' w'' : World} {g : Nat} {bs : List Int} {q0 G I : Nat} {r : Option Addr} {m rc : Nat} {xs : List Ins} {S : Nat → Bool} {ρ : Nat → Value} (h : Reg7 w w3 g bs q0 G I r m rc xs S ρ w') (hg : w'.grownBy w'' (some g)) (hw : g < w.heap.size) (hG : G ≠ g) :
    w''.cell? ⟨G, I, none⟩ = some (.slice r m rc) ∧ w.grownBy w'' (some g) ∧ Keeps (fun k => blk r = some k ∨ k = g) w3 w'' ∧ (S 14 = false → w''.ownsRow w.heap.size 70 4 (.slice r m rc) m (insV xs)) :=
  ⟨hg.cell h.cell2 (fun e => hG (Option.some.inj e)), grown_trans h.grown hg (fun k hk => .inl hk.symm), keeps_grown h.keeps hg (fun k hk => .inr (Option.some.inj hk).symm), fun a => own_kept_g (h.row a) hg hw⟩
theorem Reg7.s8 (h : Reg7 w w3 g bs q0 G I r m rc xs S ρ w') (h8 : S 8 = false) (hg : w'.grownBy w'' (some g)) (hw : g < w.heap.size) (hG : G ≠ g) (hr : Rdr w'' g bs (q0 + 1)) (x : Int) : Reg7 w w3 g bs q0 G I r m rc xs (FR.upd S 8 true) (FR.upd ρ 8 (.int .i64 x)) w'' := by
  have h11 : S 11 = false := by cases hb : S 11 with | false => rfl | true => rw [(h.ord.1 hb).1] at h8; cases h8
  have h13 : S 13 = false := by cases hb : S 13 with | false => rfl | true => rw [h.ord.2.1 hb] at h11; cases h11
  have h14 : S 14 = false := by cases hb : S 14 with | false => rfl | true => rw [h.ord.2.2 hb] at h13; cases h13
  obtain ⟨n1, n2, n3, n4⟩ := h.num hg hw hG
  refine ⟨?_, fun _ => n1, n1, ?_, n2, n3, ?_, ?_, ?_, ?_, ?_, ?_, ?_⟩ <;> simp only [FR.upd, show ¬ (7 : Nat) = 8 by decide, show ¬ (10 : Nat) = 8 by decide, show ¬ (11 : Nat) = 8 by decide, show ¬ (13 : Nat) = 8 by decide, show ¬ (14 : Nat) = 8 by decide, if_false, if_true, h11, h13, h14]
  · exact ⟨(fun e => by cases e), (fun e => by cases e), (fun e => by cases e)⟩
  · exact hr
  · exact fun a b => (h.l7 a h11).kept hg
  · exact fun a b => (h.l10 a h11).kept hg
  · exact fun _ => ⟨x, rfl⟩
  · exact fun e => by cases e
  · exact fun _ => n4 h14
  · exact fun e => by cases e
  · exact fun e => by cases e
theorem Reg7.s11 (h : Reg7 w w3 g bs q0 G I r m rc xs S ρ w') (h11 : S 11 = false) (h8 : S 8 = true) (h10 : S 10 = true) (hg : w'.grownBy w'' (some g)) (hw : g < w.heap.size) (hG : G ≠ g) (hr : Rdr w'' g bs (q0 + 1 + 1)) (x : Int) : Reg7 w w3 g bs q0 G I r m rc xs (FR.upd S 11 true) (FR.upd ρ 11 (.int .i64 x)) w'' := by
  have h13 : S 13 = false := by cases hb : S 13 with | false => rfl | true => rw [h.ord.2.1 hb] at h11; cases h11
  have h14 : S 14 = false := by cases hb : S 14 with | false => rfl | true => rw [h.ord.2.2 hb] at h13; cases h13
  obtain ⟨n1, n2, n3, n4⟩ := h.num hg hw hG
  refine ⟨?_, fun _ => n1, n1, ?_, n2, n3, ?_, ?_, ?_, ?_, ?_, ?_, ?_⟩ <;> simp only [FR.upd, show ¬ (7 : Nat) = 11 by decide, show ¬ (8 : Nat) = 11 by decide, show ¬ (10 : Nat) = 11 by decide, show ¬ (13 : Nat) = 11 by decide, show ¬ (14 : Nat) = 11 by decide, if_false, if_true, h8, h10, h13, h14]
  · exact ⟨fun _ => ⟨trivial, trivial⟩, (fun e => by cases e), (fun e => by cases e)⟩
  · exact hr
  · exact fun a b => by cases b
  · exact fun a b => by cases b
  · exact fun _ => h.v8 h8
  · exact fun _ => ⟨x, rfl⟩
  · exact fun _ => n4 h14
  · exact fun e => by cases e
  · exact fun e => by cases e
theorem Reg7.s13 (h : Reg7 w w3 g bs q0 G I r m rc xs S ρ w') (h13 : S 13 = false) (h11 : S 11 = true) {x y : Int} (hx : ρ 8 = .int .i64 x) (hy : ρ 11 = .int .i64 y) (H : Nat) (hc : ∀ j u, (Ins.cells ⟨x, y, 0, 0⟩)[j]? = some u → w'.cell? ((⟨H, 0, none⟩ : Addr).add j) = some u) : Reg7 w w3 g bs q0 G I r m rc xs (FR.upd S 13 true) (FR.upd ρ 13 (.slice (some ⟨H, 0, none⟩) 1 1)) w' := by
  have h14 : S 14 = false := by cases hb : S 14 with | false => rfl | true => rw [h.ord.2.2 hb] at h13; cases h13
  refine ⟨?_, fun _ => h.cell2, h.cell2, ?_, h.grown, h.keeps, ?_, ?_, ?_, ?_, ?_, ?_, ?_⟩ <;> simp only [FR.upd, show ¬ (7 : Nat) = 13 by decide, show ¬ (8 : Nat) = 13 by decide, show ¬ (10 : Nat) = 13 by decide, show ¬ (11 : Nat) = 13 by decide, show ¬ (14 : Nat) = 13 by decide, if_false, if_true]
  · exact ⟨h.ord.1, fun _ => h11, fun _ => trivial⟩
  · exact h.rdr
  · exact h.l7
  · exact h.l10
  · exact h.v8
  · exact h.v11
  · exact h.row
  · exact fun _ _ => ⟨x, y, H, hx, hy, rfl, hc⟩
  · exact fun e => by rw [h14] at e; cases e
theorem Reg7.s14 (h : Reg7 w w3 g bs q0 G I r m rc xs S ρ w') (h14 : S 14 = false) (h13 : S 13 = true) (hg : w'.grownBy w'' (blk r)) (hr : ∀ b, blk r = some b → w.heap.size ≤ b ∧ b ≠ G) (hw : g < w.heap.size) {x y : Int} (hx : ρ 8 = .int .i64 x) (hy : ρ 11 = .int .i64 y) (a' : Option Addr) (c' : Nat)
    (ho : w''.ownsRow w.heap.size 70 4 (.slice a' (m + 1) c') (m + 1) (insV (xs ++ [⟨x, y, 0, 0⟩]))) (hb : blk a' = blk r ∨ ∀ b, blk a' = some b → w3.heap.size ≤ b) : Reg7 w w3 g bs q0 G I r m rc xs (FR.upd S 14 true) (FR.upd ρ 14 (.slice a' (m + 1) c')) w'' := by
  have h11 := h.ord.2.1 h13
  refine ⟨?_, ?_, hg.cell h.cell2 (fun e => (hr G e.symm).2 rfl), ?_, grown_trans h.grown hg (fun k hk => .inr (hr k hk).1), keeps_grown h.keeps hg (fun k hk => .inl hk), ?_, ?_, ?_, ?_, ?_, ?_, ?_⟩ <;> simp only [FR.upd, show ¬ (7 : Nat) = 14 by decide, show ¬ (8 : Nat) = 14 by decide, show ¬ (10 : Nat) = 14 by decide, show ¬ (11 : Nat) = 14 by decide, show ¬ (13 : Nat) = 14 by decide, if_false, if_true]
  · exact ⟨h.ord.1, h.ord.2.1, fun _ => h13⟩
  · exact fun e => by cases e
  · exact h.rdr.kept hg (fun k hk => by have := (hr k hk).1; omega)
  · exact fun a b => by rw [h11] at b; cases b
  · exact fun a b => by rw [h11] at b; cases b
  · exact h.v8
  · exact h.v11
  · exact fun e => by cases e
  · exact fun _ e => by cases e
  · exact fun _ => ⟨x, y, a', c', hx, hy, rfl, ho, hb⟩
end
/-- A program that a call owns, of which so many threads and instructions are known. -/
def DrawnM (w w' : World) (g : Nat) (bs : List Int) (q0 m : Nat) (e : Ending) : Prop :=
  ∃ (p : Prg) (a : Option Addr) (cap q : Nat), e = .returned (.slice a p.length cap) ∧ p.length ≤ cap ∧ AvP w' g a p ∧ sizeP p ≤ m ∧ Rdr w' g bs q ∧ q ≤ q0 ∧ w.grownBy w' (some g)
theorem DrawnM.of {w w' : World} {g : Nat} {bs : List Int} {q0 m : Nat} {p : Prg} {a : Option Addr} {cap q n : Nat} (hn : p.length = n) (h1 : p.length ≤ cap) (h2 : AvP w' g a p) (h3 : sizeP p ≤ m) (h4 : Rdr w' g bs q) (h5 : q ≤ q0) (h6 : w.grownBy w' (some g)) : DrawnM w w' g bs q0 m (.returned (.slice a n cap)) := by
  subst hn
  exact ⟨p, a, cap, q, rfl, h1, h2, h3, h4, h5, h6⟩

set_option maxRecDepth 100000 in
set_option maxHeartbeats 3200000 in
theorem l1Mutate_c (w : World) (g : Nat) (bs : List Int) (p : Nat) (a : Option Addr) (cap : Nat) (P : Prg) (h : Rdr w g bs p) (hp : p ≤ 800000) (hP : AvP w g a P) (hs : sizeP P ≤ 800000) :
    Calls Try.prog 33 #[.pointer (some ⟨g, 0, none⟩), .slice a P.length cap] w fun e w' => DrawnM w w' g bs (p + 10) (sizeP P + 20) e := by
  have hglt := h.lt
  have HPK := hid (fun w (q : Nat) (n : Int) (h : Rdr w g bs q) (hq : q ≤ 1000000) (hn : n ≤ 1000000000) => pick_c w g bs q n h hq hn)
  have HRD := hid h
  have HCP := hid (l1Copy_c w a cap P hP.rd (by omega))
  have hPL := sizeP_len P
  obtain ⟨n, hn⟩ : ∃ n, n = P.length := ⟨_, rfl⟩
  have HN := hid hn
  rw [← hn] at HCP hPL ⊢
  clear h hP hn
  go_enter Try.func33, Try.ntmps33
  go_wp2_with fail
  refine HCP.out.mono ?_
  rintro e w1 ⟨b, c, rfl, hp1, hb1⟩
  have HP1 := hid hp1
  have HR1 := hid (HRD.out.below hb1)
  have HG1 := hid (grown_below hb1 (some g))
  have HCL := hid hp1.cap
  have hs1 := hb1.size
  clear hp1 hb1
  by_cases hn0 : n = 0
  · have e0 : ((n : Int) == 0) = true := by rw [hn0]; rfl
    clear hn0
    go_wp2_with fail
    go_ret
    exact DrawnM.of HN.out.symm HCL.out (HP1.out.av hglt) (by omega) HR1.out (by omega) HG1.out
  · have e0 : ((n : Int) == 0) = false := by simp; omega
    have hn1 : 1 ≤ n := by omega
    clear hn0
    go_wp2_with fail
    refine (HPK.out _ _ _ HR1.out (by omega) (by omega)).mono ?_
    rintro e w2 ⟨i, rfl, hi0, hi1, hr2, hg2⟩
    have HR2 := hid hr2
    have HG2 := hid (grown_trans HG1.out hg2 (fun k hk => .inl hk.symm))
    have HP2 := hid ((HP1.out.kept_g hg2 hglt).up hg2.size)
    have hs2 := hg2.size
    clear hr2 hg2
    obtain ⟨I, rfl⟩ : ∃ I : Nat, i = I := ⟨i.toNat, by omega⟩
    have hI : I < n := by omega
    have hI' : (I : Int) < (n : Int) := by omega
    clear hi1
    go_wp2_with fail
    refine (HPK.out _ _ _ HR2.out (by omega) (by omega)).mono ?_
    rintro e w3 ⟨t, rfl, ht0, ht1, hr3, hg3⟩
    have HR3 := hid hr3
    have HG3 := hid (grown_trans HG2.out hg3 (fun k hk => .inl hk.symm))
    have HP3 := hid ((HP2.out.kept_g hg3 hglt).up hg3.size)
    have hs3 := hg3.size
    clear hr3 hg3 ht1
    by_cases t0 : t = 0
    · subst t0
      obtain ⟨G, rfl, hGb, hGt⟩ : ∃ G, b = some ⟨G, 0, none⟩ ∧ w.heap.size ≤ G ∧ G < w3.heap.size := by
        obtain ⟨rs, _, ho, _⟩ := HP3.out
        obtain ⟨G, h1, h2, h3⟩ := own_some ho (by rw [← HN.out]; omega)
        exact ⟨G, h1, h2, h3⟩
      obtain ⟨xs, hxs⟩ : ∃ xs, P[I]? = some xs := ⟨_, List.getElem?_eq_getElem (by rw [← HN.out]; exact hI)⟩
      obtain ⟨G', r, rc, hG', _, hGlt, hcell, hrow, hrb, hput⟩ := HP3.out.row hxs
      obtain rfl : G = G' := by simpa using hG'
      obtain ⟨m, hm⟩ : ∃ m, m = xs.length := ⟨_, rfl⟩
      have HM := hid hm
      have HX := hid hxs
      have HROW := hid (show w3.ownsRow w.heap.size 70 4 (.slice r m rc) m (insV xs) by rw [hm]; exact hrow)
      rw [← hm] at hcell
      have HPUT := hid hput
      have HCELL := hid hcell
      have HRB := hid hrb
      clear hm hrow hput hrb hG' hxs
      have hml : m ≤ 800000 := by have := sizeP_row HX.out; rw [← HM.out] at this; omega
      have hI0 : (0 : Int) ≤ (I : Int) := Int.natCast_nonneg _
      have hs3' := HG3.out.size
      have hGlt3 := hGt
      have HI0 := hid (Reg7.start (I := I) HCELL.out HR3.out HG3.out HROW.out)
      have hGg : G ≠ g := by omega
      have hrb : ∀ b, blk r = some b → w.heap.size ≤ b ∧ b ≠ G := fun b hb => ⟨(own_blk HROW.out b hb).1, (HRB.out b hb).2⟩
      have HRBB := hid hrb
      clear hrb
      go_wp2_with fail
      refine FR.wp_region_free 15 (Reg7 w w3 g bs (p + 1 + 1) G I r m rc xs) (by kernel_rfl) (by kernel_rfl) (by kernel_rfl) (fun _ => undef) HI0.out fun V => ?_
      (refine FR.frGo_pure _ rfl (fun K hK => ?_); go_simp; (first | refine hK _ ?_ | refine ⟨_, fun W hW => rfl, hK _ ?_⟩ | refine ⟨_, fun W hW => ⟨rfl, rfl⟩, hK _ ?_⟩); clear hK K)
      (refine FR.frGo_pure _ rfl (fun K hK => ?_); go_simp; (first | refine hK _ ?_ | refine ⟨_, fun W hW => rfl, hK _ ?_⟩ | refine ⟨_, fun W hW => ⟨rfl, rfl⟩, hK _ ?_⟩); clear hK K)
      (refine FR.frGo_pure _ rfl (fun K hK => ?_); go_simp; (first | refine hK _ ?_ | refine ⟨_, fun W hW => rfl, hK _ ?_⟩ | refine ⟨_, fun W hW => ⟨rfl, rfl⟩, hK _ ?_⟩); clear hK K)
      (refine FR.frGo_pure _ rfl (fun K hK => ?_); go_simp; (first | refine hK _ ?_ | refine ⟨_, fun W hW => rfl, hK _ ?_⟩ | refine ⟨_, fun W hW => ⟨rfl, rfl⟩, hK _ ?_⟩); clear hK K)
      (refine FR.frGo_pure _ rfl (fun K hK => ?_); go_simp; (first | refine hK _ ?_ | refine ⟨_, fun W hW => rfl, hK _ ?_⟩ | refine ⟨_, fun W hW => ⟨rfl, rfl⟩, hK _ ?_⟩); clear hK K)
      refine FR.frGo_held _ rfl (fun w' => w'.cell? ⟨G, I, none⟩ = some (.slice r m rc)) (fun S ρ w' h _ => h.cell2) (fun K hK => ?_)
      go_simp
      refine ⟨.slice r m rc, fun W hW => ?_, hK _ ?_⟩
      · go_simp
      clear hK K
      (refine FR.frGo_pure _ rfl (fun K hK => ?_); go_simp; (first | refine hK _ ?_ | refine ⟨_, fun W hW => rfl, hK _ ?_⟩ | refine ⟨_, fun W hW => ⟨rfl, rfl⟩, hK _ ?_⟩); clear hK K)
      refine FR.frGo_act _ rfl (fun S ρ w' hI hS hp K hK => ?_) ?_
      · go_simp
        exact hK _ _ ((hI.alloc _).s7 (LitAt.new hI.rdr.lt [0, 6, 1, 4] _))
      refine FR.frGo_act _ rfl (fun S ρ w' hI hS hp K hK => ?_) ?_
      · have hp7 := hp 7 (by kernel_rfl)
        have h11 : S 11 = false := by cases hb : S 11 with | false => rfl | true => rw [(hI.ord.1 hb).1] at hS; cases hS
        obtain ⟨H, hv, hHg, hrd⟩ := hI.l7 hp7.1 h11
        have hr0 : Rdr w' g bs (p + 1 + 1) := by have := hI.rdr; rw [hS, h11] at this; simpa using this
        rw [hp7.2] at hv
        rw [hv] at hK ⊢
        have HN7 := hid (num_c w' g bs (p + 1 + 1) (some ⟨H, 0, none⟩) 4 [0, 6, 1, 4] hr0 (by omega) hrd (fun b hb => by simp [blk] at hb; omega) (by decide) (by decide))
        go_simp
        refine HN7.out.mono ?_
        rintro e w'' ⟨x, rfl, _, hr, hg⟩
        exact hK _ _ (hI.s8 hS hg hglt hGg hr x)
      (refine FR.frGo_pure _ rfl (fun K hK => ?_); go_simp; (first | refine hK _ ?_ | refine ⟨_, fun W hW => rfl, hK _ ?_⟩ | refine ⟨_, fun W hW => ⟨rfl, rfl⟩, hK _ ?_⟩); clear hK K)
      refine FR.frGo_act _ rfl (fun S ρ w' hI hS hp K hK => ?_) ?_
      · go_simp
        exact hK _ _ ((hI.alloc _).s10 hS (LitAt.new hI.rdr.lt [0, 3, -1] _))
      refine FR.frGo_act _ rfl (fun S ρ w' hI hS hp K hK => ?_) ?_
      · have hp10 := hp 10 (by kernel_rfl)
        have hp8 := hp 8 (by kernel_rfl)
        obtain ⟨H, hv, hHg, hrd⟩ := hI.l10 hp10.1 hS
        have hr0 : Rdr w' g bs (p + 1 + 1 + 1) := by have := hI.rdr; rw [hS, hp8.1] at this; simpa using this
        rw [hp10.2] at hv
        rw [hv] at hK ⊢
        have HN7 := hid (num_c w' g bs (p + 1 + 1 + 1) (some ⟨H, 0, none⟩) 3 [0, 3, -1] hr0 (by omega) hrd (fun b hb => by simp [blk] at hb; omega) (by decide) (by decide))
        go_simp
        refine HN7.out.mono ?_
        rintro e w'' ⟨x, rfl, _, hr, hg⟩
        exact hK _ _ (hI.s11 hS hp8.1 hp10.1 hg hglt hGg hr x)
      by_cases hV : ∃ x y : Int, V 8 = .int .i64 x ∧ V 11 = .int .i64 y
      · obtain ⟨x8, x11, hx8, hx11⟩ := hV
        have HX8 := hid hx8
        have HX11 := hid hx11
        rw [hx8, hx11]
        clear hx8 hx11
        (refine FR.frGo_pure _ rfl (fun K hK => ?_); go_simp; (first | refine hK _ ?_ | refine ⟨_, fun W hW => rfl, hK _ ?_⟩ | refine ⟨_, fun W hW => ⟨rfl, rfl⟩, hK _ ?_⟩); clear hK K)
        refine FR.frGo_act _ rfl (fun S ρ w' hI hS hp K hK => ?_) ?_
        · have hp8 := hp 8 (by kernel_rfl)
          have hp11 := hp 11 (by kernel_rfl)
          go_simp
          exact hK _ _ ((hI.alloc _).s13 hS hp11.1 (hp8.2.trans HX8.out) (hp11.2.trans HX11.out) _ (ins_laid w' ⟨x8, x11, 0, 0⟩ _))
        refine FR.frGo_act _ rfl (fun S ρ w' hI hS hp K hK => ?_) ?_
        · have hp13 := hp 13 (by kernel_rfl)
          obtain ⟨x, y, H, e8, e11, e13, hc⟩ := hI.l13 hp13.1 hS
          have hs' := hI.grown.size
          rw [hp13.2] at e13
          refine oper_append_ins (.tmp 26) (.tmp 34) rfl w.heap.size (.slice r m rc) m xs rfl (hI.row hS) ⟨H, 0, none⟩ ⟨x, y, 0, 0⟩ ?_ hc (by omega) hs' ?_
          · rw [e13]; rfl
          · intro a' c' w'' ho hg hb
            rw [ownBlock_slice] at hg hb
            refine hK _ _ (hI.s14 hS hp13.1 hg HRBB.out hglt e8 e11 a' c' ho ?_)
            rcases hb with hb | hb
            · exact .inl hb
            · refine .inr fun b h => ?_
              rw [hb] at h
              have := hI.keeps.size
              simp only [Option.some.injEq] at h
              omega
        refine FR.frGo_nil _ ?_
        intro S ρ w8 hI hS
        have h14 := hS 14 (by decide) (by kernel_rfl)
        have h8 := hS 8 (by decide) (by kernel_rfl)
        have h11 := hS 11 (by decide) (by kernel_rfl)
        obtain ⟨x, y, a8, c8, e8, e11, e14, hown8, hat8⟩ := hI.r14 h14.1
        rw [h14.2] at e14
        rw [e14]
        have hR8 : Rdr w8 g bs (p + 1 + 1 + 1 + 1) := by have := hI.rdr; rw [h8.1, h11.1] at this; simpa using this
        have hE : (xs ++ [(⟨x, y, 0, 0⟩ : Ins)]).length = m + 1 := by rw [List.length_append, ← HM.out]; rfl
        have hp8 := HPUT.out (fun k => blk r = some k ∨ k = g) w8 (.slice a8 (m + 1) c8) (xs ++ [⟨x, y, 0, 0⟩]) hI.keeps (fun b hb _ h => by
          rcases h with h | h
          · exact h
          · omega) (by rw [hE]; exact hown8) (by
          rw [ownBlock_slice]
          exact hat8)
        obtain ⟨hc8, hf8, hP8⟩ := hp8
        rw [← HM.out] at hc8
        have HP9 := hid (show OwP (w8.setCell ⟨G, I, none⟩ (.slice a8 (m + 1) c8)) w.heap.size w8.heap.size (some ⟨G, 0, none⟩) c (P.set I (xs ++ [⟨x, y, 0, 0⟩])) from hP8)
        have hg9 : w8.grownBy (w8.setCell ⟨G, I, none⟩ (.slice a8 (m + 1) c8)) (some G) := grown_set w8 G I _
        have HR9 := hid (hR8.kept hg9 (fun y hy => by have := Option.some.inj hy; omega))
        have HG9 := hid (grown_trans hI.grown hg9 (fun y hy => .inr (by have := Option.some.inj hy; omega)))
        have HZ9 := hid (sizeP_set ⟨x, y, 0, 0⟩ HX.out)
        clear hown8 hat8 hP8 hg9 hE hI hS h14 h8 h11 e8 e11 e14 hR8
        go_wp2_with (first | (with_reducible refine wpMix_nil ?_) | (with_reducible refine wpMix_rd rfl rfl (fun K hK => ?_); go_simp; (try go_bits); refine hK _ ?_; clear hK K) | (with_reducible refine wpMix_act (o := ⟨_, .store _ _ _, _, _, _, _⟩) rfl rfl (fun K hK => ?_)))
        go_ret
        exact DrawnM.of (by rw [List.length_set]; exact HN.out.symm) HP9.out.cap (HP9.out.av hglt) (by rw [HZ9.out]; omega) HR9.out (by omega) HG9.out
      · have bad : ∀ S ρ w', Reg7 w w3 g bs (p + 1 + 1) G I r m rc xs S ρ w' → (S 8 = true ∧ ρ 8 = V 8) → (S 11 = true ∧ ρ 11 = V 11) → False := fun S ρ w' hI h8 h11 => by
          obtain ⟨x, hx⟩ := hI.v8 h8.1
          obtain ⟨y, hy⟩ := hI.v11 h11.1
          exact hV ⟨x, y, h8.2.symm.trans hx, h11.2.symm.trans hy⟩
        refine FR.frGo_held _ rfl (fun _ => False) (fun S ρ w' h hp => bad S ρ w' h (hp 8 (by kernel_rfl)) (hp 11 (by kernel_rfl))) (fun K hK => ⟨undef, fun _ h => h.elim, hK _ ?_⟩)
        refine FR.frGo_act _ rfl (fun S ρ w' hI hS hp K hK => (bad S ρ w' hI (hp 8 (by kernel_rfl)) (hp 11 (by kernel_rfl))).elim) ?_
        refine FR.frGo_act _ rfl (fun S ρ w' hI hS hp K hK => (bad S ρ w' hI (hp 8 (by kernel_rfl)) (hp 11 (by kernel_rfl))).elim) ?_
        exact FR.frGo_nil _ fun S ρ w' hI hS => (bad S ρ w' hI (hS 8 (by decide) (by kernel_rfl)) (hS 11 (by decide) (by kernel_rfl))).elim
    have n0 : (t == 0) = false := by simpa using t0
    clear t0
    by_cases t1 : t = 1
    · subst t1
      obtain ⟨G, rfl, hGb, hGt⟩ : ∃ G, b = some ⟨G, 0, none⟩ ∧ w.heap.size ≤ G ∧ G < w3.heap.size := by
        obtain ⟨rs, _, ho, _⟩ := HP3.out
        obtain ⟨G, h1, h2, h3⟩ := own_some ho (by rw [← HN.out]; omega)
        exact ⟨G, h1, h2, h3⟩
      obtain ⟨xs, hxs⟩ : ∃ xs, P[I]? = some xs := ⟨_, List.getElem?_eq_getElem (by rw [← HN.out]; exact hI)⟩
      obtain ⟨G', r, rc, hG', _, hGlt, hcell, hrow, hrb, hput⟩ := HP3.out.row hxs
      obtain rfl : G = G' := by simpa using hG'
      obtain ⟨m, hm⟩ : ∃ m, m = xs.length := ⟨_, rfl⟩
      have HM := hid hm
      have HX := hid hxs
      have HROW := hid (show w3.ownsRow w.heap.size 70 4 (.slice r m rc) m (insV xs) by rw [hm]; exact hrow)
      rw [← hm] at hcell
      have HPUT := hid hput
      have HCELL := hid hcell
      have HRB := hid hrb
      clear hm hrow hput hrb hG' hxs
      have hml : m ≤ 800000 := by have := sizeP_row HX.out; rw [← HM.out] at this; omega
      have hI0 : (0 : Int) ≤ (I : Int) := Int.natCast_nonneg _
      have HC0 := hid (show (w3.drew).cell? ⟨G, I, none⟩ = some (.slice r m rc) from HCELL.out)
      obtain ⟨J, hJ⟩ : ∃ J : World → Prop, J = fun w' => w'.cell? ⟨G, I, none⟩ = some (.slice r m rc) := ⟨_, rfl⟩
      have HJ := hid (fun w' (h : w'.cell? ⟨G, I, none⟩ = some (.slice r m rc)) => show J w' by rw [hJ]; exact h)
      have HJ' := hid (fun w' (h : J w') => show w'.cell? ⟨G, I, none⟩ = some (.slice r m rc) by rw [hJ] at h; exact h)
      clear hJ
      go_wp2_with fail
      refine MJ.wp_region_mix (J := J) (by kernel_rfl) (by kernel_rfl) ?_
      repeat (refine MJ.wpMix_pure rfl rfl (fun K hK => ?_); go_simp; (first | refine hK _ ?_ | refine ⟨_, fun W hW => rfl, hK _ ?_⟩ | refine ⟨_, fun W hW => ⟨rfl, rfl⟩, hK _ ?_⟩); clear hK K)
      refine MJ.wpMix_load (.slice r m rc) rfl rfl (HJ.out _ HC0.out) (fun w' hj => ?_) ?_
      · have := HJ'.out w' hj
        go_simp
      have HNUM5 := hid (num_c ((w3.alloc (.cells #[.int .i64 4, .int .i64 (-1), .int .i64 3] 3)).drew) g bs (p + 1 + 1) (some ⟨w3.heap.size, 0, none⟩) 3 [4, -1, 3] (rdr_alloc (HR3.out) _) (by omega) (rd_lit w3 [4, -1, 3] 3) (fun b hb => by simp [blk] at hb; omega) (by decide) (by decide))
      have HA5 := hid (show ((w3.alloc (.cells #[.int .i64 4, .int .i64 (-1), .int .i64 3] 3)).drew).cell? ⟨G, I, none⟩ = some (.slice r m rc) from cell_alloc (HCELL.out) (by omega) (.cells #[.int .i64 4, .int .i64 (-1), .int .i64 3] 3))
      have HO5 := hid (show ((w3.alloc (.cells #[.int .i64 4, .int .i64 (-1), .int .i64 3] 3)).drew).ownsRow w.heap.size 70 4 (.slice r m rc) m (insV xs) from World.ownsRow.alloc (HROW.out) (.cells #[.int .i64 4, .int .i64 (-1), .int .i64 3] 3))
      have HK5 := hid (show Keeps (fun k => blk r = some k ∨ k = g) w3 ((w3.alloc (.cells #[.int .i64 4, .int .i64 (-1), .int .i64 3] 3)).drew) from keeps_drew (keeps_alloc (Keeps.refl (fun k => blk r = some k ∨ k = g) w3) (.cells #[.int .i64 4, .int .i64 (-1), .int .i64 3] 3)))
      have HGa5 := hid (show w.grownBy ((w3.alloc (.cells #[.int .i64 4, .int .i64 (-1), .int .i64 3] 3)).drew) (some g) from grown_drew (grown_alloc (HG3.out) (.cells #[.int .i64 4, .int .i64 (-1), .int .i64 3] 3)))
      (refine MJ.wpMix_pure rfl rfl (fun K hK => ?_); go_simp; (first | refine hK _ ?_ | refine ⟨_, fun W hW => rfl, hK _ ?_⟩ | refine ⟨_, fun W hW => ⟨rfl, rfl⟩, hK _ ?_⟩); clear hK K)
      (with_reducible refine MJ.wpMix_make rfl rfl (fun K hK => ?_); go_simp)
      refine hK _ _ (HJ.out _ HA5.out) ?_
      clear hK K
      (with_reducible refine MJ.wpMix_make rfl rfl (fun K hK => ?_); go_simp)
      refine HNUM5.out.mono ?_
      rintro e w5 ⟨x5, rfl, _, hr5, hg5⟩
      have HR5 := hid hr5
      have HC5 := hid (hg5.cell HA5.out (by simp; omega))
      have HP5 := hid (own_kept_g HO5.out hg5 hglt)
      have HL5 := hid (keeps_grown HK5.out hg5 (fun k hk => .inr (Option.some.inj hk).symm))
      have HG5 := hid (grown_trans HGa5.out hg5 (fun k hk => .inl hk.symm))
      have hs5 : w3.heap.size + 1 ≤ w5.heap.size := by have := hg5.size; simp at this; omega
      clear hr5 hg5
      refine hK _ _ (HJ.out _ HC5.out) ?_
      clear hK K
      have HCB := hid (cell_alloc (HC5.out) (by omega) (.cells #[.int .i64 2, .int .i64 0, .int .i64 0, .int .i64 x5] 70))
      (refine MJ.wpMix_pure rfl rfl (fun K hK => ?_); go_simp; (first | refine hK _ ?_ | refine ⟨_, fun W hW => rfl, hK _ ?_⟩ | refine ⟨_, fun W hW => ⟨rfl, rfl⟩, hK _ ?_⟩); clear hK K)
      (with_reducible refine MJ.wpMix_make rfl rfl (fun K hK => ?_); go_simp)
      refine hK _ _ (HJ.out _ HCB.out) ?_
      clear hK K
      refine wpMixJ_append_ins rfl (.tmp 44) (.tmp 49) rfl w.heap.size (.slice r m rc) m xs rfl ((HP5.out).alloc _) ⟨w5.heap.size, 0, none⟩ ⟨2, 0, 0, x5⟩ rfl (ins_laid w5 ⟨2, 0, 0, x5⟩ _) (by omega) (by simp; omega) ?_
      intro v8 w8 hown8 hgrow8 hat8
      obtain ⟨a8, c8, rfl, _⟩ := own_shape hown8
      rw [ownBlock_slice] at hgrow8
      rw [ownBlock_slice, ownBlock_slice] at hat8
      have hE : (xs ++ [(⟨2, 0, 0, x5⟩ : Ins)]).length = m + 1 := by rw [List.length_append, ← HM.out]; rfl
      have hp8 := HPUT.out (fun k => blk r = some k ∨ k = g) w8 (.slice a8 (m + 1) c8) (xs ++ [⟨2, 0, 0, x5⟩]) (keeps_grown (keeps_alloc HL5.out (.cells #[.int .i64 2, .int .i64 0, .int .i64 0, .int .i64 x5] 70)) hgrow8 (fun k hk => .inl hk)) (fun b hb _ h => by
        rcases h with h | h
        · exact h
        · omega) (by rw [hE]; exact hown8) (by
        rw [ownBlock_slice]
        rcases hat8 with h | h
        · exact .inl h
        · refine .inr (fun b hb => ?_)
          rw [h] at hb
          simp at hb
          omega)
      obtain ⟨hc8, hf8, hP8⟩ := hp8
      rw [← HM.out] at hc8
      have HP9 := hid (show OwP (w8.setCell ⟨G, I, none⟩ (.slice a8 (m + 1) c8)) w.heap.size w8.heap.size (some ⟨G, 0, none⟩) c (P.set I (xs ++ [⟨2, 0, 0, x5⟩])) from hP8)
      have hg9 : w8.grownBy (w8.setCell ⟨G, I, none⟩ (.slice a8 (m + 1) c8)) (some G) := grown_set w8 G I _
      have HR9 := hid (((rdr_alloc (HR5.out) (.cells #[.int .i64 2, .int .i64 0, .int .i64 0, .int .i64 x5] 70)).kept hgrow8 (fun y hy => by have := (own_blk (HP5.out) y hy).1; omega)).kept hg9 (fun y hy => by have := Option.some.inj hy; omega))
      have HG9 := hid (grown_trans (grown_trans (grown_alloc (HG5.out) (.cells #[.int .i64 2, .int .i64 0, .int .i64 0, .int .i64 x5] 70)) hgrow8 (fun y hy => .inr (own_blk (HP5.out) y hy).1)) hg9 (fun y hy => .inr (by have := Option.some.inj hy; omega)))
      have HZ9 := hid (sizeP_set ⟨2, 0, 0, x5⟩ HX.out)
      clear hown8 hgrow8 hat8 hP8 hg9 hE
      (refine MJ.wpMix_pure rfl rfl (fun K hK => ?_); go_simp; (first | refine hK _ ?_ | refine ⟨_, fun W hW => rfl, hK _ ?_⟩ | refine ⟨_, fun W hW => ⟨rfl, rfl⟩, hK _ ?_⟩); clear hK K)
      (with_reducible refine MJ.wpMix_act rfl rfl rfl (fun K hK => ?_); go_simp)
      refine hK _ _ ?_
      clear hK K
      refine MJ.wpMix_nil ?_
      go_wp2_with fail
      go_ret
      exact DrawnM.of (by rw [List.length_set]; exact HN.out.symm) HP9.out.cap (HP9.out.av hglt) (by rw [HZ9.out]; omega) HR9.out (by omega) HG9.out
    have n1 : (t == 1) = false := by simpa using t1
    clear t1
    by_cases t2 : t = 2
    · subst t2
      go_wp2_with fail
      go_loopw [5] (fun v wr => ∃ (b : Option Addr) (c : Nat) (Q : Prg), v = .slice b Q.length c ∧ Hid (sizeP Q ≤ sizeP P + 4 ∧ (Q.length ≤ 4 → sizeP Q ≤ sizeP P + Q.length)) ∧ Hid (OwP wr w.heap.size wr.heap.size b c Q) ∧ Hid (Rdr wr g bs (p + 1 + 1)) ∧ Hid (w.grownBy wr (some g))) (fun v _ => match v with | .slice _ n _ => 4 - n | _ => 0)
      case atStart => exact ⟨b, c, P, by rw [← HN.out], hid ⟨by omega, fun _ => by omega⟩, HP3, HR3, HG3⟩
      case round =>
        obtain ⟨b2, c2, Q, rfl, HS, HP, HR, HG⟩ := hrel
        obtain ⟨wo, rfl⟩ : ∃ wo : World, wo = wr := ⟨_, rfl⟩
        have hso := HG.out.size
        obtain ⟨m, hm⟩ : ∃ m, m = Q.length := ⟨_, rfl⟩
        have HM := hid hm
        rw [← hm] at HS ⊢
        clear hm
        have hS := HS.out.1
        by_cases hm4 : m ≤ 3
        · have hS2 := HS.out.2 (by omega)
          have hm4' : (m : Int) ≤ 3 := by omega
          go_wp2_with (at_builtin; refine wpList_pushn rfl (.tmp 57) (.tmp 59) rfl w.heap.size wo.heap.size b2 m c2 Q HM.out.symm rfl (HP.out.below (((Below.refl _ _).alloc (Nat.le_refl _) _).alloc (by simp) _)) (some ⟨wo.heap.size, 0, none⟩) 0 0 [] rfl ((own_lit0 wo w.heap.size 70 4 hso).alloc _) (fun y hy => by simp [blk] at hy; omega) ⟨wo.heap.size + 1, 0, none⟩ rfl (by simp) (by omega) (by simp; omega) ?_)
          intro a9 c9 w9 hP9 hg9
          have HP9 := hid hP9
          have HR9 := hid ((rdr_alloc (rdr_alloc HR.out (.cells #[] 70)) (.cells #[.slice (some ⟨wo.heap.size, 0, none⟩) 0 0] 30)).kept hg9 (fun y hy => by
            obtain ⟨rs, _, ho, _⟩ := HP.out
            have := (own_blk ho y hy).1
            omega))
          have HG9 := hid (grown_trans (grown_alloc (grown_alloc HG.out (.cells #[] 70)) (.cells #[.slice (some ⟨wo.heap.size, 0, none⟩) 0 0] 30)) hg9 (fun y hy => .inr (by
            obtain ⟨rs, _, ho, _⟩ := HP.out
            exact (own_blk ho y hy).1)))
          have HE9 := hid (show (Q ++ [([] : List Ins)]).length = m + 1 by rw [List.length_append, ← HM.out]; rfl)
          have HZ9 := hid (show sizeP (Q ++ [([] : List Ins)]) ≤ sizeP P + 4 ∧ ((Q ++ [([] : List Ins)]).length ≤ 4 → sizeP (Q ++ [([] : List Ins)]) ≤ sizeP P + (Q ++ [([] : List Ins)]).length) by
            rw [sizeP_push, List.length_append, ← HM.out]
            simp
            omega)
          clear hP9 hg9
          go_wp2_with fail
          go_roundw
          case rel => exact ⟨a9, c9, Q ++ [[]], by rw [HE9.out], HZ9, HP9, HR9, HG9⟩
          case measure => first | omega | (simp; omega)
        · have hm4' : decide ((m : Int) ≤ 3) = false := by simp; omega
          have hm4'' : decide (m ≤ 3) = false := by simp; omega
          clear hm4
          have n3 : ((2 : Int) == 3) = false := rfl
          go_wp2_with fail
          go_ret
          exact DrawnM.of HM.out.symm HP.out.cap (HP.out.av hglt) (by omega) HR.out (by omega) HG.out
    have n2 : (t == 2) = false := by simpa using t2
    clear t2
    by_cases t3 : t = 3
    · subst t3
      obtain ⟨G, rfl, hGb, hGt⟩ : ∃ G, b = some ⟨G, 0, none⟩ ∧ w.heap.size ≤ G ∧ G < w3.heap.size := by
        obtain ⟨rs, _, ho, _⟩ := HP3.out
        obtain ⟨G, h1, h2, h3⟩ := own_some ho (by rw [← HN.out]; omega)
        exact ⟨G, h1, h2, h3⟩
      obtain ⟨xs0, hxs0⟩ : ∃ xs, P[I]? = some xs := ⟨_, List.getElem?_eq_getElem (by rw [← HN.out]; exact hI)⟩
      have HX0 := hid hxs0
      clear hxs0
      go_wp2_with fail
      go_loopw [78] (fun _ wr => ∃ (Q : Prg) (xs : List Ins), Hid (Q.length = n) ∧ Hid (Q[I]? = some xs) ∧ Hid (sizeP Q ≤ sizeP P + 8 ∧ (xs.length ≤ 8 → sizeP Q ≤ sizeP P + xs.length)) ∧ Hid (OwP wr w.heap.size wr.heap.size (some ⟨G, 0, none⟩) c Q) ∧ Hid (Rdr wr g bs (p + 1 + 1)) ∧ Hid (w.grownBy wr (some g))) (fun _ wr => match wr.cell? ⟨G, I, none⟩ with | some (.slice _ m _) => 8 - m | _ => 0)
      case atStart => exact ⟨P, xs0, hid HN.out.symm, HX0, hid ⟨by omega, fun _ => by omega⟩, HP3, HR3, HG3⟩
      case round =>
        obtain ⟨Q, xs, HQN, HX, HS, HP, HR, HG⟩ := hrel
        obtain ⟨wo, rfl⟩ : ∃ wo : World, wo = wr := ⟨_, rfl⟩
        have hso := HG.out.size
        obtain ⟨G', r, rc, hG', _, hGlt, hcell, hrow, hrb, hput⟩ := HP.out.row HX.out
        obtain rfl : G = G' := by simpa using hG'
        obtain ⟨m, hm⟩ : ∃ m, m = xs.length := ⟨_, rfl⟩
        have HM := hid hm
        have HROW := hid (show wo.ownsRow w.heap.size 70 4 (.slice r m rc) m (insV xs) by rw [hm]; exact hrow)
        rw [← hm] at HS hcell
        have HPUT := hid hput
        have HCELL := hid hcell
        have HRB := hid hrb
        have hS := HS.out.1
        clear hm hrow hput hrb hG'
        by_cases hm7 : m ≤ 7
        · have hS2 := HS.out.2 (by omega)
          have hm7' : (m : Int) ≤ 7 := by omega
          go_wp2_with (at_builtin; refine wpList_append_ins rfl (.tmp 74) (.tmp 76) rfl w.heap.size (.slice r m rc) m xs rfl (HROW.out.alloc _) ⟨wo.heap.size, 0, none⟩ ⟨1, 0, 0, 0⟩ rfl (ins_laid wo ⟨1, 0, 0, 0⟩ _) (by omega) (by simp; omega) ?_)
          intro v4 w4 hown4 hgrow4 hat4
          have hE : (xs ++ [(⟨1, 0, 0, 0⟩ : Ins)]).length = m + 1 := by rw [List.length_append, ← HM.out]; rfl
          rw [ownBlock_slice] at hgrow4 hat4
          have hp4 := HPUT.out (fun k => blk r = some k) w4 v4 (xs ++ [⟨1, 0, 0, 0⟩]) ((Keeps.of_below ((Below.refl _ _).alloc (Nat.le_refl _) _)).trans (Keeps.of_grown hgrow4 (fun k hk => hk))) (fun b _ _ h => h) (by rw [hE]; exact hown4) (by
            rcases hat4 with h | h
            · exact .inl h
            · refine .inr (fun b hb => ?_)
              rw [h] at hb
              simp at hb
              omega)
          obtain ⟨hc4, hf4, hP4⟩ := hp4
          rw [← HM.out] at hc4
          obtain ⟨a4, c4, rfl, _⟩ := own_shape hown4
          have HP5 := hid (show OwP (w4.setCell ⟨G, I, none⟩ (.slice a4 (m + 1) c4)) w.heap.size (w4.setCell ⟨G, I, none⟩ (.slice a4 (m + 1) c4)).heap.size (some ⟨G, 0, none⟩) c (Q.set I (xs ++ [⟨1, 0, 0, 0⟩])) by simpa [World.setCell] using hP4)
          have hg5 : w4.grownBy (w4.setCell ⟨G, I, none⟩ (.slice a4 (m + 1) c4)) (some G) := grown_set w4 G I _
          have HR5 := hid (((rdr_alloc HR.out (.cells #[.int .i64 1, .int .i64 0, .int .i64 0, .int .i64 0] 70)).kept hgrow4 (fun y hy => by have := (own_blk HROW.out y hy).1; omega)).kept hg5 (fun y hy => by have := Option.some.inj hy; omega))
          have HG5 := hid (grown_trans (grown_trans (grown_alloc HG.out (.cells #[.int .i64 1, .int .i64 0, .int .i64 0, .int .i64 0] 70)) hgrow4 (fun y hy => .inr (own_blk HROW.out y hy).1)) hg5 (fun y hy => .inr (by have := Option.some.inj hy; omega)))
          have HX5 := hid (show (Q.set I (xs ++ [⟨1, 0, 0, 0⟩]))[I]? = some (xs ++ [⟨1, 0, 0, 0⟩]) by rw [List.getElem?_set_self (by rw [HQN.out]; exact hI)])
          have HL5 := hid (show (Q.set I (xs ++ [⟨1, 0, 0, 0⟩])).length = n by rw [List.length_set]; exact HQN.out)
          have HZ5 := hid (show sizeP (Q.set I (xs ++ [⟨1, 0, 0, 0⟩])) ≤ sizeP P + 8 ∧ ((xs ++ [(⟨1, 0, 0, 0⟩ : Ins)]).length ≤ 8 → sizeP (Q.set I (xs ++ [⟨1, 0, 0, 0⟩])) ≤ sizeP P + (xs ++ [(⟨1, 0, 0, 0⟩ : Ins)]).length) by
            rw [sizeP_set _ HX.out, hE]
            omega)
          have HC5 := hid (show (w4.setCell ⟨G, I, none⟩ (.slice a4 (m + 1) c4)).cell? ⟨G, I, none⟩ = some (.slice a4 (m + 1) c4) from World.cell?_setCell_same _ _ _ hc4)
          clear hown4 hgrow4 hat4 hP4 hg5 hE
          go_wp2_with fail
          go_roundw
          case rel => exact ⟨_, _, HL5, HX5, HZ5, HP5, HR5, HG5⟩
          case measure =>
            rw [HC5.out, HCELL.out]
            show 8 - (m + 1) < 8 - m
            omega
        · have hm7' : decide ((m : Int) ≤ 7) = false := by simp; omega
          have hm7'' : decide (m ≤ 7) = false := by simp; omega
          clear hm7
          have n4 : ((3 : Int) == 4) = false := rfl
          go_wp2_with fail
          go_ret
          exact DrawnM.of HQN.out HP.out.cap (HP.out.av hglt) (by omega) HR.out (by omega) HG.out
    have n3 : (t == 3) = false := by simpa using t3
    clear t3
    by_cases t4 : t = 4
    · subst t4
      obtain ⟨G, rfl, hGb, hGt⟩ : ∃ G, b = some ⟨G, 0, none⟩ ∧ w.heap.size ≤ G ∧ G < w3.heap.size := by
        obtain ⟨rs, _, ho, _⟩ := HP3.out
        obtain ⟨G, h1, h2, h3⟩ := own_some ho (by rw [← HN.out]; omega)
        exact ⟨G, h1, h2, h3⟩
      have HAT := hid (HP3.out.avTail hglt)
      have HLT := hid (show P.tail.length = n - 1 by rw [List.length_tail, ← HN.out])
      have HZT := hid (sizeP_tail P)
      have hc := HCL.out
      rw [← HN.out] at hc
      have hc1 : (1 : Int) ≤ c := by omega
      by_cases hc2 : c = 1
      · have HE := hid (show P.tail = [] from List.eq_nil_of_length_eq_zero (by rw [HLT.out]; omega))
        have hn2 : n = 1 := by omega
        subst hc2
        subst hn2
        go_wp2_with fail
        go_ret
        refine DrawnM.of (p := []) rfl (Nat.zero_le _) ⟨[], rfl, .inl rfl, fun y hy e => ?_, fun k r xs h1 h2 => by simp at h1⟩ (by simp [sizeP]) HR3.out (by omega) HG3.out
        simp only [blk, Option.some.injEq] at hy
        omega
      · go_wp2_with fail
        go_ret
        exact DrawnM.of (p := P.tail) HLT.out (by rw [HLT.out]; omega) HAT.out (by have := HZT.out; omega) HR3.out (by omega) HG3.out
    have n4 : (t == 4) = false := by simpa using t4
    clear t4
    go_wp2_with fail
    go_ret
    exact DrawnM.of HN.out.symm HP3.out.cap (HP3.out.av hglt) (by omega) HR3.out (by omega) HG3.out
end Go.Proofs.Ythlmfjoiicnomaa
