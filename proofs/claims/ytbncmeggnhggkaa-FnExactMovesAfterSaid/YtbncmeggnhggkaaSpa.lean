/-
  PROVED HERE: what spec.l3Start does. CONDITIONS: as each theorem states.
-/
import Derived.Test.YtbncmeggnhggkaaFrp
import Derived.Test.YtbncmeggnhggkaaCnt
import Derived.Test.YtbncmeggnhggkaaVav
namespace Go.Proofs.Ytbncmeggnhggkaa
open Go.RowKit
set_option linter.unusedVariables false
set_option linter.unusedSimpArgs false

section
variable {P : Program} {ops : Array Oper} {I : (Nat → Bool) → (Nat → Value) → World → Prop}
theorem frGo_bad {V : Nat → Value} {fin : Act → Prop} {k : Nat} {o : Oper} {l : List Oper} {a : Act} (ha : FR.actB o = false)
    (hbad : ∀ S ρ w, I S ρ w → (∀ j, FR.predB ops j k = true → S j = true ∧ ρ j = V j) → False) (h : FR.frGo P ops I V fin (k + 1) l (a.put o.dst undef)) : FR.frGo P ops I V fin k (o :: l) a := by
  unfold FR.frGo
  rw [if_neg (by simp [ha])]
  exact ⟨undef, fun S ρ w h1 h2 => (hbad S ρ w h1 h2).elim, h⟩
theorem frGo_badAct {V : Nat → Value} {fin : Act → Prop} {k : Nat} {o : Oper} {l : List Oper} {a : Act} (ha : FR.actB o = true)
    (hbad : ∀ S ρ w, I S ρ w → (∀ j, FR.predB ops j k = true → S j = true ∧ ρ j = V j) → False) (h : FR.frGo P ops I V fin (k + 1) l (a.put o.dst (V k))) : FR.frGo P ops I V fin k (o :: l) a :=
  FR.frGo_act I ha (fun S ρ w h1 _ h2 => (hbad S ρ w h1 h2).elim) h
end
/-- 'make([]int, n)'. -/
theorem oper_make {P : Program} {o : Oper} {a : Act} {w : World} {K : Act → World → Prop} {Q : Exit → Act → World → Prop} (t : TypeId) (l c : Operand) (ho : o.op = .makeSlice t l c)
    (base : Nat) (e : TypeId) (z : Value) (size bytes : Nat) (ht : P.underlying t = some (.slice e)) (hi : (P.info? e).map (fun i => (i.zero, i.size, i.bytes)) = some (some z, size, bytes)) (hby : bytes ≤ 1000)
    (L C : Int) (n : Nat) (hl : a.eval l = .int .i64 L) (hc : a.eval c = .int .i64 C) (hL : L = (n : Int)) (hC : C = (n : Int)) (hn : n ≤ 100000000) (hbase : base ≤ w.heap.size)
    (h : ∀ w', w'.ownsRow base e size (.slice (some ⟨w.heap.size, 0, none⟩) n n) n (madeCells z.cells (n * size)).toList → Below w.heap.size w w' → w.heap.size < w'.heap.size → K (a.put o.dst (.slice (some ⟨w.heap.size, 0, none⟩) n n)) w') : o.wp P a w K Q := by
  obtain ⟨i, h2, hz, h3, h4⟩ := info_parts hi
  have hb : i.bytes * n ≤ 281474976710656 := by
    rw [h4]
    have : bytes * n ≤ 1000 * 100000000 := Nat.mul_le_mul hby hn
    omega
  obtain ⟨w', hr, q1, q2⟩ := run_make_full (P := P) w base t e i z size ht h2 hz h3 .i64 .i64 n hb (by unfold maxLen; omega) hbase
  subst hL
  subst hC
  unfold Oper.wp execOp
  simp only [ho, Sem.run_bind, Sem.run_pure, Result.andThen_ok, hl, hc, hr]
  exact h w' q1 ⟨q2.os, q2.tape, q2.output, q2.size, fun k hk => q2.block k hk (by simp)⟩ (own_blk q1 _ rfl).2

abbrev ints0 (n : Nat) : List Int := List.replicate n 0
theorem made_ints (n : Nat) : (madeCells (Value.int .i64 0).cells (n * 1)).toList = ints (ints0 n) := by
  rw [Nat.mul_one]
  simp [toList_madeCells_one, Value.cells, ints, ints0]
theorem own_ints0 {w : World} {base n cap : Nat} {a : Option Addr} (h : w.ownsRow base 3 1 (.slice a n cap) n (madeCells (Value.int .i64 0).cells (n * 1)).toList) : w.ownsRow base 3 1 (.slice a n cap) n (ints (ints0 n)) := by
  rw [← made_ints]; exact h
theorem keeps_setRow (w : World) (g : Nat) (cs : Array Value) : Keeps (· = g) w (w.setRow g cs) :=
  ⟨rfl, rfl, rfl, by simp [World.setRow], fun k _ h => setRow_other w g k cs h⟩
/-- A row of zeros. -/
def IsRow0 (B : Nat) (n : Nat) (w : World) (v : Value) : Prop := ∃ g c, v = .slice (some ⟨g, 0, none⟩) n c ∧ w.ownsRow B 3 1 v n (ints (ints0 n))
theorem IsRow0.below {B n : Nat} {w w' : World} {v : Value} (h : IsRow0 B n w v) (hb : Below w.heap.size w w') : IsRow0 B n w' v := by
  obtain ⟨g, c, h1, h2⟩ := h
  exact ⟨g, c, h1, own_below h2 hb⟩
def IsCells (cs : Array Value) (t : TypeId) (w : World) (v : Value) : Prop := ∃ g, v = .pointer (some ⟨g, 0, none⟩) ∧ w.heap[g]? = some (.cells cs t (0, 0))
theorem IsCells.below {cs : Array Value} {t : TypeId} {w w' : World} {v : Value} (h : IsCells cs t w v) (hb : Below w.heap.size w w') : IsCells cs t w' v := by
  obtain ⟨g, h1, h2⟩ := h
  exact ⟨g, h1, by rw [hb.block g (Array.getElem?_eq_some_iff.1 h2).1]; exact h2⟩
abbrev zS : Value := .slice none 0 0
abbrev zSt : Array Value := #[zS, zS, zS, zS]
theorem rows_empty (w : World) (B : Nat) (a : Option Addr) (n c : Nat) (h : w.ownsRow B 23 1 (.slice a n c) n (List.replicate n zS)) : ∃ rs : List (Option Addr × Nat), rs.length = (List.replicate n ([] : List Int)).length ∧ Rd w a (rowsL rs (List.replicate n [])) ∧ (∀ b, blk a = some b → B ≤ b) ∧ ∀ (k : Nat) r xs, rs[k]? = some r → (List.replicate n ([] : List Int))[k]? = some xs → (Rd w r.1 (ints xs) ∧ xs.length ≤ r.2) ∧ ∀ b, blk r.1 = some b → B ≤ b := by
  refine ⟨List.replicate n (none, 0), by simp, ?_, fun b hb => (own_blk h b hb).1, fun k r xs h1 h2 => ?_⟩
  · have e : rowsL (List.replicate n ((none : Option Addr), 0)) (List.replicate n []) = List.replicate n zS := by
      unfold rowsL
      rw [List.zipWith_replicate]
      simp
    rw [e]
    exact Rd.own h
  · rw [List.getElem?_replicate] at h1 h2
    split at h1
    · cases h1
      rw [if_pos (by assumption)] at h2
      cases h2
      exact ⟨⟨.inl rfl, Nat.le_refl _⟩, fun b hb => by simp [blk] at hb⟩
    · cases h1
def startQ (B n : Nat) (k : Nat) (w : World) (v : Value) : Prop :=
  if k = 2 then IsRow0 B n w v else if k = 6 then IsRow0 B (n * 3) w v else if k = 7 then IsRow0 B 3 w v else if k = 9 then IsCells zSt 44 w v else True
theorem startQ_stays (B n : Nat) : Stays (startQ B n) := by
  intro k w w' v h hb
  unfold startQ at h ⊢
  split
  · rw [if_pos (by assumption)] at h; exact h.below hb
  · rw [if_neg (by assumption)] at h
    split
    · rw [if_pos (by assumption)] at h; exact h.below hb
    · rw [if_neg (by assumption)] at h
      split
      · rw [if_pos (by assumption)] at h; exact h.below hb
      · rw [if_neg (by assumption)] at h
        split
        · rw [if_pos (by assumption)] at h; exact h.below hb
        · trivial

set_option maxRecDepth 100000 in
set_option maxHeartbeats 1600000 in
theorem l3Start_c (w : World) (a : Option Addr) (cap : Nat) (p : Prg) (n : Nat) (hl : p.length ≤ 1000) (hn : n ≤ 1000) :
    Calls Try.prog 34 #[.slice a p.length cap, .int .i64 n] w fun e w' => ∃ q : Sp, e = .returned (q.v (start3 p n)) ∧ Fresh w' w.heap.size q (start3 p n) ∧ Below w.heap.size w w' := by
  obtain ⟨m, hm⟩ : ∃ m, m = p.length := ⟨_, rfl⟩
  rw [← hm] at hl ⊢
  have HM := hid hm
  clear hm
  have HI := hid Try.info_int
  obtain ⟨i0, j1, j2, j3, j4⟩ := info_parts Try.info_introw
  have HJ := hid (And.intro j1 (And.intro j2 (And.intro j3 j4)))
  clear j1 j2 j3 j4
  go_enter Try.func34, Try.ntmps34
  go_wp2_with fail
  obtain ⟨w1, hw1⟩ : ∃ w1, w1 = w.alloc (.cells zSt 44) := ⟨_, rfl⟩
  rw [← hw1]
  refine FR.wp_region_free 10 (Parts w1 id (startQ w1.heap.size m)) (by kernel_rfl) (by kernel_rfl) (by kernel_rfl) (fun _ => undef) (Parts.start _ _ _ _) fun V => ?_
  (refine FR.frGo_pure _ rfl (fun K hK => ?_); go_simp; (first | refine hK _ ?_ | refine ⟨_, fun W hW => rfl, hK _ ?_⟩ | refine ⟨_, fun W hW => ⟨rfl, rfl⟩, hK _ ?_⟩); clear hK K)
  (refine FR.frGo_pure _ rfl (fun K hK => ?_); go_simp; (first | refine hK _ ?_ | refine ⟨_, fun W hW => rfl, hK _ ?_⟩ | refine ⟨_, fun W hW => ⟨rfl, rfl⟩, hK _ ?_⟩); clear hK K)
  refine FR.frGo_act (k := 2) _ rfl (fun S ρ w' hI hS hp K hK => ?_) ?_
  · refine oper_make 23 _ _ rfl w1.heap.size 3 (.int .i64 0) 1 8 Try.underlying23 HI.out (by omega) _ _ m rfl rfl rfl rfl (by omega) hI.below.size ?_
    intro w2 hown hb hlt
    exact hK _ _ (hI.step (startQ_stays _ _) hb ⟨_, _, rfl, own_ints0 hown⟩ fun b e => .inl (by simp [vblk, blk] at e; omega))
  (refine FR.frGo_pure _ rfl (fun K hK => ?_); go_simp; (first | refine hK _ ?_ | refine ⟨_, fun W hW => rfl, hK _ ?_⟩ | refine ⟨_, fun W hW => ⟨rfl, rfl⟩, hK _ ?_⟩); clear hK K)
  (refine FR.frGo_pure _ rfl (fun K hK => ?_); go_simp; (first | refine hK _ ?_ | refine ⟨_, fun W hW => rfl, hK _ ?_⟩ | refine ⟨_, fun W hW => ⟨rfl, rfl⟩, hK _ ?_⟩); clear hK K)
  (refine FR.frGo_pure _ rfl (fun K hK => ?_); go_simp; (first | refine hK _ ?_ | refine ⟨_, fun W hW => rfl, hK _ ?_⟩ | refine ⟨_, fun W hW => ⟨rfl, rfl⟩, hK _ ?_⟩); clear hK K)
  refine FR.frGo_act (k := 6) _ rfl (fun S ρ w' hI hS hp K hK => ?_) ?_
  · refine oper_make 23 _ _ rfl w1.heap.size 3 (.int .i64 0) 1 8 Try.underlying23 HI.out (by omega) _ _ (m * 3) rfl rfl ((IntWalk.i64_in _ (by omega)).trans (by omega)) ((IntWalk.i64_in _ (by omega)).trans (by omega)) (by omega) hI.below.size ?_
    intro w2 hown hb hlt
    exact hK _ _ (hI.step (startQ_stays _ _) hb ⟨_, _, rfl, own_ints0 hown⟩ fun b e => .inl (by simp [vblk, blk] at e; omega))
  refine FR.frGo_act (k := 7) _ rfl (fun S ρ w' hI hS hp K hK => ?_) ?_
  · refine oper_make 23 _ _ rfl w1.heap.size 3 (.int .i64 0) 1 8 Try.underlying23 HI.out (by omega) _ _ 3 rfl rfl (by omega) (by omega) (by omega) hI.below.size ?_
    intro w2 hown hb hlt
    exact hK _ _ (hI.step (startQ_stays _ _) hb ⟨_, _, rfl, own_ints0 hown⟩ fun b e => .inl (by simp [vblk, blk] at e; omega))
  have q2 : ∀ S ρ w', Parts w1 id (startQ w1.heap.size m) S ρ w' → (S 2 = true ∧ ρ 2 = V 2) → IsRow0 w1.heap.size m w' (V 2) := fun S ρ w' h e => by have := h.part 2 e.1; rw [e.2] at this; exact this
  have q6 : ∀ S ρ w', Parts w1 id (startQ w1.heap.size m) S ρ w' → (S 6 = true ∧ ρ 6 = V 6) → IsRow0 w1.heap.size (m * 3) w' (V 6) := fun S ρ w' h e => by have := h.part 6 e.1; rw [e.2] at this; exact this
  have q7 : ∀ S ρ w', Parts w1 id (startQ w1.heap.size m) S ρ w' → (S 7 = true ∧ ρ 7 = V 7) → IsRow0 w1.heap.size 3 w' (V 7) := fun S ρ w' h e => by have := h.part 7 e.1; rw [e.2] at this; exact this
  have q9 : ∀ S ρ w', Parts w1 id (startQ w1.heap.size m) S ρ w' → (S 9 = true ∧ ρ 9 = V 9) → IsCells zSt 44 w' (V 9) := fun S ρ w' h e => by have := h.part 9 e.1; rw [e.2] at this; exact this
  have Q2 := hid q2
  have Q6 := hid q6
  have Q7 := hid q7
  have Q9 := hid q9
  clear q2 q6 q7 q9
  by_cases hV : (∃ g2 c2 g6 c6 g7 c7, V 2 = .slice (some ⟨g2, 0, none⟩) m c2 ∧ V 6 = .slice (some ⟨g6, 0, none⟩) (m * 3) c6 ∧ V 7 = .slice (some ⟨g7, 0, none⟩) 3 c7)
  · obtain ⟨g2, c2, g6, c6, g7, c7, h2, h6, h7⟩ := hV
    have H2 := hid h2
    have H6 := hid h6
    have H7 := hid h7
    rw [h2, h6, h7]
    clear h2 h6 h7
    (refine FR.frGo_pure _ rfl (fun K hK => ?_); go_simp; (first | refine hK _ ?_ | refine ⟨_, fun W hW => rfl, hK _ ?_⟩ | refine ⟨_, fun W hW => ⟨rfl, rfl⟩, hK _ ?_⟩); clear hK K)
    refine FR.frGo_act (k := 9) _ rfl (fun S ρ w' hI hS hp K hK => ?_) ?_
    · go_simp
      exact hK _ _ (hI.new (startQ_stays _ _) _ ⟨_, rfl, heap_alloc_new _ _⟩ rfl)
    refine FR.frGo_nil _ ?_
    intro S ρ w2 hI hS
    have R2 := Q2.out S ρ w2 hI (hS 2 (by decide) (by kernel_rfl))
    have R6 := Q6.out S ρ w2 hI (hS 6 (by decide) (by kernel_rfl))
    have R7 := Q7.out S ρ w2 hI (hS 7 (by decide) (by kernel_rfl))
    obtain ⟨g9, e9, R9⟩ := Q9.out S ρ w2 hI (hS 9 (by decide) (by kernel_rfl))
    rw [e9]
    refine wpMix_act rfl rfl (fun K hK => ?_)
    have z9 := hS 9 (by decide) (by kernel_rfl)
    have n2 : g2 ≠ g9 := fun e => hI.sep 2 9 g2 (hS 2 (by decide) (by kernel_rfl)).1 z9.1 (by decide) (by rw [(hS 2 (by decide) (by kernel_rfl)).2, H2.out]; rfl) (by rw [z9.2, e9, e]; rfl)
    have n6 : g6 ≠ g9 := fun e => hI.sep 6 9 g6 (hS 6 (by decide) (by kernel_rfl)).1 z9.1 (by decide) (by rw [(hS 6 (by decide) (by kernel_rfl)).2, H6.out]; rfl) (by rw [z9.2, e9, e]; rfl)
    have n7 : g7 ≠ g9 := fun e => hI.sep 7 9 g7 (hS 7 (by decide) (by kernel_rfl)).1 z9.1 (by decide) (by rw [(hS 7 (by decide) (by kernel_rfl)).2, H7.out]; rfl) (by rw [z9.2, e9, e]; rfl)
    have r9 := hI.rng 9 g9 z9.1 (by rw [z9.2, e9]; rfl)
    have B2 := hI.below
    obtain ⟨_, _, _, R2⟩ := R2
    obtain ⟨_, _, _, R6⟩ := R6
    obtain ⟨_, _, _, R7⟩ := R7
    rw [H2.out] at R2
    rw [H6.out] at R6
    rw [H7.out] at R7
    have b2 := (own_blk R2 g2 rfl).1
    have b6 := (own_blk R6 g6 rfl).1
    have b7 := (own_blk R7 g7 rfl).1
    have hs1 : w1.heap.size = w.heap.size + 1 := by rw [hw1]; simp
    clear hS hI z9
    obtain ⟨cs, hcs⟩ : ∃ cs : Array Value, cs = #[.slice (some ⟨g2, 0, none⟩) m c2, .slice (some ⟨g6, 0, none⟩) (m * 3) c6, .slice (some ⟨g7, 0, none⟩) 3 c7, zS] := ⟨_, rfl⟩
    refine wp_store_row 44 _ _ rfl g9 cs rfl (by rw [hcs]; rfl) _ zSt R9 (by rw [hcs]; kernel_rfl) (by rw [hcs]; rfl) (by rw [hcs]; simp [Value.oneCell']) ?_
    refine hK _ _ ?_
    clear hK K
    have k3 := keeps_setRow w2 g9 cs
    have hg3 := setRow_heap w2 g9 _ cs _ _ R9
    have R2' := own_keeps R2 k3 (fun b hb e => by simp [blk] at hb; omega)
    have R6' := own_keeps R6 k3 (fun b hb e => by simp [blk] at hb; omega)
    have R7' := own_keeps R7 k3 (fun b hb e => by simp [blk] at hb; omega)
    have B3 : Below w1.heap.size w1 (w2.setRow g9 cs) := Proofs.Ytbncmeggnhggkaa.Below.keeps B2 k3 B2.size (fun k e => by omega)
    obtain ⟨w3, hw3⟩ : ∃ w3, w3 = w2.setRow g9 cs := ⟨_, rfl⟩
    rw [← hw3] at hg3 R2' R6' R7' B3 ⊢
    have HB3 := hid B3
    have HR := hid (show RdS w3 ⟨some ⟨g2, 0, none⟩, c2, some ⟨g6, 0, none⟩, c6, some ⟨g7, 0, none⟩, c7, none, 0⟩ ⟨ints0 m, ints0 (m * 3), ints0 3, []⟩ from ⟨Rd.own R2', Rd.own R6', Rd.own R7', (OwL.nil w3 0 0).rd⟩)
    have hh : w3.heap[w.heap.size]? = some (.cells zSt 44 (0, 0)) := by
      have e1 : w1.heap[w.heap.size]? = some (.cells zSt 44 (0, 0)) := by rw [hw1]; exact heap_alloc_new w _
      rw [B3.block _ (by rw [hw1]; simp)]
      exact e1
    have hne : g9 ≠ w.heap.size := by have h1 : w1.heap.size = w.heap.size + 1 := by rw [hw1]; simp
                                      omega
    clear R2 R6 R7 R2' R6' R7' k3 B2 R9 Q2 Q6 Q7 Q9 H2 H6 H7 e9 hw3
    rw [hcs] at hg3
    clear hcs
    obtain ⟨w4, hr4, hown4, hgrow4⟩ := run_make_full (P := Try.prog) w3 w1.heap.size 42 23 i0 zS 1 Try.underlying42 HJ.out.1 HJ.out.2.1 HJ.out.2.2.1 .i64 .i64 n (by rw [HJ.out.2.2.2]; omega) (by unfold maxLen; omega) HB3.out.size
    have hs3 := B3.size
    have l3 : g9 < w3.heap.size := (Array.getElem?_eq_some_iff.1 hg3).1
    have l3' : w.heap.size < w3.heap.size := (Array.getElem?_eq_some_iff.1 hh).1
    have hg4 := (hgrow4.block g9 l3 (by simp)).trans hg3
    have hh4 := (hgrow4.block _ l3' (by simp)).trans hh
    have c3 : w4.cell? ⟨g9, 3, none⟩ = some zS := by rw [cell_of_row w4 g9 3 _ _ _ hg4]; rfl
    have f3 := frozen_of_row w4 g9 3 _ _ hg4
    obtain ⟨v4, hv4⟩ : ∃ v4 : Value, v4 = .slice (some ⟨w3.heap.size, 0, none⟩) n n := ⟨_, rfl⟩
    have HG5 := hid (show (w4.setCell ⟨g9, 3, none⟩ (.slice (some ⟨w3.heap.size, 0, none⟩) n n)).heap[g9]? = some (.cells #[.slice (some ⟨g2, 0, none⟩) m c2, .slice (some ⟨g6, 0, none⟩) (m * 3) c6, .slice (some ⟨g7, 0, none⟩) 3 c7, .slice (some ⟨w3.heap.size, 0, none⟩) n n] 44 (0, 0)) from by
      have := heap_setCell_same w4 g9 3 _ _ (.slice (some ⟨w3.heap.size, 0, none⟩) n n) hg4
      simpa using this)
    have HH5 := hid ((heap_setCell_other w4 ⟨g9, 3, none⟩ w.heap.size (.slice (some ⟨w3.heap.size, 0, none⟩) n n) (fun e => hne (by simpa using e.symm))).trans hh4)
    have k5 : Keeps (fun k => k = g9 ∨ k = w.heap.size) w3 ((w4.setCell ⟨g9, 3, none⟩ (.slice (some ⟨w3.heap.size, 0, none⟩) n n)).setRow w.heap.size #[.slice (some ⟨g2, 0, none⟩) m c2, .slice (some ⟨g6, 0, none⟩) (m * 3) c6, .slice (some ⟨g7, 0, none⟩) 3 c7, .slice (some ⟨w3.heap.size, 0, none⟩) n n]) :=
      ((Keeps.of_grown hgrow4 (fun k h => by cases h)).trans ((Keeps.setCell w4 ⟨g9, 3, none⟩ _).mono (fun k e => .inl e))).trans ((keeps_setRow _ _ _).mono (fun k e => .inr e))
    have HK5 := hid k5
    have HO5 := hid (own_keeps (own_keeps hown4 (Keeps.setCell w4 ⟨g9, 3, none⟩ (.slice (some ⟨w3.heap.size, 0, none⟩) n n)) (fun b hb e => by simp [blk] at hb; simp at e; omega)) (keeps_setRow _ w.heap.size #[.slice (some ⟨g2, 0, none⟩) m c2, .slice (some ⟨g6, 0, none⟩) (m * 3) c6, .slice (some ⟨g7, 0, none⟩) 3 c7, .slice (some ⟨w3.heap.size, 0, none⟩) n n]) (fun b hb e => by simp [blk] at hb; omega))
    have HONE := hid (show (#[.slice (some ⟨g2, 0, none⟩) m c2, .slice (some ⟨g6, 0, none⟩) (m * 3) c6, .slice (some ⟨g7, 0, none⟩) 3 c7, .slice (some ⟨w3.heap.size, 0, none⟩) n n] : Array Value).all (·.oneCell') = true from by simp [Value.oneCell'])
    clear hown4 hgrow4 hg4 hh4 hg3 hh k5 hv4 v4
    (with_reducible refine wpMix_nil ?_)
    go_wp2_with (first | (refine wpList_load_row rfl 44 (.tmp 5) rfl g9 rfl 44 _ (0, 0) _ HG5.out Try.underlying44 rfl (by kernel_rfl) ?_) | (refine wpList_store_row rfl 44 (.tmp 4) (.tmp 18) rfl w.heap.size #[.slice (some ⟨g2, 0, none⟩) m c2, .slice (some ⟨g6, 0, none⟩) (m * 3) c6, .slice (some ⟨g7, 0, none⟩) 3 c7, .slice (some ⟨w3.heap.size, 0, none⟩) n n] rfl rfl 44 zSt HH5.out (by kernel_rfl) rfl HONE.out ?_))
    refine bodyPost_ret (results_cell_row rfl _ _ w.heap.size 44 _ (0, 0) _ rfl (setRow_heap _ _ _ _ _ _ HH5.out) Try.underlying44 rfl (by kernel_rfl)) rfl ⟨⟨some ⟨g2, 0, none⟩, c2, some ⟨g6, 0, none⟩, c6, some ⟨g7, 0, none⟩, c7, some ⟨w3.heap.size, 0, none⟩, n⟩, ?_, ?_, ?_⟩
    · simp [Sp.v, start3, HM.out]
    · have e : start3 p n = ⟨ints0 m, ints0 (m * 3), ints0 3, List.replicate n []⟩ := by rw [start3, HM.out]
      rw [e]
      have hk := HK5.out
      refine ⟨⟨HR.out.pc.keeps hk fun b hb => ?_, fun b hb => ?_⟩, ⟨HR.out.regs.keeps hk fun b hb => ?_, fun b hb => ?_⟩, ⟨HR.out.mem.keeps hk fun b hb => ?_, fun b hb => ?_⟩, ?_⟩
      · simp [blk] at hb; omega
      · simp [blk] at hb; omega
      · simp [blk] at hb; omega
      · simp [blk] at hb; omega
      · simp [blk] at hb; omega
      · simp [blk] at hb; omega
      · have e2 : (List.replicate n ([] : List (Int × Int))).map flatB = List.replicate n [] := by simp [flatB]
        dsimp only
        rw [e2]
        refine rows_empty _ _ _ n n ?_
        have := own_base (base := w.heap.size) HO5.out (by omega)
        rw [Nat.mul_one] at this
        simpa [toList_madeCells_one, Value.cells] using this
    · have b1 : Below w.heap.size w w1 := by rw [hw1]; exact (Below.refl _ _).alloc (Nat.le_refl _) _
      refine Proofs.Ytbncmeggnhggkaa.Below.keeps (b1.trans (HB3.out.mono (by omega))) HK5.out (by omega) (fun k hk => ?_)
      rcases hk with e | e <;> omega
  · have bad : ∀ S ρ w', Parts w1 id (startQ w1.heap.size m) S ρ w' → (S 2 = true ∧ ρ 2 = V 2) → (S 6 = true ∧ ρ 6 = V 6) → (S 7 = true ∧ ρ 7 = V 7) → False := fun S ρ w' h e2 e6 e7 => by
      obtain ⟨a2, b2, r2, _⟩ := Q2.out S ρ w' h e2
      obtain ⟨a6, b6, r6, _⟩ := Q6.out S ρ w' h e6
      obtain ⟨a7, b7, r7, _⟩ := Q7.out S ρ w' h e7
      exact hV ⟨a2, b2, a6, b6, a7, b7, r2, r6, r7⟩
    refine frGo_bad rfl (fun S ρ w h hp => bad S ρ w h (hp 2 (by kernel_rfl)) (hp 6 (by kernel_rfl)) (hp 7 (by kernel_rfl))) ?_
    refine FR.frGo_act (k := 9) _ rfl (fun S ρ w' hI hS hp K hK => ?_) ?_
    · go_simp
      exact hK _ _ (hI.new (startQ_stays _ _) _ ⟨_, rfl, heap_alloc_new _ _⟩ rfl)
    exact FR.frGo_nil _ fun S ρ w2 hI hS => (bad S ρ w2 hI (hS 2 (by decide) (by kernel_rfl)) (hS 6 (by decide) (by kernel_rfl)) (hS 7 (by decide) (by kernel_rfl))).elim
end Go.Proofs.Ytbncmeggnhggkaa
