/-
  PROVED HERE: what spec.l3Start does. what spec.l3Copy does. what spec.l3Reg, l3Value do. what spec.l3Do does. what spec.l3Do does. a region whose acts come one behind the other and whose loads come in any order: what holds when so many acts have been carried out. what spec.l3Done, l3Outcome do. what spec.RunSchedule does. CONDITIONS: as each theorem states.
-/
import Derived.Test.YthlmfjoiicnomaaFrp
import Derived.Test.YthlmfjoiicnomaaVav
import Derived.Test.YthlmfjoiicnomaaMixJ
import Derived.Test.YthlmfjoiicnomaaOpn
import Derived.Test.YthlmfjoiicnomaaBf
namespace Go.Proofs.Ythlmfjoiicnomaa
open Go.RowKit
set_option linter.unusedVariables false
set_option linter.unusedSimpArgs false

section
variable {P : Program} {ops : Array Oper} {I : (Nat → Bool) → (Nat → Value) → World → Prop}
theorem frGo_bad {V : Nat → Value} {fin : Act → Prop} {k : Nat} {o : Oper} {l : List Oper} {a : Act} (ha : FR.actB o = false)
    (hbad : ∀ S ρ w, I S ρ w → (∀ j, FR.predB ops j k = true → S j = true ∧ ρ j = V j) → False) (h : FR.frGo P ops I V fin (k + 1) l (a.put o.dst undef)) : FR.frGo P ops I V fin k (o :: l) a := by
  unfold FR.frGo
  rw [if_neg (by simp [ha])]
  exact ⟨undef, fun S ρ w h1 h2 => (hbad S ρ w h1 h2).elim, h⟩
theorem frGo_badAct {V : Nat → Value} {fin : Act → Prop} {k : Nat} {o : Oper} {l : List Oper} {a : Act} (ha : FR.actB o = true)
    (hbad : ∀ S ρ w, I S ρ w → (∀ j, FR.predB ops j k = true → S j = true ∧ ρ j = V j) → False) (h : FR.frGo P ops I V fin (k + 1) l (a.put o.dst (V k))) : FR.frGo P ops I V fin k (o :: l) a :=
  FR.frGo_act I ha (fun S ρ w h1 _ h2 => (hbad S ρ w h1 h2).elim) h
end
/-- 'make([]int, n)'. -/
theorem oper_make {P : Program} {o : Oper} {a : Act} {w : World} {K : Act → World → Prop} {Q : Exit → Act → World → Prop} (t : TypeId) (l c : Operand) (ho : o.op = .makeSlice t l c)
    (base : Nat) (e : TypeId) (z : Value) (size bytes : Nat) (ht : P.underlying t = some (.slice e)) (hi : (P.info? e).map (fun i => (i.zero, i.size, i.bytes)) = some (some z, size, bytes)) (hby : bytes ≤ 1000)
    (L C : Int) (n : Nat) (hl : a.eval l = .int .i64 L) (hc : a.eval c = .int .i64 C) (hL : L = (n : Int)) (hC : C = (n : Int)) (hn : n ≤ 100000000) (hbase : base ≤ w.heap.size)
    (h : ∀ w', w'.ownsRow base e size (.slice (some ⟨w.heap.size, 0, none⟩) n n) n (madeCells z.cells (n * size)).toList → Below w.heap.size w w' → w.heap.size < w'.heap.size → K (a.put o.dst (.slice (some ⟨w.heap.size, 0, none⟩) n n)) w') : o.wp P a w K Q := by
  obtain ⟨i, h2, hz, h3, h4⟩ := info_parts hi
  have hb : i.bytes * n ≤ 281474976710656 := by
    rw [h4]
    have : bytes * n ≤ 1000 * 100000000 := Nat.mul_le_mul hby hn
    omega
  obtain ⟨w', hr, q1, q2⟩ := run_make_full (P := P) w base t e i z size ht h2 hz h3 .i64 .i64 n hb (by unfold maxLen; omega) hbase
  subst hL
  subst hC
  unfold Oper.wp execOp
  simp only [ho, Sem.run_bind, Sem.run_pure, Result.andThen_ok, hl, hc, hr]
  exact h w' q1 ⟨q2.os, q2.tape, q2.output, q2.size, fun k hk => q2.block k hk (by simp)⟩ (own_blk q1 _ rfl).2

abbrev ints0 (n : Nat) : List Int := List.replicate n 0
theorem made_ints (n : Nat) : (madeCells (Value.int .i64 0).cells (n * 1)).toList = ints (ints0 n) := by
  rw [Nat.mul_one]
  simp [toList_madeCells_one, Value.cells, ints, ints0]
theorem own_ints0 {w : World} {base n cap : Nat} {a : Option Addr} (h : w.ownsRow base 3 1 (.slice a n cap) n (madeCells (Value.int .i64 0).cells (n * 1)).toList) : w.ownsRow base 3 1 (.slice a n cap) n (ints (ints0 n)) := by
  rw [← made_ints]; exact h
theorem keeps_setRow (w : World) (g : Nat) (cs : Array Value) : Keeps (· = g) w (w.setRow g cs) :=
  ⟨rfl, rfl, rfl, by simp [World.setRow], fun k _ h => setRow_other w g k cs h⟩
/-- A row of zeros. -/
def IsRow0 (B : Nat) (n : Nat) (w : World) (v : Value) : Prop := ∃ g c, v = .slice (some ⟨g, 0, none⟩) n c ∧ w.ownsRow B 3 1 v n (ints (ints0 n))
theorem IsRow0.below {B n : Nat} {w w' : World} {v : Value} (h : IsRow0 B n w v) (hb : Below w.heap.size w w') : IsRow0 B n w' v := by
  obtain ⟨g, c, h1, h2⟩ := h
  exact ⟨g, c, h1, own_below h2 hb⟩
def IsCells (cs : Array Value) (t : TypeId) (w : World) (v : Value) : Prop := ∃ g, v = .pointer (some ⟨g, 0, none⟩) ∧ w.heap[g]? = some (.cells cs t (0, 0))
theorem IsCells.below {cs : Array Value} {t : TypeId} {w w' : World} {v : Value} (h : IsCells cs t w v) (hb : Below w.heap.size w w') : IsCells cs t w' v := by
  obtain ⟨g, h1, h2⟩ := h
  exact ⟨g, h1, by rw [hb.block g (Array.getElem?_eq_some_iff.1 h2).1]; exact h2⟩
abbrev zS : Value := .slice none 0 0
abbrev zSt : Array Value := #[zS, zS, zS, zS]
theorem rows_empty (w : World) (B : Nat) (a : Option Addr) (n c : Nat) (h : w.ownsRow B 24 1 (.slice a n c) n (List.replicate n zS)) : ∃ rs : List (Option Addr × Nat), rs.length = (List.replicate n ([] : List Int)).length ∧ Rd w a (rowsL rs (List.replicate n [])) ∧ (∀ b, blk a = some b → B ≤ b) ∧ ∀ (k : Nat) r xs, rs[k]? = some r → (List.replicate n ([] : List Int))[k]? = some xs → (Rd w r.1 (ints xs) ∧ xs.length ≤ r.2) ∧ ∀ b, blk r.1 = some b → B ≤ b := by
  refine ⟨List.replicate n (none, 0), by simp, ?_, fun b hb => (own_blk h b hb).1, fun k r xs h1 h2 => ?_⟩
  · have e : rowsL (List.replicate n ((none : Option Addr), 0)) (List.replicate n []) = List.replicate n zS := by
      unfold rowsL
      rw [List.zipWith_replicate]
      simp
    rw [e]
    exact Rd.own h
  · rw [List.getElem?_replicate] at h1 h2
    split at h1
    · cases h1
      rw [if_pos (by assumption)] at h2
      cases h2
      exact ⟨⟨.inl rfl, Nat.le_refl _⟩, fun b hb => by simp [blk] at hb⟩
    · cases h1
def startQ (B n : Nat) (k : Nat) (w : World) (v : Value) : Prop :=
  if k = 2 then IsRow0 B n w v else if k = 6 then IsRow0 B (n * 3) w v else if k = 7 then IsRow0 B 3 w v else if k = 9 then IsCells zSt 148 w v else True
theorem startQ_stays (B n : Nat) : Stays (startQ B n) := by
  intro k w w' v h hb
  unfold startQ at h ⊢
  split
  · rw [if_pos (by assumption)] at h; exact h.below hb
  · rw [if_neg (by assumption)] at h
    split
    · rw [if_pos (by assumption)] at h; exact h.below hb
    · rw [if_neg (by assumption)] at h
      split
      · rw [if_pos (by assumption)] at h; exact h.below hb
      · rw [if_neg (by assumption)] at h
        split
        · rw [if_pos (by assumption)] at h; exact h.below hb
        · trivial

set_option maxRecDepth 100000 in
set_option maxHeartbeats 1600000 in
theorem l3Start_c (w : World) (a : Option Addr) (cap : Nat) (p : Prg) (n : Nat) (hl : p.length ≤ 1000) (hn : n ≤ 1000) :
    Calls Try.prog 95 #[.slice a p.length cap, .int .i64 n] w fun e w' => ∃ q : Sp, e = .returned (q.v (start3 p n)) ∧ Fresh w' w.heap.size q (start3 p n) ∧ Below w.heap.size w w' := by
  obtain ⟨m, hm⟩ : ∃ m, m = p.length := ⟨_, rfl⟩
  rw [← hm] at hl ⊢
  have HM := hid hm
  clear hm
  have HI := hid Try.info_int
  obtain ⟨i0, j1, j2, j3, j4⟩ := info_parts Try.info_introw
  have HJ := hid (And.intro j1 (And.intro j2 (And.intro j3 j4)))
  clear j1 j2 j3 j4
  go_enter Try.func95, Try.ntmps95
  go_wp2_with fail
  obtain ⟨w1, hw1⟩ : ∃ w1, w1 = w.alloc (.cells zSt 148) := ⟨_, rfl⟩
  rw [← hw1]
  refine FR.wp_region_free 10 (Parts w1 id (startQ w1.heap.size m)) (by kernel_rfl) (by kernel_rfl) (by kernel_rfl) (fun _ => undef) (Parts.start _ _ _ _) fun V => ?_
  (refine FR.frGo_pure _ rfl (fun K hK => ?_); go_simp; (first | refine hK _ ?_ | refine ⟨_, fun W hW => rfl, hK _ ?_⟩ | refine ⟨_, fun W hW => ⟨rfl, rfl⟩, hK _ ?_⟩); clear hK K)
  (refine FR.frGo_pure _ rfl (fun K hK => ?_); go_simp; (first | refine hK _ ?_ | refine ⟨_, fun W hW => rfl, hK _ ?_⟩ | refine ⟨_, fun W hW => ⟨rfl, rfl⟩, hK _ ?_⟩); clear hK K)
  refine FR.frGo_act (k := 2) _ rfl (fun S ρ w' hI hS hp K hK => ?_) ?_
  · refine oper_make 24 _ _ rfl w1.heap.size 3 (.int .i64 0) 1 8 Try.underlying24 HI.out (by omega) _ _ m rfl rfl rfl rfl (by omega) hI.below.size ?_
    intro w2 hown hb hlt
    exact hK _ _ (hI.step (startQ_stays _ _) hb ⟨_, _, rfl, own_ints0 hown⟩ fun b e => .inl (by simp [vblk, blk] at e; omega))
  (refine FR.frGo_pure _ rfl (fun K hK => ?_); go_simp; (first | refine hK _ ?_ | refine ⟨_, fun W hW => rfl, hK _ ?_⟩ | refine ⟨_, fun W hW => ⟨rfl, rfl⟩, hK _ ?_⟩); clear hK K)
  (refine FR.frGo_pure _ rfl (fun K hK => ?_); go_simp; (first | refine hK _ ?_ | refine ⟨_, fun W hW => rfl, hK _ ?_⟩ | refine ⟨_, fun W hW => ⟨rfl, rfl⟩, hK _ ?_⟩); clear hK K)
  (refine FR.frGo_pure _ rfl (fun K hK => ?_); go_simp; (first | refine hK _ ?_ | refine ⟨_, fun W hW => rfl, hK _ ?_⟩ | refine ⟨_, fun W hW => ⟨rfl, rfl⟩, hK _ ?_⟩); clear hK K)
  refine FR.frGo_act (k := 6) _ rfl (fun S ρ w' hI hS hp K hK => ?_) ?_
  · refine oper_make 24 _ _ rfl w1.heap.size 3 (.int .i64 0) 1 8 Try.underlying24 HI.out (by omega) _ _ (m * 3) rfl rfl ((IntWalk.i64_in _ (by omega)).trans (by omega)) ((IntWalk.i64_in _ (by omega)).trans (by omega)) (by omega) hI.below.size ?_
    intro w2 hown hb hlt
    exact hK _ _ (hI.step (startQ_stays _ _) hb ⟨_, _, rfl, own_ints0 hown⟩ fun b e => .inl (by simp [vblk, blk] at e; omega))
  refine FR.frGo_act (k := 7) _ rfl (fun S ρ w' hI hS hp K hK => ?_) ?_
  · refine oper_make 24 _ _ rfl w1.heap.size 3 (.int .i64 0) 1 8 Try.underlying24 HI.out (by omega) _ _ 3 rfl rfl (by omega) (by omega) (by omega) hI.below.size ?_
    intro w2 hown hb hlt
    exact hK _ _ (hI.step (startQ_stays _ _) hb ⟨_, _, rfl, own_ints0 hown⟩ fun b e => .inl (by simp [vblk, blk] at e; omega))
  have q2 : ∀ S ρ w', Parts w1 id (startQ w1.heap.size m) S ρ w' → (S 2 = true ∧ ρ 2 = V 2) → IsRow0 w1.heap.size m w' (V 2) := fun S ρ w' h e => by have := h.part 2 e.1; rw [e.2] at this; exact this
  have q6 : ∀ S ρ w', Parts w1 id (startQ w1.heap.size m) S ρ w' → (S 6 = true ∧ ρ 6 = V 6) → IsRow0 w1.heap.size (m * 3) w' (V 6) := fun S ρ w' h e => by have := h.part 6 e.1; rw [e.2] at this; exact this
  have q7 : ∀ S ρ w', Parts w1 id (startQ w1.heap.size m) S ρ w' → (S 7 = true ∧ ρ 7 = V 7) → IsRow0 w1.heap.size 3 w' (V 7) := fun S ρ w' h e => by have := h.part 7 e.1; rw [e.2] at this; exact this
  have q9 : ∀ S ρ w', Parts w1 id (startQ w1.heap.size m) S ρ w' → (S 9 = true ∧ ρ 9 = V 9) → IsCells zSt 148 w' (V 9) := fun S ρ w' h e => by have := h.part 9 e.1; rw [e.2] at this; exact this
  have Q2 := hid q2
  have Q6 := hid q6
  have Q7 := hid q7
  have Q9 := hid q9
  clear q2 q6 q7 q9
  by_cases hV : (∃ g2 c2 g6 c6 g7 c7, V 2 = .slice (some ⟨g2, 0, none⟩) m c2 ∧ V 6 = .slice (some ⟨g6, 0, none⟩) (m * 3) c6 ∧ V 7 = .slice (some ⟨g7, 0, none⟩) 3 c7)
  · obtain ⟨g2, c2, g6, c6, g7, c7, h2, h6, h7⟩ := hV
    have H2 := hid h2
    have H6 := hid h6
    have H7 := hid h7
    rw [h2, h6, h7]
    clear h2 h6 h7
    (refine FR.frGo_pure _ rfl (fun K hK => ?_); go_simp; (first | refine hK _ ?_ | refine ⟨_, fun W hW => rfl, hK _ ?_⟩ | refine ⟨_, fun W hW => ⟨rfl, rfl⟩, hK _ ?_⟩); clear hK K)
    refine FR.frGo_act (k := 9) _ rfl (fun S ρ w' hI hS hp K hK => ?_) ?_
    · go_simp
      exact hK _ _ (hI.new (startQ_stays _ _) _ ⟨_, rfl, heap_alloc_new _ _⟩ rfl)
    refine FR.frGo_nil _ ?_
    intro S ρ w2 hI hS
    have R2 := Q2.out S ρ w2 hI (hS 2 (by decide) (by kernel_rfl))
    have R6 := Q6.out S ρ w2 hI (hS 6 (by decide) (by kernel_rfl))
    have R7 := Q7.out S ρ w2 hI (hS 7 (by decide) (by kernel_rfl))
    obtain ⟨g9, e9, R9⟩ := Q9.out S ρ w2 hI (hS 9 (by decide) (by kernel_rfl))
    rw [e9]
    refine wpMix_act rfl rfl (fun K hK => ?_)
    have z9 := hS 9 (by decide) (by kernel_rfl)
    have n2 : g2 ≠ g9 := fun e => hI.sep 2 9 g2 (hS 2 (by decide) (by kernel_rfl)).1 z9.1 (by decide) (by rw [(hS 2 (by decide) (by kernel_rfl)).2, H2.out]; rfl) (by rw [z9.2, e9, e]; rfl)
    have n6 : g6 ≠ g9 := fun e => hI.sep 6 9 g6 (hS 6 (by decide) (by kernel_rfl)).1 z9.1 (by decide) (by rw [(hS 6 (by decide) (by kernel_rfl)).2, H6.out]; rfl) (by rw [z9.2, e9, e]; rfl)
    have n7 : g7 ≠ g9 := fun e => hI.sep 7 9 g7 (hS 7 (by decide) (by kernel_rfl)).1 z9.1 (by decide) (by rw [(hS 7 (by decide) (by kernel_rfl)).2, H7.out]; rfl) (by rw [z9.2, e9, e]; rfl)
    have r9 := hI.rng 9 g9 z9.1 (by rw [z9.2, e9]; rfl)
    have B2 := hI.below
    obtain ⟨_, _, _, R2⟩ := R2
    obtain ⟨_, _, _, R6⟩ := R6
    obtain ⟨_, _, _, R7⟩ := R7
    rw [H2.out] at R2
    rw [H6.out] at R6
    rw [H7.out] at R7
    have b2 := (own_blk R2 g2 rfl).1
    have b6 := (own_blk R6 g6 rfl).1
    have b7 := (own_blk R7 g7 rfl).1
    have hs1 : w1.heap.size = w.heap.size + 1 := by rw [hw1]; simp
    clear hS hI z9
    obtain ⟨cs, hcs⟩ : ∃ cs : Array Value, cs = #[.slice (some ⟨g2, 0, none⟩) m c2, .slice (some ⟨g6, 0, none⟩) (m * 3) c6, .slice (some ⟨g7, 0, none⟩) 3 c7, zS] := ⟨_, rfl⟩
    refine wp_store_row 148 _ _ rfl g9 cs rfl (by rw [hcs]; rfl) _ zSt R9 (by rw [hcs]; kernel_rfl) (by rw [hcs]; rfl) (by rw [hcs]; simp [Value.oneCell']) ?_
    refine hK _ _ ?_
    clear hK K
    have k3 := keeps_setRow w2 g9 cs
    have hg3 := setRow_heap w2 g9 _ cs _ _ R9
    have R2' := own_keeps R2 k3 (fun b hb e => by simp [blk] at hb; omega)
    have R6' := own_keeps R6 k3 (fun b hb e => by simp [blk] at hb; omega)
    have R7' := own_keeps R7 k3 (fun b hb e => by simp [blk] at hb; omega)
    have B3 : Below w1.heap.size w1 (w2.setRow g9 cs) := Proofs.Ythlmfjoiicnomaa.Below.keeps B2 k3 B2.size (fun k e => by omega)
    obtain ⟨w3, hw3⟩ : ∃ w3, w3 = w2.setRow g9 cs := ⟨_, rfl⟩
    rw [← hw3] at hg3 R2' R6' R7' B3 ⊢
    have HB3 := hid B3
    have HR := hid (show RdS w3 ⟨some ⟨g2, 0, none⟩, c2, some ⟨g6, 0, none⟩, c6, some ⟨g7, 0, none⟩, c7, none, 0⟩ ⟨ints0 m, ints0 (m * 3), ints0 3, []⟩ from ⟨Rd.own R2', Rd.own R6', Rd.own R7', (OwL.nil w3 0 0).rd⟩)
    have hh : w3.heap[w.heap.size]? = some (.cells zSt 148 (0, 0)) := by
      have e1 : w1.heap[w.heap.size]? = some (.cells zSt 148 (0, 0)) := by rw [hw1]; exact heap_alloc_new w _
      rw [B3.block _ (by rw [hw1]; simp)]
      exact e1
    have hne : g9 ≠ w.heap.size := by have h1 : w1.heap.size = w.heap.size + 1 := by rw [hw1]; simp
                                      omega
    clear R2 R6 R7 R2' R6' R7' k3 B2 R9 Q2 Q6 Q7 Q9 H2 H6 H7 e9 hw3
    rw [hcs] at hg3
    clear hcs
    obtain ⟨w4, hr4, hown4, hgrow4⟩ := run_make_full (P := Try.prog) w3 w1.heap.size 56 24 i0 zS 1 Try.underlying56 HJ.out.1 HJ.out.2.1 HJ.out.2.2.1 .i64 .i64 n (by rw [HJ.out.2.2.2]; omega) (by unfold maxLen; omega) HB3.out.size
    have hs3 := B3.size
    have l3 : g9 < w3.heap.size := (Array.getElem?_eq_some_iff.1 hg3).1
    have l3' : w.heap.size < w3.heap.size := (Array.getElem?_eq_some_iff.1 hh).1
    have hg4 := (hgrow4.block g9 l3 (by simp)).trans hg3
    have hh4 := (hgrow4.block _ l3' (by simp)).trans hh
    have c3 : w4.cell? ⟨g9, 3, none⟩ = some zS := by rw [cell_of_row w4 g9 3 _ _ _ hg4]; rfl
    have f3 := frozen_of_row w4 g9 3 _ _ hg4
    obtain ⟨v4, hv4⟩ : ∃ v4 : Value, v4 = .slice (some ⟨w3.heap.size, 0, none⟩) n n := ⟨_, rfl⟩
    have HG5 := hid (show (w4.setCell ⟨g9, 3, none⟩ (.slice (some ⟨w3.heap.size, 0, none⟩) n n)).heap[g9]? = some (.cells #[.slice (some ⟨g2, 0, none⟩) m c2, .slice (some ⟨g6, 0, none⟩) (m * 3) c6, .slice (some ⟨g7, 0, none⟩) 3 c7, .slice (some ⟨w3.heap.size, 0, none⟩) n n] 148 (0, 0)) from by
      have := heap_setCell_same w4 g9 3 _ _ (.slice (some ⟨w3.heap.size, 0, none⟩) n n) hg4
      simpa using this)
    have HH5 := hid ((heap_setCell_other w4 ⟨g9, 3, none⟩ w.heap.size (.slice (some ⟨w3.heap.size, 0, none⟩) n n) (fun e => hne (by simpa using e.symm))).trans hh4)
    have k5 : Keeps (fun k => k = g9 ∨ k = w.heap.size) w3 ((w4.setCell ⟨g9, 3, none⟩ (.slice (some ⟨w3.heap.size, 0, none⟩) n n)).setRow w.heap.size #[.slice (some ⟨g2, 0, none⟩) m c2, .slice (some ⟨g6, 0, none⟩) (m * 3) c6, .slice (some ⟨g7, 0, none⟩) 3 c7, .slice (some ⟨w3.heap.size, 0, none⟩) n n]) :=
      ((Keeps.of_grown hgrow4 (fun k h => by cases h)).trans ((Keeps.setCell w4 ⟨g9, 3, none⟩ _).mono (fun k e => .inl e))).trans ((keeps_setRow _ _ _).mono (fun k e => .inr e))
    have HK5 := hid k5
    have HO5 := hid (own_keeps (own_keeps hown4 (Keeps.setCell w4 ⟨g9, 3, none⟩ (.slice (some ⟨w3.heap.size, 0, none⟩) n n)) (fun b hb e => by simp [blk] at hb; simp at e; omega)) (keeps_setRow _ w.heap.size #[.slice (some ⟨g2, 0, none⟩) m c2, .slice (some ⟨g6, 0, none⟩) (m * 3) c6, .slice (some ⟨g7, 0, none⟩) 3 c7, .slice (some ⟨w3.heap.size, 0, none⟩) n n]) (fun b hb e => by simp [blk] at hb; omega))
    have HONE := hid (show (#[.slice (some ⟨g2, 0, none⟩) m c2, .slice (some ⟨g6, 0, none⟩) (m * 3) c6, .slice (some ⟨g7, 0, none⟩) 3 c7, .slice (some ⟨w3.heap.size, 0, none⟩) n n] : Array Value).all (·.oneCell') = true from by simp [Value.oneCell'])
    clear hown4 hgrow4 hg4 hh4 hg3 hh k5 hv4 v4
    (with_reducible refine wpMix_nil ?_)
    go_wp2_with (first | (refine wpList_load_row rfl 148 (.tmp 5) rfl g9 rfl 148 _ (0, 0) _ HG5.out Try.underlying148 rfl (by kernel_rfl) ?_) | (refine wpList_store_row rfl 148 (.tmp 4) (.tmp 18) rfl w.heap.size #[.slice (some ⟨g2, 0, none⟩) m c2, .slice (some ⟨g6, 0, none⟩) (m * 3) c6, .slice (some ⟨g7, 0, none⟩) 3 c7, .slice (some ⟨w3.heap.size, 0, none⟩) n n] rfl rfl 148 zSt HH5.out (by kernel_rfl) rfl HONE.out ?_))
    refine bodyPost_ret (results_cell_row rfl _ _ w.heap.size 148 _ (0, 0) _ rfl (setRow_heap _ _ _ _ _ _ HH5.out) Try.underlying148 rfl (by kernel_rfl)) rfl ⟨⟨some ⟨g2, 0, none⟩, c2, some ⟨g6, 0, none⟩, c6, some ⟨g7, 0, none⟩, c7, some ⟨w3.heap.size, 0, none⟩, n⟩, ?_, ?_, ?_⟩
    · simp [Sp.v, start3, HM.out]
    · have e : start3 p n = ⟨ints0 m, ints0 (m * 3), ints0 3, List.replicate n []⟩ := by rw [start3, HM.out]
      rw [e]
      have hk := HK5.out
      refine ⟨⟨HR.out.pc.keeps hk fun b hb => ?_, fun b hb => ?_⟩, ⟨HR.out.regs.keeps hk fun b hb => ?_, fun b hb => ?_⟩, ⟨HR.out.mem.keeps hk fun b hb => ?_, fun b hb => ?_⟩, ?_⟩
      · simp [blk] at hb; omega
      · simp [blk] at hb; omega
      · simp [blk] at hb; omega
      · simp [blk] at hb; omega
      · simp [blk] at hb; omega
      · simp [blk] at hb; omega
      · have e2 : (List.replicate n ([] : List (Int × Int))).map flatB = List.replicate n [] := by simp [flatB]
        dsimp only
        rw [e2]
        refine rows_empty _ _ _ n n ?_
        have := own_base (base := w.heap.size) HO5.out (by omega)
        rw [Nat.mul_one] at this
        simpa [toList_madeCells_one, Value.cells] using this
    · have b1 : Below w.heap.size w w1 := by rw [hw1]; exact (Below.refl _ _).alloc (Nat.le_refl _) _
      refine Proofs.Ythlmfjoiicnomaa.Below.keeps (b1.trans (HB3.out.mono (by omega))) HK5.out (by omega) (fun k hk => ?_)
      rcases hk with e | e <;> omega
  · have bad : ∀ S ρ w', Parts w1 id (startQ w1.heap.size m) S ρ w' → (S 2 = true ∧ ρ 2 = V 2) → (S 6 = true ∧ ρ 6 = V 6) → (S 7 = true ∧ ρ 7 = V 7) → False := fun S ρ w' h e2 e6 e7 => by
      obtain ⟨a2, b2, r2, _⟩ := Q2.out S ρ w' h e2
      obtain ⟨a6, b6, r6, _⟩ := Q6.out S ρ w' h e6
      obtain ⟨a7, b7, r7, _⟩ := Q7.out S ρ w' h e7
      exact hV ⟨a2, b2, a6, b6, a7, b7, r2, r6, r7⟩
    refine frGo_bad rfl (fun S ρ w h hp => bad S ρ w h (hp 2 (by kernel_rfl)) (hp 6 (by kernel_rfl)) (hp 7 (by kernel_rfl))) ?_
    refine FR.frGo_act (k := 9) _ rfl (fun S ρ w' hI hS hp K hK => ?_) ?_
    · go_simp
      exact hK _ _ (hI.new (startQ_stays _ _) _ ⟨_, rfl, heap_alloc_new _ _⟩ rfl)
    exact FR.frGo_nil _ fun S ρ w2 hI hS => (bad S ρ w2 hI (hS 2 (by decide) (by kernel_rfl)) (hS 6 (by decide) (by kernel_rfl)) (hS 7 (by decide) (by kernel_rfl))).elim
end Go.Proofs.Ythlmfjoiicnomaa
namespace Go.Proofs.Ythlmfjoiicnomaa
open Go.RowKit
set_option linter.unusedVariables false
set_option linter.unusedSimpArgs false

theorem oper_pushI {o : Oper} {a : Act} {w : World} {K : Act → World → Prop} {Q : Exit → Act → World → Prop} (s x : Operand)
    (ho : o.op = .call { callee := .builtin .append, args := #[s, x], argTypes := #[56, 56] })
    (base top : Nat) (b : Option Addr) (n cap : Nat) (p : List (List Int)) (hpn : p.length = n) (hs : a.eval s = .slice b n cap) (hP : OwL w base top b cap p) (r : Option Addr) (c m : Nat) (ys : List Int) (hm : ys.length = m) (hr : w.ownsRow base 3 1 (.slice r m c) m (ints ys)) (hrt : ∀ k, blk r = some k → top ≤ k)
    (ad : Addr) (hx : a.eval x = .slice (some ad) 1 1) (hu : w.cell? ad = some (.slice r m c)) (hn : n + 1 ≤ 3000000) (hbase : base ≤ w.heap.size)
    (h : ∀ a' cap' w', OwL w' base w'.heap.size a' cap' (p ++ [ys]) → w.grownBy w' (blk b) → K (a.put o.dst (.slice a' (n + 1) cap')) w') : o.wp Try.prog a w K Q := by
  subst hpn
  subst hm
  obtain ⟨a', cap', w', hrun, q1, q2⟩ := run_push o.type hP (r, c) ys hr hrt ad hu hn hbase
  unfold Oper.wp execOp
  simp only [ho, resolve, invoke, builtin, Sem.run_bind, Sem.run_pure, Result.andThen_ok, List.map_toArray, List.map_cons, List.map_nil, hs, hx, hrun]
  exact h a' cap' w' q1 q2
/-- A row of the call's own with these numbers. -/
def IsOwn (B : Nat) (xs : List Int) (w : World) (v : Value) : Prop := ∃ a c, v = .slice a xs.length c ∧ w.ownsRow B 3 1 v xs.length (ints xs)
theorem IsOwn.below {B : Nat} {xs : List Int} {w w' : World} {v : Value} (h : IsOwn B xs w v) (hb : Below w.heap.size w w') : IsOwn B xs w' v := by
  obtain ⟨a, c, h1, h2⟩ := h
  exact ⟨a, c, h1, own_below h2 hb⟩
def copyQ (w1 : World) (s : St) (k : Nat) (w : World) (v : Value) : Prop :=
  if k = 0 then IsLit w1 w 3 v else if k = 4 then IsLit w1 w 3 v else if k = 8 then IsLit w1 w 3 v else
  if k = 3 then IsOwn w1.heap.size s.pc w v else if k = 7 then IsOwn w1.heap.size s.regs w v else if k = 11 then IsOwn w1.heap.size s.mem w v else if k = 13 then IsCells zSt 148 w v else True
theorem copyQ_stays (w1 : World) (s : St) : Stays (copyQ w1 s) := by
  intro k w w' v h hb
  unfold copyQ at h ⊢
  repeat' split
  all_goals first | trivial | skip
  all_goals simp_all only [if_true, if_false]
  all_goals first | exact IsLit.below h hb | exact IsOwn.below h hb | exact IsCells.below h hb
def copyG (k : Nat) : Nat := if k ≤ 3 then 0 else if k ≤ 7 then 1 else if k ≤ 11 then 2 else 3

/-- A block of one cell, which holds a row of the call's own. -/
def IsOne (B : Nat) (xs : List Int) (w : World) (v : Value) : Prop := ∃ H u, v = .slice (some ⟨H, 0, none⟩) 1 1 ∧ w.cell? ⟨H, 0, none⟩ = some u ∧ IsOwn B xs w u
theorem IsOne.below {B : Nat} {xs : List Int} {w w' : World} {v : Value} (h : IsOne B xs w v) (hb : Below w.heap.size w w') : IsOne B xs w' v := by
  obtain ⟨H, u, h1, h2, h3⟩ := h
  exact ⟨H, u, h1, (hb.cell (p := ⟨H, 0, none⟩) (World.block_lt_of_cell? w ⟨H, 0, none⟩ h2)).trans h2, h3.below hb⟩
theorem IsOne.new {B : Nat} {xs : List Int} {w : World} {u : Value} (h : IsOwn B xs w u) (t : TypeId) : IsOne B xs (w.alloc (.cells #[u] t)) (.slice (some ⟨w.heap.size, 0, none⟩) 1 1) := ⟨_, u, rfl, by simp, h.below ((Below.refl _ _).alloc (Nat.le_refl _) _)⟩
def cp5Q (wr : World) (ys : List Int) (k : Nat) (w : World) (v : Value) : Prop :=
  if k = 2 then IsLit wr w 3 v else if k = 8 then IsOwn wr.heap.size ys w v else if k = 9 then IsOne wr.heap.size ys w v else True
theorem cp5Q_stays (wr : World) (ys : List Int) : Stays (cp5Q wr ys) := by
  intro k w w' v h hb
  unfold cp5Q at h ⊢
  repeat' split
  all_goals first | trivial | skip
  all_goals simp_all only [if_true, if_false]
  all_goals first | exact IsLit.below h hb | exact IsOwn.below h hb | exact IsOne.below h hb
def cp5G (k : Nat) : Nat := if k = 9 then 1 else 0
/-- Region 5 of l3Copy. -/
structure Cp5 (wr : World) (top : Nat) (b : Option Addr) (c : Nat) (ls : List (List Int)) (ys : List Int) (S : Nat → Bool) (ρ : Nat → Value) (w' : World) : Prop where
  ord : (S 10 = true → S 9 = true) ∧ (S 9 = true → S 8 = true) ∧ (S 8 = true → S 2 = true)
  keeps : Keeps (fun x => blk b = some x) wr w'
  p : S 10 = false → Parts wr cp5G (cp5Q wr ys) S ρ w' ∧ OwL w' top wr.heap.size b c ls
  f : S 10 = true → ∃ a' c', ρ 10 = .slice a' (ls.length + 1) c' ∧ OwL w' top w'.heap.size a' c' (ls ++ [ys])
section
variable {wr w' w'' : World} {top : Nat} {b : Option Addr} {c : Nat} {ls : List (List Int)} {ys : List Int} {S : Nat → Bool} {ρ : Nat → Value}
theorem Cp5.start (h : OwL wr top wr.heap.size b c ls) (ρ : Nat → Value) : Cp5 wr top b c ls ys (fun _ => false) ρ wr.drew :=
  ⟨⟨(fun h => by cases h), (fun h => by cases h), (fun h => by cases h)⟩, ⟨rfl, rfl, rfl, Nat.le_refl _, fun _ _ _ => rfl⟩, fun _ => ⟨Parts.start _ _ _ _, h⟩, (fun h => by cases h)⟩
theorem Cp5.step (h : Cp5 wr top b c ls ys S ρ w') {k : Nat} (hk : k ≠ 10) (h10 : S 10 = false) (hord : (FR.upd S k true 9 = true → FR.upd S k true 8 = true) ∧ (FR.upd S k true 8 = true → FR.upd S k true 2 = true)) {v : Value} (hb : Below w'.heap.size w' w'')
    (hp : Parts wr cp5G (cp5Q wr ys) (FR.upd S k true) (FR.upd ρ k v) w'') : Cp5 wr top b c ls ys (FR.upd S k true) (FR.upd ρ k v) w'' := by
  have h10' : FR.upd S k true 10 = false := by rw [FR.upd_ne _ _ (Ne.symm hk)]; exact h10
  refine ⟨⟨fun e => (by rw [h10'] at e; cases e), hord⟩, h.keeps.trans (Keeps.of_below hb), fun _ => ⟨hp, (h.p h10).2.below hb⟩, fun e => (by rw [h10'] at e; cases e)⟩
theorem Cp5.late (h : Cp5 wr top b c ls ys S ρ w') (hs : S 9 = false ∨ S 8 = false ∨ S 2 = false) : S 10 = false := by
  cases e : S 10 with
  | false => rfl
  | true =>
    have h9 := h.ord.1 e
    have h8 := h.ord.2.1 h9
    have h2 := h.ord.2.2 h8
    rcases hs with q | q | q
    · rw [q] at h9; cases h9
    · rw [q] at h8; cases h8
    · rw [q] at h2; cases h2
theorem Cp5.last (h : Cp5 wr top b c ls ys S ρ w') (h9 : S 9 = true) (hg : w'.grownBy w'' (blk b)) {a' : Option Addr} {c' : Nat} (ho : OwL w'' top w''.heap.size a' c' (ls ++ [ys])) : Cp5 wr top b c ls ys (FR.upd S 10 true) (FR.upd ρ 10 (.slice a' (ls.length + 1) c')) w'' := by
  have e9 : FR.upd S 10 true 9 = S 9 := FR.upd_ne _ _ (by decide)
  have e8 : FR.upd S 10 true 8 = S 8 := FR.upd_ne _ _ (by decide)
  have e2 : FR.upd S 10 true 2 = S 2 := FR.upd_ne _ _ (by decide)
  refine ⟨⟨fun _ => (by rw [e9]; exact h9), fun e => (by rw [e9] at e; rw [e8]; exact h.ord.2.1 e), fun e => (by rw [e8] at e; rw [e2]; exact h.ord.2.2 e)⟩, h.keeps.trans (Keeps.of_grown hg fun k hk => hk), fun e => (by rw [FR.upd_same] at e; cases e), fun _ => ⟨a', c', (by rw [FR.upd_same]), ho⟩⟩
end

set_option maxRecDepth 100000 in
set_option maxHeartbeats 3200000 in
theorem l3Copy_c (w : World) (q : Sp) (s : St) (h : RdS w q s) (l0 : s.pc.length ≤ 1000) (l1 : s.regs.length ≤ 1000) (l2 : s.mem.length ≤ 1000) (l3 : s.buf.length ≤ 1000) (l4 : ∀ xs ∈ s.buf, xs.length ≤ 1000) :
    Calls Try.prog 109 #[q.v s] w fun e w' => ∃ q' : Sp, e = .returned (q'.v s) ∧ OwS w' w.heap.size q' s ∧ Below w.heap.size w w' := by
  obtain ⟨a0, c0, a1, c1, a2, c2, a3, c3⟩ := q
  obtain ⟨n0, hn0⟩ : ∃ n, n = s.pc.length := ⟨_, rfl⟩
  obtain ⟨n1, hn1⟩ : ∃ n, n = s.regs.length := ⟨_, rfl⟩
  obtain ⟨n2, hn2⟩ : ∃ n, n = s.mem.length := ⟨_, rfl⟩
  obtain ⟨n3, hn3⟩ : ∃ n, n = s.buf.length := ⟨_, rfl⟩
  have HN := hid (And.intro hn0 (And.intro hn1 (And.intro hn2 hn3)))
  unfold Sp.v
  rw [← hn0, ← hn1, ← hn2, ← hn3]
  rw [← hn0] at l0
  rw [← hn1] at l1
  rw [← hn2] at l2
  rw [← hn3] at l3
  clear hn0 hn1 hn2 hn3
  have HL4 := hid l4
  have HRD := hid h
  clear l4 h
  go_enter Try.func109, Try.ntmps109
  go_wp2_with fail
  obtain ⟨w1, hw1⟩ : ∃ w1, w1 = (w.alloc (.cells #[.slice a0 n0 c0, .slice a1 n1 c1, .slice a2 n2 c2, .slice a3 n3 c3] 148)).alloc (.cells zSt 148) := ⟨_, rfl⟩
  rw [← hw1]
  have hs1 : w1.heap.size = w.heap.size + 2 := by rw [hw1]; simp
  have hb1 : Below w.heap.size w w1 := by rw [hw1]; exact ((Below.refl _ _).alloc (Nat.le_refl _) _).alloc (by simp) _
  have hbox : w1.heap[w.heap.size]? = some (.cells #[.slice a0 n0 c0, .slice a1 n1 c1, .slice a2 n2 c2, .slice a3 n3 c3] 148 (0, 0)) := by
    rw [hw1, heap_alloc_old _ _ (by simp)]
    exact heap_alloc_new w _
  have hres : w1.heap[w.heap.size + 1]? = some (.cells zSt 148 (0, 0)) := by
    rw [hw1]
    have := heap_alloc_new (w.alloc (.cells #[.slice a0 n0 c0, .slice a1 n1 c1, .slice a2 n2 c2, .slice a3 n3 c3] 148)) (.cells zSt 148)
    simpa using this
  have HB1 := hid hb1
  have HBOX := hid hbox
  have HRES := hid hres
  have HRD1 := hid (HRD.out.below hb1)
  have cb : ∀ i v w', (#[.slice a0 n0 c0, .slice a1 n1 c1, .slice a2 n2 c2, .slice a3 n3 c3] : Array Value)[i]? = some v → Below w1.heap.size w1 w' → w'.cell? ⟨w.heap.size, i, none⟩ = some v := fun i v w' hv hb => by
    rw [cell_of_row w' w.heap.size i _ 148 (0, 0) ((hb.block _ (by omega)).trans HBOX.out)]
    exact hv
  have HCB := hid cb
  clear hb1 hbox hres cb
  refine FR.wp_region_free 14 (Parts w1 copyG (copyQ w1 s)) (by kernel_rfl) (by kernel_rfl) (by kernel_rfl) (fun _ => undef) (Parts.start _ _ _ _) fun V => ?_
  have HP := hid (fun k => fun S ρ w' (h : Parts w1 copyG (copyQ w1 s) S ρ w') (e : S k = true ∧ ρ k = V k) => show copyQ w1 s k w' (V k) from by have := h.part k e.1; rw [e.2] at this; exact this)
  refine FR.frGo_act (k := 0) _ rfl (fun S ρ w' hI hS hp K hK => ?_) ?_
  · go_simp
    exact hK _ _ (hI.new (copyQ_stays _ _) _ (IsLit.new w1 w' _ hI.below.size) rfl)
  (refine FR.frGo_pure _ rfl (fun K hK => ?_); go_simp; (first | refine hK _ ?_ | refine ⟨_, fun W hW => rfl, hK _ ?_⟩ | refine ⟨_, fun W hW => ⟨rfl, rfl⟩, hK _ ?_⟩); clear hK K)
  refine FR.frGo_held _ rfl (fun w' => w'.cell? ⟨w.heap.size, 0, none⟩ = some (.slice a0 n0 c0)) (fun S ρ w' h _ => HCB.out 0 _ w' rfl h.below) (fun K hK => ?_)
  go_simp
  refine ⟨.slice a0 n0 c0, fun W hW => ?_, hK _ ?_⟩
  · go_simp
  clear hK K
  refine FR.frGo_act (k := 3) _ rfl (fun S ρ w' hI hS hp K hK => ?_) ?_
  · have hp0 := hp 0 (by kernel_rfl)
    have q0 : IsLit w1 w' 3 (V 0) := HP.out 0 S ρ w' hI hp0
    refine oper_append_lit w1 _ _ 24 rfl 3 (.int .i64 0) 1 8 Try.underlying24 Try.info_int rfl (by decide) (V 0) rfl q0 a0 n0 c0 (ints s.pc) rfl (HRD1.out.pc.below hI.below) (by simp [HN.out.1]) (ints_one _ _) (by omega) (by decide) ?_
    intro a' c' w'' hown hb hat
    refine hK _ _ (hI.step (copyQ_stays _ _) hb ⟨a', c', by rw [HN.out.1], by rw [← HN.out.1]; exact hown⟩ fun b e => ?_)
    rcases hat b e with h | h
    · exact .inr ⟨0, hp0.1, by decide, rfl, by rw [hp0.2]; exact h⟩
    · exact .inl h
  refine FR.frGo_act (k := 4) _ rfl (fun S ρ w' hI hS hp K hK => ?_) ?_
  · go_simp
    exact hK _ _ (hI.new (copyQ_stays _ _) _ (IsLit.new w1 w' _ hI.below.size) rfl)
  (refine FR.frGo_pure _ rfl (fun K hK => ?_); go_simp; (first | refine hK _ ?_ | refine ⟨_, fun W hW => rfl, hK _ ?_⟩ | refine ⟨_, fun W hW => ⟨rfl, rfl⟩, hK _ ?_⟩); clear hK K)
  refine FR.frGo_held _ rfl (fun w' => w'.cell? ⟨w.heap.size, 1, none⟩ = some (.slice a1 n1 c1)) (fun S ρ w' h _ => HCB.out 1 _ w' rfl h.below) (fun K hK => ?_)
  go_simp
  refine ⟨.slice a1 n1 c1, fun W hW => ?_, hK _ ?_⟩
  · go_simp
  clear hK K
  refine FR.frGo_act (k := 7) _ rfl (fun S ρ w' hI hS hp K hK => ?_) ?_
  · have hp0 := hp 4 (by kernel_rfl)
    have q0 : IsLit w1 w' 3 (V 4) := HP.out 4 S ρ w' hI hp0
    refine oper_append_lit w1 _ _ 24 rfl 3 (.int .i64 0) 1 8 Try.underlying24 Try.info_int rfl (by decide) (V 4) rfl q0 a1 n1 c1 (ints s.regs) rfl (HRD1.out.regs.below hI.below) (by simp [HN.out.2.1]) (ints_one _ _) (by omega) (by decide) ?_
    intro a' c' w'' hown hb hat
    refine hK _ _ (hI.step (copyQ_stays _ _) hb ⟨a', c', by rw [HN.out.2.1], by rw [← HN.out.2.1]; exact hown⟩ fun b e => ?_)
    rcases hat b e with h | h
    · exact .inr ⟨4, hp0.1, by decide, rfl, by rw [hp0.2]; exact h⟩
    · exact .inl h
  refine FR.frGo_act (k := 8) _ rfl (fun S ρ w' hI hS hp K hK => ?_) ?_
  · go_simp
    exact hK _ _ (hI.new (copyQ_stays _ _) _ (IsLit.new w1 w' _ hI.below.size) rfl)
  (refine FR.frGo_pure _ rfl (fun K hK => ?_); go_simp; (first | refine hK _ ?_ | refine ⟨_, fun W hW => rfl, hK _ ?_⟩ | refine ⟨_, fun W hW => ⟨rfl, rfl⟩, hK _ ?_⟩); clear hK K)
  refine FR.frGo_held _ rfl (fun w' => w'.cell? ⟨w.heap.size, 2, none⟩ = some (.slice a2 n2 c2)) (fun S ρ w' h _ => HCB.out 2 _ w' rfl h.below) (fun K hK => ?_)
  go_simp
  refine ⟨.slice a2 n2 c2, fun W hW => ?_, hK _ ?_⟩
  · go_simp
  clear hK K
  refine FR.frGo_act (k := 11) _ rfl (fun S ρ w' hI hS hp K hK => ?_) ?_
  · have hp0 := hp 8 (by kernel_rfl)
    have q0 : IsLit w1 w' 3 (V 8) := HP.out 8 S ρ w' hI hp0
    refine oper_append_lit w1 _ _ 24 rfl 3 (.int .i64 0) 1 8 Try.underlying24 Try.info_int rfl (by decide) (V 8) rfl q0 a2 n2 c2 (ints s.mem) rfl (HRD1.out.mem.below hI.below) (by simp [HN.out.2.2.1]) (ints_one _ _) (by omega) (by decide) ?_
    intro a' c' w'' hown hb hat
    refine hK _ _ (hI.step (copyQ_stays _ _) hb ⟨a', c', by rw [HN.out.2.2.1], by rw [← HN.out.2.2.1]; exact hown⟩ fun b e => ?_)
    rcases hat b e with h | h
    · exact .inr ⟨8, hp0.1, by decide, rfl, by rw [hp0.2]; exact h⟩
    · exact .inl h
  have Q3 := hid (fun S ρ w' h e => show IsOwn w1.heap.size s.pc w' (V 3) from HP.out 3 S ρ w' h e)
  have Q7 := hid (fun S ρ w' h e => show IsOwn w1.heap.size s.regs w' (V 7) from HP.out 7 S ρ w' h e)
  have Q11 := hid (fun S ρ w' h e => show IsOwn w1.heap.size s.mem w' (V 11) from HP.out 11 S ρ w' h e)
  have Q13 := hid (fun S ρ w' h e => show IsCells zSt 148 w' (V 13) from HP.out 13 S ρ w' h e)
  clear HP
  by_cases hV : ∃ b3 d3 b7 d7 b11 d11, V 3 = .slice b3 n0 d3 ∧ V 7 = .slice b7 n1 d7 ∧ V 11 = .slice b11 n2 d11
  · obtain ⟨b3, d3, b7, d7, b11, d11, h3, h7, h11⟩ := hV
    have H3 := hid h3
    have H7 := hid h7
    have H11 := hid h11
    rw [h3, h7, h11]
    clear h3 h7 h11
    (refine FR.frGo_pure _ rfl (fun K hK => ?_); go_simp; (first | refine hK _ ?_ | refine ⟨_, fun W hW => rfl, hK _ ?_⟩ | refine ⟨_, fun W hW => ⟨rfl, rfl⟩, hK _ ?_⟩); clear hK K)
    refine FR.frGo_act (k := 13) _ rfl (fun S ρ w' hI hS hp K hK => ?_) ?_
    · go_simp
      exact hK _ _ (hI.new (copyQ_stays _ _) _ ⟨_, rfl, heap_alloc_new _ _⟩ rfl)
    refine FR.frGo_nil _ ?_
    intro S ρ w2 hI hS
    have z3 := hS 3 (by decide) (by kernel_rfl)
    have z7 := hS 7 (by decide) (by kernel_rfl)
    have z11 := hS 11 (by decide) (by kernel_rfl)
    have z13 := hS 13 (by decide) (by kernel_rfl)
    have R3 := Q3.out S ρ w2 hI z3
    have R7 := Q7.out S ρ w2 hI z7
    have R11 := Q11.out S ρ w2 hI z11
    obtain ⟨g9, e9, R9⟩ := Q13.out S ρ w2 hI z13
    rw [e9]
    refine wpMix_act rfl rfl (fun K hK => ?_)
    have sep : ∀ j k b, copyG j ≠ copyG k → (S j = true ∧ ρ j = V j) → (S k = true ∧ ρ k = V k) → vblk (V j) = some b → vblk (V k) ≠ some b := fun j k b hg hj hk h1 h2 => hI.sep j k b hj.1 hk.1 hg (by rw [hj.2]; exact h1) (by rw [hk.2]; exact h2)
    have rng : ∀ k b, (S k = true ∧ ρ k = V k) → vblk (V k) = some b → w1.heap.size ≤ b ∧ b < w2.heap.size := fun k b hk h1 => hI.rng k b hk.1 (by rw [hk.2]; exact h1)
    have d37 : ∀ b, blk b3 = some b → blk b7 ≠ some b := fun b h1 h2 => sep 3 7 b (by decide) z3 z7 (by rw [H3.out]; exact h1) (by rw [H7.out]; exact h2)
    have d311 : ∀ b, blk b3 = some b → blk b11 ≠ some b := fun b h1 h2 => sep 3 11 b (by decide) z3 z11 (by rw [H3.out]; exact h1) (by rw [H11.out]; exact h2)
    have d711 : ∀ b, blk b7 = some b → blk b11 ≠ some b := fun b h1 h2 => sep 7 11 b (by decide) z7 z11 (by rw [H7.out]; exact h1) (by rw [H11.out]; exact h2)
    have m3 : ∀ b, blk b3 = some b → b ≠ g9 := fun b h1 e => sep 3 13 b (by decide) z3 z13 (by rw [H3.out]; exact h1) (by rw [e9, e]; rfl)
    have m7 : ∀ b, blk b7 = some b → b ≠ g9 := fun b h1 e => sep 7 13 b (by decide) z7 z13 (by rw [H7.out]; exact h1) (by rw [e9, e]; rfl)
    have m11 : ∀ b, blk b11 = some b → b ≠ g9 := fun b h1 e => sep 11 13 b (by decide) z11 z13 (by rw [H11.out]; exact h1) (by rw [e9, e]; rfl)
    have t3 : ∀ b, blk b3 = some b → b < w2.heap.size := fun b h1 => (rng 3 b z3 (by rw [H3.out]; exact h1)).2
    have t7 : ∀ b, blk b7 = some b → b < w2.heap.size := fun b h1 => (rng 7 b z7 (by rw [H7.out]; exact h1)).2
    have t11 : ∀ b, blk b11 = some b → b < w2.heap.size := fun b h1 => (rng 11 b z11 (by rw [H11.out]; exact h1)).2
    have r9 := rng 13 g9 z13 (by rw [e9]; rfl)
    have B2 := hI.below
    have own : ∀ xs V0 (b : Option Addr) n d, n = xs.length → V0 = .slice b n d → IsOwn w1.heap.size xs w2 V0 → w2.ownsRow w1.heap.size 3 1 (.slice b n d) n (ints xs) := by
      rintro xs V0 b n d rfl rfl ⟨a, c, h1, h2⟩
      exact h2
    have O3 := own _ _ _ _ _ HN.out.1 H3.out R3
    have O7 := own _ _ _ _ _ HN.out.2.1 H7.out R7
    have O11 := own _ _ _ _ _ HN.out.2.2.1 H11.out R11
    clear own sep rng hI hS z3 z7 z11 z13 R3 R7 R11 Q3 Q7 Q11 Q13 H3 H7 H11 e9
    obtain ⟨cs, hcs⟩ : ∃ cs : Array Value, cs = #[.slice b3 n0 d3, .slice b7 n1 d7, .slice b11 n2 d11, zS] := ⟨_, rfl⟩
    refine wp_store_row 148 _ _ rfl g9 cs rfl (by rw [hcs]; rfl) _ zSt R9 (by rw [hcs]; kernel_rfl) (by rw [hcs]; rfl) (by rw [hcs]; simp [Value.oneCell']) ?_
    refine hK _ _ ?_
    clear hK K
    have k3 := keeps_setRow w2 g9 cs
    have hg3 := setRow_heap w2 g9 _ cs _ _ R9
    have P3 := own_keeps O3 k3 (fun b hb e => m3 b hb e)
    have P7 := own_keeps O7 k3 (fun b hb e => m7 b hb e)
    have P11 := own_keeps O11 k3 (fun b hb e => m11 b hb e)
    have B3 : Below w1.heap.size w1 (w2.setRow g9 cs) := Proofs.Ythlmfjoiicnomaa.Below.keeps B2 k3 B2.size (fun k e => by omega)
    have hsz : (w2.setRow g9 cs).heap.size = w2.heap.size := by simp [World.setRow]
    rw [← hsz] at t3 t7 t11 r9
    obtain ⟨w3, hw3⟩ : ∃ w3, w3 = w2.setRow g9 cs := ⟨_, rfl⟩
    rw [← hw3] at hg3 P3 P7 P11 B3 t3 t7 t11 r9 ⊢
    rw [hcs] at hg3
    have HOWN := hid (And.intro P3 (And.intro P7 P11))
    have HSEP := hid (And.intro d37 (And.intro d311 d711))
    have HOUT := hid (And.intro m3 (And.intro m7 m11))
    have HTOP := hid (And.intro t3 (And.intro t7 t11))
    have HB3 := hid B3
    have HG3 := hid hg3
    have hs3 := B3.size
    clear O3 O7 O11 k3 hg3 P3 P7 P11 B3 d37 d311 d711 m3 m7 m11 t3 t7 t11 hcs cs hw3 R9 hsz B2
    have HKB := hid (fun wr (hk : Keeps (· = g9) w3 wr) => show Below w.heap.size w wr from Proofs.Ythlmfjoiicnomaa.Below.keeps (HB1.out.trans (HB3.out.mono (by omega))) hk (by omega) (fun k e => by omega))
    (with_reducible refine wpMix_nil ?_)
    go_wp2_with fail
    go_loopw [4] (fun i wr => ∃ k : Nat, k ≤ n3 ∧ i = .int .i64 k ∧ Hid (∃ b c, wr.heap[g9]? = some (.cells #[.slice b3 n0 d3, .slice b7 n1 d7, .slice b11 n2 d11, .slice b k c] 148 (0, 0)) ∧ OwL wr w3.heap.size wr.heap.size b c ((s.buf.map flatB).take k)) ∧ Hid (Keeps (· = g9) w3 wr)) (fun i _ => n3 - (intOf i).toNat)
    case atStart => exact ⟨0, Nat.zero_le _, rfl, hid ⟨none, 0, HG3.out, by rw [List.take_zero]; exact OwL.nil _ _ _⟩, hid (Keeps.refl _ _)⟩
    case round =>
      obtain ⟨k, hk, rfl, HL, HK⟩ := hrel
      obtain ⟨b, c, hgr, hol⟩ := HL.out
      have HGR := hid hgr
      have HOL := hid hol
      have hsr := HK.out.size
      have cbx : wr.cell? ⟨w.heap.size, 3, none⟩ = some (.slice a3 n3 c3) := by
        rw [cell_of_row wr w.heap.size 3 _ 148 (0, 0) ((HK.out.block _ (by omega) (by omega)).trans ((HB3.out.block _ (by omega)).trans HBOX.out))]
        rfl
      clear HL hgr hol
      by_cases hlt : k < n3
      · have hsm : k < (s.buf.map flatB).length := by rw [List.length_map, ← HN.out.2.2.2]; exact hlt
        obtain ⟨b', off, r, c', ys, hab, hbl, hys, hcell, hrd, hcap⟩ := HRD.out.buf.at' k hsm
        have hab : a3 = some ⟨b', off, none⟩ := hab
        subst hab
        have Bwr := HKB.out wr HK.out
        have hcw := (Bwr.cell (p := ⟨b', off + k, none⟩) hbl).trans hcell
        have HYW := hid (hrd.below Bwr)
        have hyl : ys.length ≤ 2000 := by
          rw [List.getElem?_map] at hys
          obtain ⟨z, hz, rfl⟩ := Option.map_eq_some_iff.1 hys
          rw [length_flatB]
          have := HL4.out z (List.mem_of_getElem? hz)
          omega
        obtain ⟨m, hm⟩ : ∃ m, m = ys.length := ⟨_, rfl⟩
        have HM := hid hm
        rw [← hm] at hcw hyl
        have HYS := hid hys
        have HST := hid (show (s.buf.map flatB).take (k + 1) = (s.buf.map flatB).take k ++ [ys] by
          rw [List.take_add_one, hys]; rfl)
        have HLEN := hid (show ((s.buf.map flatB).take k).length = k by rw [List.length_take]; omega)
        have cg3 : wr.cell? ⟨g9, 3, none⟩ = some (.slice b k c) := by rw [cell_of_row wr g9 3 _ _ _ HGR.out]; rfl
        have fg3 : wr.frozen? ⟨g9, 3, none⟩ = false := frozen_of_row wr g9 3 _ _ HGR.out
        have hbt : ∀ x, blk b = some x → w3.heap.size ≤ x := fun x hx => by
          obtain ⟨rs, _, ho, _⟩ := HOL.out
          exact (own_blk ho x hx).1
        have HBT := hid hbt
        have hb'3 : b' < w3.heap.size := by have := HB1.out.size; omega
        clear hbl hcell hrd hcap hsm hm hys Bwr hbt
        go_wp2_with fail
        refine FR.wp_region_free 11 (Cp5 wr w3.heap.size b c ((s.buf.map flatB).take k) ys) (by kernel_rfl) (by kernel_rfl) (by kernel_rfl) (fun _ => undef) (Cp5.start HOL.out _) fun V2 => ?_
        have HQ := hid (fun (j : Nat) S ρ w' (h : Cp5 wr w3.heap.size b c ((s.buf.map flatB).take k) ys S ρ w') (h10 : S 10 = false) (e : S j = true ∧ ρ j = V2 j) => show cp5Q wr ys j w' (V2 j) from by have := (h.p h10).1.part j e.1; rw [e.2] at this; exact this)
        have HCL := hid (fun S ρ w' (h : Cp5 wr w3.heap.size b c ((s.buf.map flatB).take k) ys S ρ w') (p : Addr) u (hp : p.block < w3.heap.size) (hc : wr.cell? p = some u) => show w'.cell? p = some u from (World.cell?_of_block (h.keeps.block p.block (by omega) (fun e => by have := HBT.out _ e; omega))).trans hc)
        (refine FR.frGo_pure _ rfl (fun K hK => ?_); go_simp; (first | refine hK _ ?_ | refine ⟨_, fun W hW => rfl, hK _ ?_⟩ | refine ⟨_, fun W hW => ⟨rfl, rfl⟩, hK _ ?_⟩); clear hK K)
        refine FR.frGo_held _ rfl (fun w' => w'.cell? ⟨g9, 3, none⟩ = some (.slice b k c)) (fun S ρ w' h _ => HCL.out S ρ w' h _ _ r9.2 cg3) (fun K hK => ?_)
        go_simp
        refine ⟨.slice b k c, fun W hW => ?_, hK _ ?_⟩
        · go_simp
        clear hK K
        refine FR.frGo_act (k := 2) _ rfl (fun S ρ w' hI hS hp K hK => ?_) ?_
        · have h10 := hI.late (.inr (.inr hS))
          have h8 : S 8 = false := by cases e : S 8 with | false => rfl | true => (have := hI.ord.2.2 e; rw [hS] at this; cases this)
          have h9 : S 9 = false := by cases e : S 9 with | false => rfl | true => (have := hI.ord.2.1 e; rw [h8] at this; cases this)
          go_simp
          exact hK _ _ (hI.step (by decide) h10 ⟨fun e => (by rw [FR.upd_ne _ _ (by decide), h9] at e; cases e), fun e => (by rw [FR.upd_same])⟩ ((Below.refl _ _).alloc (Nat.le_refl _) _) ((hI.p h10).1.new (cp5Q_stays _ _) _ (IsLit.new wr w' _ (hI.p h10).1.below.size) rfl))
        (refine FR.frGo_pure _ rfl (fun K hK => ?_); go_simp; (first | refine hK _ ?_ | refine ⟨_, fun W hW => rfl, hK _ ?_⟩ | refine ⟨_, fun W hW => ⟨rfl, rfl⟩, hK _ ?_⟩); clear hK K)
        refine FR.frGo_held _ rfl (fun w' => w'.cell? ⟨w.heap.size, 3, none⟩ = some (.slice (some ⟨b', off, none⟩) n3 c3)) (fun S ρ w' h _ => HCL.out S ρ w' h _ _ (by show w.heap.size < _; omega) cbx) (fun K hK => ?_)
        go_simp
        refine ⟨.slice (some ⟨b', off, none⟩) n3 c3, fun W hW => ?_, hK _ ?_⟩
        · go_simp
        clear hK K
        (refine FR.frGo_pure _ rfl (fun K hK => ?_); go_simp; (first | refine hK _ ?_ | refine ⟨_, fun W hW => rfl, hK _ ?_⟩ | refine ⟨_, fun W hW => ⟨rfl, rfl⟩, hK _ ?_⟩); clear hK K)
        (refine FR.frGo_pure _ rfl (fun K hK => ?_); go_simp; (first | refine hK _ ?_ | refine ⟨_, fun W hW => rfl, hK _ ?_⟩ | refine ⟨_, fun W hW => ⟨rfl, rfl⟩, hK _ ?_⟩); clear hK K)
        refine FR.frGo_held _ rfl (fun w' => w'.cell? ⟨b', off + k, none⟩ = some (.slice r m c')) (fun S ρ w' h _ => HCL.out S ρ w' h _ _ hb'3 hcw) (fun K hK => ?_)
        go_simp
        refine ⟨.slice r m c', fun W hW => ?_, hK _ ?_⟩
        · go_simp
        clear hK K
        refine FR.frGo_act (k := 8) _ rfl (fun S ρ w' hI hS hp K hK => ?_) ?_
        · have h10 := hI.late (.inr (.inl hS))
          have h9 : S 9 = false := by cases e : S 9 with | false => rfl | true => (have := hI.ord.2.1 e; rw [hS] at this; cases this)
          have hp2 := hp 2 (by kernel_rfl)
          have q2 : IsLit wr w' 3 (V2 2) := HQ.out 2 S ρ w' hI h10 hp2
          refine oper_append_lit wr _ _ 24 rfl 3 (.int .i64 0) 1 8 Try.underlying24 Try.info_int rfl (by decide) (V2 2) rfl q2 r m c' (ints ys) rfl (HYW.out.below (hI.p h10).1.below) (by simp [HM.out]) (ints_one _ _) (by omega) (by decide) ?_
          intro a' c' w'' hown hb hat
          refine hK _ _ (hI.step (by decide) h10 ⟨fun e => (by rw [FR.upd_ne _ _ (by decide), h9] at e; cases e), fun e => (by rw [FR.upd_ne _ _ (by decide)]; exact hp2.1)⟩ hb ((hI.p h10).1.step (cp5Q_stays _ _) hb ⟨a', c', by rw [HM.out], by rw [← HM.out]; exact hown⟩ fun b e => ?_))
          rcases hat b e with h | h
          · exact .inr ⟨2, hp2.1, by decide, rfl, by rw [hp2.2]; exact h⟩
          · exact .inl h
        refine FR.frGo_act (k := 9) _ rfl (fun S ρ w' hI hS hp K hK => ?_) ?_
        · have h10 := hI.late (.inl hS)
          have hp8 := hp 8 (by kernel_rfl)
          have q8 : IsOwn wr.heap.size ys w' (V2 8) := HQ.out 8 S ρ w' hI h10 hp8
          obtain ⟨a8, c8, e8, o8⟩ := id q8
          rw [e8] at hK ⊢
          go_simp
          rw [e8] at q8
          refine hK _ _ (hI.step (by decide) h10 ⟨fun e => (by rw [FR.upd_ne _ _ (by decide)]; exact hp8.1), fun e => (by rw [FR.upd_ne _ _ (by decide)]; exact hI.ord.2.2 hp8.1)⟩ ((Below.refl _ _).alloc (Nat.le_refl _) _) ((hI.p h10).1.new (cp5Q_stays _ _) _ (IsOne.new q8 _) rfl))
        refine FR.frGo_act (k := 10) _ rfl (fun S ρ w' hI hS hp K hK => ?_) ?_
        · have hp9 := hp 9 (by kernel_rfl)
          obtain ⟨H, u, e9, hu, a8, c8, rfl, o8⟩ := show IsOne wr.heap.size ys w' (V2 9) from HQ.out 9 S ρ w' hI hS hp9
          have hol := (hI.p hS).2
          refine oper_pushI _ _ rfl w3.heap.size wr.heap.size b k c _ HLEN.out rfl hol a8 c8 ys.length ys rfl (own_base o8 (by omega)) (fun x hx => (own_blk o8 x hx).1) ⟨H, 0, none⟩ e9 hu (by omega) (by have := hI.keeps.size; omega) ?_
          intro a' c' w'' ho hg
          have := hI.last hp9.1 hg ho
          rw [HLEN.out] at this
          exact hK _ _ this
        refine FR.frGo_nil _ ?_
        intro S ρ w5 hI hS
        have z10 := hS 10 (by decide) (by kernel_rfl)
        obtain ⟨a', c'', e10, hol5⟩ := hI.f z10.1
        rw [z10.2, HLEN.out] at e10
        rw [← HST.out] at hol5
        rw [e10]
        have hk5 := hI.keeps
        have hbg : ∀ x, blk b = some x → x ≠ g9 := fun x hx e => by have := HBT.out x hx; omega
        have hg5 : w5.heap[g9]? = some (.cells #[.slice b3 n0 d3, .slice b7 n1 d7, .slice b11 n2 d11, .slice b k c] 148 (0, 0)) := (hk5.block g9 (by omega) (fun e => hbg g9 e rfl)).trans HGR.out
        have cg5 : w5.cell? ⟨g9, 3, none⟩ = some (.slice b k c) := by rw [cell_of_row w5 g9 3 _ _ _ hg5]; rfl
        have fg5 : w5.frozen? ⟨g9, 3, none⟩ = false := frozen_of_row w5 g9 3 _ _ hg5
        have hg6 : (w5.setCell ⟨g9, 3, none⟩ (.slice a' (k + 1) c'')).heap[g9]? = some (.cells #[.slice b3 n0 d3, .slice b7 n1 d7, .slice b11 n2 d11, .slice a' (k + 1) c''] 148 (0, 0)) := by
          have := heap_setCell_same w5 g9 3 _ _ (.slice a' (k + 1) c'') hg5
          simpa using this
        have hk6 : Keeps (· = g9) w3 (w5.setCell ⟨g9, 3, none⟩ (.slice a' (k + 1) c'')) := by
          refine ⟨hk5.os.trans HK.out.os, hk5.tape.trans HK.out.tape, hk5.output.trans HK.out.output, ?_, fun x hx hne => ?_⟩
          · have := hk5.size; simp [World.setCell]; omega
          · rw [heap_setCell_other w5 ⟨g9, 3, none⟩ x _ (by simpa using hne), hk5.block x (by omega) (fun e => by have := HBT.out x e; omega)]
            exact HK.out.block x hx hne
        have hol6 : OwL (w5.setCell ⟨g9, 3, none⟩ (.slice a' (k + 1) c'')) w3.heap.size (w5.setCell ⟨g9, 3, none⟩ (.slice a' (k + 1) c'')).heap.size a' c'' ((s.buf.map flatB).take (k + 1)) := by
          have := hol5.keeps (Keeps.setCell w5 ⟨g9, 3, none⟩ (.slice a' (k + 1) c'')) (fun x hx _ e => by simp at e; omega)
          simpa [World.setCell] using this
        have HG6 := hid hg6
        have HK6 := hid hk6
        have HOL6 := hid hol6
        clear hg6 hk6 hol6 hg5 hk5 hol5 hbg hS hI z10 e10 HQ HCL
        refine wpMix_rd rfl rfl (fun K hK => ?_)
        go_simp
        refine hK _ ?_
        clear hK K
        refine wpMix_act rfl rfl (fun K hK => ?_)
        go_simp
        refine hK _ _ ?_
        clear hK K
        (with_reducible refine wpMix_nil ?_)
        go_wp2_with fail
        go_roundw
        case rel => exact ⟨k + 1, by omega, by go_num, hid ⟨_, _, HG6.out, HOL6.out⟩, HK6⟩
        case measure => simp [intOf]; omega
      · obtain rfl : k = n3 := by omega
        have hall : (s.buf.map flatB).take k = s.buf.map flatB := List.take_of_length_le (by rw [List.length_map, ← HN.out.2.2.2]; omega)
        have hol := HOL.out
        rw [hall] at hol
        have HK' := HK.out
        have hres : wr.heap[w.heap.size + 1]? = some (.cells zSt 148 (0, 0)) := (HK'.block _ (by omega) (by omega)).trans ((HB3.out.block _ (by omega)).trans HRES.out)
        have HRE := hid hres
        have HOLF := hid hol
        have HONE := hid (show (#[.slice b3 n0 d3, .slice b7 n1 d7, .slice b11 n2 d11, .slice b k c] : Array Value).all (·.oneCell') = true from by simp [Value.oneCell'])
        clear hol hall hres
        go_wp2_with (first | (refine wpList_load_row rfl 148 (.tmp 3) rfl g9 rfl 148 _ (0, 0) _ HGR.out Try.underlying148 rfl (by kernel_rfl) ?_) | (refine wpList_store_row rfl 148 (.tmp 2) (.tmp 37) rfl (w.heap.size + 1) #[.slice b3 n0 d3, .slice b7 n1 d7, .slice b11 n2 d11, .slice b k c] rfl rfl 148 zSt HRE.out (by kernel_rfl) rfl HONE.out ?_))
        refine bodyPost_ret (results_cell_row rfl _ _ (w.heap.size + 1) 148 _ (0, 0) _ rfl (setRow_heap _ _ _ _ _ _ HRE.out) Try.underlying148 rfl (by kernel_rfl)) rfl ⟨⟨b3, d3, b7, d7, b11, d11, b, c⟩, rfl, ?_, ?_⟩
        · have hkf := keeps_setRow wr (w.heap.size + 1) #[.slice b3 n0 d3, .slice b7 n1 d7, .slice b11 n2 d11, .slice b k c]
          have ownb : ∀ (x : Option Addr) n d xs, w3.ownsRow w1.heap.size 3 1 (.slice x n d) n (ints xs) → (∀ y, blk x = some y → y ≠ g9) → n = xs.length → OwI (wr.setRow (w.heap.size + 1) #[.slice b3 n0 d3, .slice b7 n1 d7, .slice b11 n2 d11, .slice b k c]) w.heap.size x d xs := by
            rintro x n d xs ho hne rfl
            exact own_base (own_keeps (own_keeps ho HK' fun y hy e => hne y hy e) hkf fun y hy e => by have := (own_blk ho y hy).1; omega) (by omega)
          refine ⟨ownb _ _ _ _ HOWN.out.1 HOUT.out.1 HN.out.1, ownb _ _ _ _ HOWN.out.2.1 HOUT.out.2.1 HN.out.2.1, ownb _ _ _ _ HOWN.out.2.2 HOUT.out.2.2 HN.out.2.2.1, HSEP.out.1, HSEP.out.2.1, HSEP.out.2.2, w3.heap.size, by omega, HTOP.out.1, HTOP.out.2.1, HTOP.out.2.2, ?_⟩
          have := HOLF.out.keeps hkf (fun x hx _ e => by omega)
          simpa [World.setRow] using this
        · exact Proofs.Ythlmfjoiicnomaa.Below.keeps (HKB.out wr HK') (keeps_setRow wr (w.heap.size + 1) _) (by omega) (fun x e => by omega)
  · have bad : ∀ S ρ w', Parts w1 copyG (copyQ w1 s) S ρ w' → (S 3 = true ∧ ρ 3 = V 3) → (S 7 = true ∧ ρ 7 = V 7) → (S 11 = true ∧ ρ 11 = V 11) → False := fun S ρ w' h e2 e6 e7 => by
      obtain ⟨a2, b2, r2, _⟩ := Q3.out S ρ w' h e2
      obtain ⟨a6, b6, r6, _⟩ := Q7.out S ρ w' h e6
      obtain ⟨a7, b7, r7, _⟩ := Q11.out S ρ w' h e7
      rw [← HN.out.1] at r2
      rw [← HN.out.2.1] at r6
      rw [← HN.out.2.2.1] at r7
      exact hV ⟨a2, b2, a6, b6, a7, b7, r2, r6, r7⟩
    refine frGo_bad rfl (fun S ρ w h hp => bad S ρ w h (hp 3 (by kernel_rfl)) (hp 7 (by kernel_rfl)) (hp 11 (by kernel_rfl))) ?_
    refine FR.frGo_act (k := 13) _ rfl (fun S ρ w' hI hS hp K hK => ?_) ?_
    · go_simp
      exact hK _ _ (hI.new (copyQ_stays _ _) _ ⟨_, rfl, heap_alloc_new _ _⟩ rfl)
    exact FR.frGo_nil _ fun S ρ w2 hI hS => (bad S ρ w2 hI (hS 3 (by decide) (by kernel_rfl)) (hS 7 (by decide) (by kernel_rfl)) (hS 11 (by decide) (by kernel_rfl))).elim
end Go.Proofs.Ythlmfjoiicnomaa
namespace Go.Proofs.Ythlmfjoiicnomaa
open Go.RowKit
set_option linter.unusedVariables false
set_option linter.unusedSimpArgs false

theorem l3Reg_c (w : World) (t r i : Nat) (hi : i = t * 3 + r) (ht : t ≤ 1000000) (hr : r ≤ 1000000) : Calls Try.prog 87 #[.int .i64 t, .int .i64 r] w fun e w' => e = .returned (.int .i64 (i : Int)) ∧ w' = w := by
  subst hi
  go_enter Try.func87, Try.ntmps87
  go_wp2
  go_ret
  exact ⟨ret_int (by omega), rfl⟩

theorem callReg : ∀ args (w : World), (callFunc 87 args).run Try.prog w = .ok (.enter 87 args) w :=
  fun args w => run_callFunc Try.func87 rfl rfl args w

set_option maxRecDepth 100000 in
set_option maxHeartbeats 1600000 in
theorem l3Value_c (w : World) (q : Sp) (s : St) (t : Nat) (x : Ins) (h : RdS w q s) (hv : insValid x = true) (ht : t * 3 + 3 ≤ s.regs.length) (l1 : s.regs.length ≤ 1000) :
    Calls Try.prog 110 #[q.v s, .int .i64 t, x.v] w fun e w' => e = .returned (.int .i64 (wval s t x)) ∧ Below w.heap.size w w' := by
  obtain ⟨a0, c0, a1, c1, a2, c2, a3, c3⟩ := q
  obtain ⟨rn, hrn, hr2⟩ := valid_reg hv
  obtain ⟨op, loc, reg, val⟩ := x
  have hrn : reg = rn := hrn
  subst hrn
  obtain ⟨b, off, hab, hb, hc⟩ := h.regs.int (t * 3 + rn) (by omega)
  have hab : a1 = some ⟨b, off, none⟩ := hab
  subst hab
  have HW := hid (show wval s t ⟨op, loc, rn, val⟩ = if op = 3 then s.regs[t * 3 + rn]'(by omega) else val from by
    unfold wval
    simp [List.getD_eq_getElem?_getD, List.getElem?_eq_getElem (show t * 3 + rn < s.regs.length by omega)])
  obtain ⟨rv, hrv⟩ : ∃ rv, rv = s.regs[t * 3 + rn]'(by omega) := ⟨_, rfl⟩
  rw [← hrv] at hc HW
  obtain ⟨n1, hn1⟩ : ∃ n, n = s.regs.length := ⟨_, rfl⟩
  obtain ⟨i, hi⟩ : ∃ i, i = t * 3 + rn := ⟨_, rfl⟩
  have HC := hid (fun w (h1 : t ≤ 1000000) (h2 : rn ≤ 1000000) => l3Reg_c w t rn i hi h1 h2)
  unfold Sp.v
  rw [← hn1] at ht l1 ⊢
  rw [← hi] at hc
  have hin : (i : Int) < (n1 : Int) := by omega
  have ht' : t ≤ 1000 := by omega
  clear h hv hrv hn1 hi
  by_cases h3 : op = 3
  · subst h3
    rw [if_pos rfl] at HW
    have hcw := (((Below.refl w.heap.size w).alloc (Nat.le_refl _) (.cells #[.slice a0 s.pc.length c0, .slice (some ⟨b, off, none⟩) n1 c1, .slice a2 s.mem.length c2, .slice a3 s.buf.length c3] 148)).alloc (by simp) (.cells #[.int .i64 3, .int .i64 loc, .int .i64 rn, .int .i64 val] 70)).cell (p := ⟨b, off + i, none⟩) hb
    rw [hc] at hcw
    go_enter Try.func110, Try.ntmps110
    go_wp2_with fail
    refine MQ.wp_region_mix (q := [87]) (by kernel_rfl) (by kernel_rfl) ?_
    go_wp2_with (first | (with_reducible refine MQ.wpMix_nil ?_) | (with_reducible refine MQ.wpMix_rd rfl rfl rfl (fun K hK => ?_); go_simp; (try go_bits); refine hK _ ?_; clear hK K))
    refine MQ.wpMix_call rfl 87 _ _ rfl rfl #[.int .i64 t, .int .i64 rn] (by simp [Act.eval]) (callReg _ _) _ (HC.out _ (by omega) (by omega)) ?_
    go_wp2_with (first | (with_reducible refine MQ.wpMix_nil ?_) | (with_reducible refine MQ.wpMix_rd rfl rfl rfl (fun K hK => ?_); go_simp; (try go_bits); refine hK _ ?_; clear hK K))
    go_ret
    exact ⟨ret_int HW.out.symm, below_drewN 1 (((Below.refl w.heap.size w).alloc (Nat.le_refl _) _).alloc (by simp) _)⟩
  · rw [if_neg h3] at HW
    go_enter Try.func110, Try.ntmps110
    go_wp2
    go_ret
    exact ⟨ret_int HW.out.symm, ((Below.refl w.heap.size w).alloc (Nat.le_refl _) _).alloc (by simp) _⟩
end Go.Proofs.Ythlmfjoiicnomaa
namespace Go.Proofs.Ythlmfjoiicnomaa
open Go.RowKit
set_option linter.unusedVariables false
set_option linter.unusedSimpArgs false

abbrev Sp.cs (q : Sp) (s : St) : Array Value := #[.slice q.a0 s.pc.length q.c0, .slice q.a1 s.regs.length q.c1, .slice q.a2 s.mem.length q.c2, .slice q.a3 s.buf.length q.c3]
theorem ints_set (xs : List Int) (k : Nat) (v : Int) : (ints xs).set k (.int .i64 v) = ints (xs.set k v) := by simp [ints, List.map_set]
theorem own_intAt {w : World} {base n cap g : Nat} {xs : List Int} (h : w.ownsRow base 3 1 (.slice (some ⟨g, 0, none⟩) n cap) n (ints xs)) (k : Nat) (hk : k < xs.length) : ∃ z : Int, w.cell? ⟨g, k, none⟩ = some (.int .i64 z) ∧ w.frozen? ⟨g, k, none⟩ = false := by
  have h1 := h.1
  simp only [List.length_map, Nat.mul_one] at h1
  refine ⟨xs[k], (h.cellAt k (by omega)).trans ?_, h.frozenAt k⟩
  simp [hk]
theorem own_type {w : World} {base e size n cap g : Nat} {o : Nat} {cs : List Value} (h : w.ownsRow base e size (.slice (some ⟨g, o, none⟩) n cap) n cs) {a : Array Value} {t : TypeId} {f : Nat × Nat} (hg : w.heap[g]? = some (.cells a t f)) : e = t := by
  rcases h.2 with ⟨hv, _⟩ | ⟨g', c, cur, hv, _, hg', _⟩
  · simp at hv
  · simp only [Value.slice.injEq, Option.some.injEq] at hv
    have : g = g' := congrArg Addr.block hv.1
    subst this
    rw [hg'] at hg
    simp only [Option.some.injEq, Obj.cells.injEq] at hg
    exact hg.2.1
theorem Box.set {w : World} {b g j : Nat} {x : Ins} {v : Value} (h : Box w b x) (hne : b ≠ g) : Box (w.setCell ⟨g, j, none⟩ v) b x := by
  have e : ∀ k, (w.setCell ⟨g, j, none⟩ v).cell? ⟨b, k, none⟩ = w.cell? ⟨b, k, none⟩ := fun k => World.cell?_of_block (heap_setCell_other w ⟨g, j, none⟩ b v hne)
  exact ⟨(e 0).trans h.1, (e 1).trans h.2.1, (e 2).trans h.2.2.1, (e 3).trans h.2.2.2⟩
theorem Box.four {w : World} {b : Nat} {o l r v : Int} (h : Box w b ⟨o, l, r, v⟩) : w.cell? ⟨b, 0, none⟩ = some (.int .i64 o) ∧ w.cell? ⟨b, 1, none⟩ = some (.int .i64 l) ∧ w.cell? ⟨b, 2, none⟩ = some (.int .i64 r) ∧ w.cell? ⟨b, 3, none⟩ = some (.int .i64 v) := h
theorem Box.drew {w : World} {b : Nat} {x : Ins} (h : Box w b x) : Box w.drew b x := h
/-- In the middle of a step: the state that came in (in block h4), the result's place (h6), the copy (in g7), which holds sk now. -/
structure DoI (w : World) (h4 h6 g7 base : Nat) (q q' : Sp) (s sk : St) (wk : World) : Prop where
  box : wk.heap[h4]? = some (.cells (q.cs s) 148 (0, 0))
  res : wk.heap[h6]? = some (.cells zSt 148 (0, 0))
  cur : wk.heap[g7]? = some (.cells (q'.cs s) 148 (0, 0))
  own : OwS wk base q' sk
  below : Below w.heap.size w wk
  wb : w.heap.size ≤ base
  bw : base ≤ wk.heap.size
section
variable {w wk wk' : World} {h4 h6 g7 base : Nat} {q q' : Sp} {s sk : St}
theorem OwS.below {w w' : World} {base : Nat} {q : Sp} {s : St} (h : OwS w base q s) (hb : Below w.heap.size w w') : OwS w' base q s := by
  obtain ⟨top, h1, h2, h3, h4, h5⟩ := h.buf
  exact ⟨own_below h.pc hb, own_below h.regs hb, own_below h.mem hb, h.d01, h.d02, h.d12, top, h1, h2, h3, h4, (h5.below hb).up hb.size⟩
theorem DoI.later (h : DoI w h4 h6 g7 base q q' s sk wk) (hb : Below wk.heap.size wk wk') : DoI w h4 h6 g7 base q q' s sk wk' := by
  have lt : ∀ {k : Nat} {o : Obj}, wk.heap[k]? = some o → wk'.heap[k]? = some o := fun {k o} hk => by rw [hb.block k (Array.getElem?_eq_some_iff.1 hk).1]; exact hk
  have := h.below.size
  exact ⟨lt h.box, lt h.res, lt h.cur, h.own.below hb, h.below.trans (hb.mono (by omega)), h.wb, Nat.le_trans h.bw hb.size⟩
theorem OwL.set {ls : List (List Int)} (h : OwL wk base wk.heap.size q.a3 q.c3 ls) {g j : Nat} {v : Value} (hg : g < base) : OwL (wk.setCell ⟨g, j, none⟩ v) base (wk.setCell ⟨g, j, none⟩ v).heap.size q.a3 q.c3 ls := by
  have := h.keeps (Keeps.setCell wk ⟨g, j, none⟩ v) (fun b hb _ e => by simp at e; omega)
  simpa [World.setCell] using this
theorem heap_set {k g j : Nat} {v : Value} {a : Array Value} {t : TypeId} {f : Nat × Nat} (hk : wk.heap[k]? = some (.cells a t f)) (hne : k ≠ g) : (wk.setCell ⟨g, j, none⟩ v).heap[k]? = some (.cells a t f) := by
  rw [heap_setCell_other wk ⟨g, j, none⟩ k v (by simpa using hne)]; exact hk
theorem DoI.step (h : DoI w h4 h6 g7 base q q' s sk wk) {g j : Nat} {v : Value} (hg : ∃ n c cs, wk.ownsRow base 3 1 (.slice (some ⟨g, 0, none⟩) n c) n cs) {sk' : St} (ho : OwS (wk.setCell ⟨g, j, none⟩ v) base q' sk') : DoI w h4 h6 g7 base q q' s sk' (wk.setCell ⟨g, j, none⟩ v) := by
  obtain ⟨n, c, cs, hgo⟩ := hg
  have ne : ∀ {k : Nat} {a : Array Value}, wk.heap[k]? = some (.cells a 148 (0, 0)) → k ≠ g := fun hk e => by
    subst e
    have := own_type hgo hk
    exact absurd this (by decide)
  have hgb := own_blk hgo g rfl
  have hsz : (wk.setCell ⟨g, j, none⟩ v).heap.size = wk.heap.size := by simp [World.setCell]
  refine ⟨heap_set h.box (ne h.box), heap_set h.res (ne h.res), heap_set h.cur (ne h.cur), ho, h.below.setCell (show w.heap.size ≤ g by have := h.wb; omega) _, h.wb, by rw [hsz]; exact h.bw⟩
theorem DoI.drew (h : DoI w h4 h6 g7 base q q' s sk wk) : DoI w h4 h6 g7 base q q' s sk wk.drew := h.later (below_drewN 1 (Below.refl _ _))
/-- The cells of the state that came in, and of the copy. -/
theorem DoI.cells (h : DoI w h4 h6 g7 base q q' s sk wk) : (wk.cell? ⟨h4, 0, none⟩ = some (.slice q.a0 s.pc.length q.c0) ∧ wk.cell? ⟨h4, 1, none⟩ = some (.slice q.a1 s.regs.length q.c1) ∧ wk.cell? ⟨h4, 2, none⟩ = some (.slice q.a2 s.mem.length q.c2) ∧ wk.cell? ⟨h4, 3, none⟩ = some (.slice q.a3 s.buf.length q.c3)) ∧
    (wk.cell? ⟨g7, 0, none⟩ = some (.slice q'.a0 s.pc.length q'.c0) ∧ wk.cell? ⟨g7, 1, none⟩ = some (.slice q'.a1 s.regs.length q'.c1) ∧ wk.cell? ⟨g7, 2, none⟩ = some (.slice q'.a2 s.mem.length q'.c2) ∧ wk.cell? ⟨g7, 3, none⟩ = some (.slice q'.a3 s.buf.length q'.c3)) := by
  have e := fun (i : Nat) => cell_of_row wk h4 i _ _ _ h.box
  have f := fun (i : Nat) => cell_of_row wk g7 i _ _ _ h.cur
  exact ⟨⟨e 0, e 1, e 2, e 3⟩, ⟨f 0, f 1, f 2, f 3⟩⟩
theorem DoI.set0 (h : DoI w h4 h6 g7 base q q' s sk wk) {g : Nat} (hg : q'.a0 = some ⟨g, 0, none⟩) (t : Nat) (v : Int) : DoI w h4 h6 g7 base q q' s { sk with pc := sk.pc.set t v } (wk.setCell ⟨g, t, none⟩ (.int .i64 v)) := by
  have o := h.own
  obtain ⟨top, b1, b2, b3, b4, b5⟩ := o.buf
  have hgb : blk q'.a0 = some g := by rw [hg]; rfl
  have o0 := o.pc
  unfold OwI at o0
  rw [hg] at o0
  have k := Keeps.setCell wk ⟨g, t, none⟩ (.int .i64 v)
  refine h.step (g := g) ⟨_, _, _, o0⟩ ⟨?_, own_keeps o.regs k fun b hb e => o.d01 g hgb (by rw [hb, e]), own_keeps o.mem k fun b hb e => o.d02 g hgb (by rw [hb, e]), o.d01, o.d02, o.d12, top, b1, b2, b3, b4, b5.set (b2 g hgb)⟩
  have := (o0.stored t (.int .i64 v)).1
  rw [ints_set] at this
  unfold OwI
  rw [hg]
  simpa using this
theorem DoI.set1 (h : DoI w h4 h6 g7 base q q' s sk wk) {g : Nat} (hg : q'.a1 = some ⟨g, 0, none⟩) (t : Nat) (v : Int) : DoI w h4 h6 g7 base q q' s { sk with regs := sk.regs.set t v } (wk.setCell ⟨g, t, none⟩ (.int .i64 v)) := by
  have o := h.own
  obtain ⟨top, b1, b2, b3, b4, b5⟩ := o.buf
  have hgb : blk q'.a1 = some g := by rw [hg]; rfl
  have o0 := o.regs
  unfold OwI at o0
  rw [hg] at o0
  have k := Keeps.setCell wk ⟨g, t, none⟩ (.int .i64 v)
  refine h.step (g := g) ⟨_, _, _, o0⟩ ⟨own_keeps o.pc k fun b hb e => o.d01 b hb (by rw [hgb, e]), ?_, own_keeps o.mem k fun b hb e => o.d12 g hgb (by rw [hb, e]), o.d01, o.d02, o.d12, top, b1, b2, b3, b4, b5.set (b3 g hgb)⟩
  have := (o0.stored t (.int .i64 v)).1
  rw [ints_set] at this
  unfold OwI
  rw [hg]
  simpa using this
theorem DoI.set2 (h : DoI w h4 h6 g7 base q q' s sk wk) {g : Nat} (hg : q'.a2 = some ⟨g, 0, none⟩) (t : Nat) (v : Int) : DoI w h4 h6 g7 base q q' s { sk with mem := sk.mem.set t v } (wk.setCell ⟨g, t, none⟩ (.int .i64 v)) := by
  have o := h.own
  obtain ⟨top, b1, b2, b3, b4, b5⟩ := o.buf
  have hgb : blk q'.a2 = some g := by rw [hg]; rfl
  have o0 := o.mem
  unfold OwI at o0
  rw [hg] at o0
  have k := Keeps.setCell wk ⟨g, t, none⟩ (.int .i64 v)
  refine h.step (g := g) ⟨_, _, _, o0⟩ ⟨own_keeps o.pc k fun b hb e => o.d02 b hb (by rw [hgb, e]), own_keeps o.regs k fun b hb e => o.d12 b hb (by rw [hgb, e]), ?_, o.d01, o.d02, o.d12, top, b1, b2, b3, b4, b5.set (b4 g hgb)⟩
  have := (o0.stored t (.int .i64 v)).1
  rw [ints_set] at this
  unfold OwI
  rw [hg]
  simpa using this
theorem DoI.done (h : DoI w h4 h6 g7 base q q' s sk wk) (h1 : w.heap.size ≤ h6) (h2 : h6 < base) : Fresh (wk.setRow h6 (q'.cs s)) w.heap.size q' sk ∧ Below w.heap.size w (wk.setRow h6 (q'.cs s)) := by
  have k := keeps_setRow wk h6 (q'.cs s)
  exact ⟨(h.own.fresh.keeps k fun b hb e => by omega).down h.wb, Proofs.Ythlmfjoiicnomaa.Below.keeps h.below k h.below.size (fun x e => by omega)⟩
theorem DoI.one (q' : Sp) (s : St) : (q'.cs s).all (·.oneCell') = true := by simp [Value.oneCell']
end
end Go.Proofs.Ythlmfjoiicnomaa
namespace Go.Proofs.Ythlmfjoiicnomaa
open Go.RowKit
set_option linter.unusedVariables false
set_option linter.unusedSimpArgs false

/-- What a state's buffers may hold. -/
structure Small (s : St) : Prop where
  n : s.buf.length ≤ 1000
  len : ∀ xs ∈ s.buf, xs.length ≤ 1000
theorem good_small {p : Prg} {s : St} (h : Good p s) (hv : Shape p) : s.pc.length ≤ 3 ∧ s.regs.length ≤ 9 ∧ s.mem.length = 3 := by
  have := hv.len
  have := h.pcl
  have := h.regl
  exact ⟨by omega, by omega, h.meml⟩

set_option maxRecDepth 100000 in
set_option maxHeartbeats 3200000 in
theorem l3Do_c (w : World) (a : Option Addr) (cap : Nat) (p : Prg) (q : Sp) (s : St) (t : Nat) (hp : RdP w a p) (h : RdS w q s) (hv : Shape p) (hg : Good p s) (hs : Small s) (hgo : goes p s t = true) :
    Calls Try.prog 101 #[.slice a p.length cap, q.v s, .int .i64 t] w fun e w' => ∃ q' : Sp, e = .returned (q'.v (do3 p s t)) ∧ Fresh w' w.heap.size q' (do3 p s t) ∧ Below w.heap.size w w' := by
  obtain ⟨z0, z1, z2⟩ := good_small hg hv
  have HCOPY := hid (fun w (h : RdS w q s) => l3Copy_c w q s h (by omega) (by omega) (by omega) hs.n hs.len)
  obtain ⟨xs, k, x, hxs, hk, hx, hiv, hnx, hk7⟩ := hg.next hv hgo
  have HRD := hid h
  have HRP := hid hp
  obtain ⟨ln, hln, hl2⟩ := valid_loc hiv
  obtain ⟨rn, hrn, hr2⟩ := valid_reg hiv
  obtain ⟨op, loc, reg, val⟩ := x
  have hln : loc = ln := hln
  have hrn : reg = rn := hrn
  subst hln
  subst hrn
  obtain ⟨a0, c0, a1, c1, a2, c2, a3, c3⟩ := q
  have hpc := hg.pcl
  have htp : t < p.length := (List.getElem?_eq_some_iff.1 hxs).1
  obtain ⟨n, hn⟩ : ∃ n, n = p.length := ⟨_, rfl⟩
  rw [← hn] at htp hpc ⊢
  have HE := hid (And.intro hn (And.intro hpc (And.intro hxs (And.intro hk (And.intro hx hnx)))))
  have HZ := hid (And.intro z0 (And.intro z1 z2))
  clear hn hpc hxs hk hx hnx z0 z1 z2
  unfold Sp.v at HCOPY ⊢
  dsimp only at HCOPY ⊢
  clear h hp
  go_enter Try.func101, Try.ntmps101
  go_wp2_with fail
  refine (HCOPY.out _ ?_).mono ?_
  · exact HRD.out.below (((Below.refl w.heap.size w).alloc (Nat.le_refl _) _).alloc (by simp) _)
  rintro e w1 ⟨q', rfl, hown, hb1⟩
  obtain ⟨g0, hg0, _, l0⟩ := own_some hown.pc (by rw [HE.out.2.1]; omega)
  obtain ⟨g1, hg1, _, l1⟩ := own_some hown.regs (by rw [hg.regl]; have := HE.out.1; omega)
  obtain ⟨g2, hg2, _, l2⟩ := own_some hown.mem (by rw [hg.meml]; omega)
  obtain ⟨e0, d0, e1, d1, e2, d2, e3, d3⟩ := q'
  have hg0 : e0 = some ⟨g0, 0, none⟩ := hg0
  have hg1 : e1 = some ⟨g1, 0, none⟩ := hg1
  have hg2 : e2 = some ⟨g2, 0, none⟩ := hg2
  subst hg0
  subst hg1
  subst hg2
  obtain ⟨w0, hw0⟩ : ∃ w0, w0 = (w.alloc (.cells #[.slice a0 s.pc.length c0, .slice a1 s.regs.length c1, .slice a2 s.mem.length c2, .slice a3 s.buf.length c3] 148)).alloc (.cells zSt 148) := ⟨_, rfl⟩
  rw [← hw0] at hown hb1
  have HOWN := hid hown
  have HB1 := hid hb1
  clear hown hb1
  go_wp2_with fail
  have hs0 : w0.heap.size = w.heap.size + 2 := by rw [hw0]; simp
  have hb0 : Below w.heap.size w w0 := by rw [hw0]; exact ((Below.refl _ _).alloc (Nat.le_refl _) _).alloc (by simp) _
  have hbox0 : w0.heap[w.heap.size]? = some (.cells #[.slice a0 s.pc.length c0, .slice a1 s.regs.length c1, .slice a2 s.mem.length c2, .slice a3 s.buf.length c3] 148 (0, 0)) := by
    rw [hw0, heap_alloc_old _ _ (by simp)]
    exact heap_alloc_new w _
  have hres0 : w0.heap[w.heap.size + 1]? = some (.cells zSt 148 (0, 0)) := by
    rw [hw0]
    have := heap_alloc_new (w.alloc (.cells #[.slice a0 s.pc.length c0, .slice a1 s.regs.length c1, .slice a2 s.mem.length c2, .slice a3 s.buf.length c3] 148)) (.cells zSt 148)
    simpa using this
  have hs1 := HB1.out.size
  have hba := (Below.refl w1.heap.size w1).alloc (Nat.le_refl _) (.cells #[.slice (some ⟨g0, 0, none⟩) s.pc.length d0, .slice (some ⟨g1, 0, none⟩) s.regs.length d1, .slice (some ⟨g2, 0, none⟩) s.mem.length d2, .slice e3 s.buf.length d3] 148)
  have D2 : DoI w w.heap.size (w.heap.size + 1) w1.heap.size w0.heap.size ⟨a0, c0, a1, c1, a2, c2, a3, c3⟩ ⟨some ⟨g0, 0, none⟩, d0, some ⟨g1, 0, none⟩, d1, some ⟨g2, 0, none⟩, d2, e3, d3⟩ s s (w1.alloc (.cells #[.slice (some ⟨g0, 0, none⟩) s.pc.length d0, .slice (some ⟨g1, 0, none⟩) s.regs.length d1, .slice (some ⟨g2, 0, none⟩) s.mem.length d2, .slice e3 s.buf.length d3] 148)) :=
    ⟨(hba.block _ (by omega)).trans ((HB1.out.block _ (by omega)).trans hbox0), (hba.block _ (by omega)).trans ((HB1.out.block _ (by omega)).trans hres0), heap_alloc_new w1 _, HOWN.out.below hba, (hb0.trans (HB1.out.mono (by omega))).trans (hba.mono (by omega)), by omega, by simp; omega⟩
  obtain ⟨w2, hw2⟩ : ∃ w2, w2 = w1.alloc (.cells #[.slice (some ⟨g0, 0, none⟩) s.pc.length d0, .slice (some ⟨g1, 0, none⟩) s.regs.length d1, .slice (some ⟨g2, 0, none⟩) s.mem.length d2, .slice e3 s.buf.length d3] 148) := ⟨_, rfl⟩
  rw [← hw2] at D2 ⊢
  have HD2 := hid D2
  have hs2 : w2.heap.size = w1.heap.size + 1 := by rw [hw2]; simp
  clear D2 hba hbox0 hres0 hb0 HOWN HB1 hw2 hw0
  -- what is read of the program and of the state
  obtain ⟨pb, po, r, rc, xs', hpa, hplt, hpx, hpc, hpr, hpl⟩ := HRP.out.at' t (by rw [← HE.out.1]; exact htp)
  obtain rfl : xs = xs' := by have := HE.out.2.2.1; rw [this] at hpx; exact Option.some.inj hpx
  subst hpa
  obtain ⟨rb, ro, x', hra, hrlt, hrx, hins⟩ := hpr.ins k (List.getElem?_eq_some_iff.1 HE.out.2.2.2.2.1).1
  obtain rfl : (⟨op, ln, rn, val⟩ : Ins) = x' := by have := HE.out.2.2.2.2.1; rw [this] at hrx; exact Option.some.inj hrx
  subst hra
  obtain ⟨sb, so, hsa, hslt, hsc⟩ := HRD.out.pc.int t (by rw [HE.out.2.1]; exact htp)
  have hsa : a0 = some ⟨sb, so, none⟩ := hsa
  subst hsa
  have hk0 : s.pc[t]'(by rw [HE.out.2.1]; exact htp) = (k : Int) := (List.getElem?_eq_some_iff.1 HE.out.2.2.2.1).2
  rw [hk0] at hsc
  have HSC := hid hsc
  obtain ⟨m, hm⟩ : ∃ m, m = xs.length := ⟨_, rfl⟩
  have hkm : k < m := by rw [hm]; exact (List.getElem?_eq_some_iff.1 HE.out.2.2.2.2.1).1
  rw [← hm] at hpc
  have htq : t < s.pc.length := by rw [HE.out.2.1]; exact htp
  obtain ⟨J, hJ⟩ : ∃ J : World → Prop, J = fun w' => Below w2.heap.size w2 w' := ⟨_, rfl⟩
  have HJ := hid (fun w' (h : Below w2.heap.size w2 w') => show J w' by rw [hJ]; exact h)
  have HC := hid (fun w' (h : J w') => show w'.cell? ⟨pb, po + t, none⟩ = some (.slice (some ⟨rb, ro, none⟩) m rc) ∧ w'.cell? ⟨sb, so + t, none⟩ = some (.int .i64 k) ∧ w'.cell? ⟨w.heap.size, 0, none⟩ = some (.slice (some ⟨sb, so, none⟩) s.pc.length c0) ∧ (w'.cell? ⟨rb, ro + k * 4, none⟩ = some (.int .i64 op) ∧ w'.cell? ⟨rb, ro + k * 4 + 1, none⟩ = some (.int .i64 ln) ∧ w'.cell? ⟨rb, ro + k * 4 + 2, none⟩ = some (.int .i64 rn) ∧ w'.cell? ⟨rb, ro + k * 4 + 3, none⟩ = some (.int .i64 val)) from by
    rw [hJ] at h
    have hb : Below w.heap.size w w' := HD2.out.below.trans (h.mono (by omega))
    refine ⟨(hb.cell (p := ⟨pb, po + t, none⟩) hplt).trans hpc, (hb.cell (p := ⟨sb, so + t, none⟩) hslt).trans hsc, ?_, hins.below hb hrlt⟩
    rw [cell_of_row w' w.heap.size 0 _ _ _ ((h.block _ (by omega)).trans HD2.out.box)]
    rfl)
  have hJ0 : J w2.drew := HJ.out _ (below_drewN 1 (Below.refl _ _))
  clear hJ hins hpr hpc hsc hk0 hpx hrx hpl hm
  refine MJ.wp_region_mix (J := J) (by kernel_rfl) (by kernel_rfl) ?_
  repeat (first | (refine MJ.wpMix_pure rfl rfl (fun K hK => ?_); go_simp; (first | refine hK _ ?_ | refine ⟨_, fun W hW => rfl, hK _ ?_⟩ | refine ⟨_, fun W hW => ⟨rfl, rfl⟩, hK _ ?_⟩); clear hK K) | (refine MJ.wpMix_held rfl rfl (by assumption) (fun K hK => ?_); go_simp; apply Exists.intro; refine And.intro (fun W hW => ?_) (hK _ ?_); (focus (have hcs := HC.out W hW; go_simp; try rfl)); clear hK K))
  have hJ1 : J ((w2.alloc (.cells #[.int .i64 0, .int .i64 0, .int .i64 0, .int .i64 0] 70)).drew) := HJ.out _ (below_drewN 1 ((Below.refl _ _).alloc (Nat.le_refl _) _))
  (with_reducible refine MJ.wpMix_make rfl rfl (fun K hK => ?_); go_simp)
  refine hK _ _ (by assumption) ?_
  clear hK K
  (with_reducible refine MJ.wpMix_act rfl rfl rfl (fun K hK => ?_); go_simp)
  refine hK _ _ ?_
  clear hK K
  refine MJ.wpMix_nil ?_
  have hb3 : Below w2.heap.size w2 (w2.alloc (.cells #[.int .i64 op, .int .i64 ln, .int .i64 rn, .int .i64 val] 70)).drew := below_drewN 1 ((Below.refl _ _).alloc (Nat.le_refl _) _)
  have hx3 : Box (w2.alloc (.cells #[.int .i64 op, .int .i64 ln, .int .i64 rn, .int .i64 val] 70)).drew w2.heap.size ⟨op, ln, rn, val⟩ := Box.new w2 ⟨op, ln, rn, val⟩ _
  obtain ⟨w3, hw3⟩ : ∃ w3, w3 = (w2.alloc (.cells #[.int .i64 op, .int .i64 ln, .int .i64 rn, .int .i64 val] 70)).drew := ⟨_, rfl⟩
  rw [← hw3] at hb3 hx3 ⊢
  have HD3 := hid (HD2.out.later hb3)
  rw [hs2] at hx3
  have hs3 : w3.heap.size = w1.heap.size + 2 := by rw [hw3]; simp; omega
  have HX3 := hid hx3
  clear hb3 hx3 hw3 HJ HC hJ0 hJ1
  -- 'out.at[t] = s.at[t] + 1'
  have c3 := HD3.out.cells
  have s3 := (HD3.out.below.cell (p := ⟨sb, so + t, none⟩) hslt).trans HSC.out
  obtain ⟨z3, o3c, o3f⟩ := own_intAt HD3.out.own.pc t htq
  dsimp only at c3
  go_wp2_with fail
  refine wp_region_mix (by kernel_rfl) (by kernel_rfl) ?_
  repeat (with_reducible refine wpMix_rd rfl rfl (fun K hK => ?_); go_simp; (try go_bits); refine hK _ ?_; clear hK K)
  (with_reducible refine wpMix_act (o := ⟨_, .store _ _ _, _, _, _, _⟩) rfl rfl (fun K hK => ?_))
  go_simp
  refine hK _ _ ?_
  clear hK K
  have HD4 := hid (DoI.drew (HD3.out.set0 rfl t ((k : Int) + 1)))
  have HX4 := hid (Box.drew (HX3.out.set (g := g0) (j := t) (v := .int .i64 ((k : Int) + 1)) (by omega)))
  obtain ⟨w4, hw4⟩ : ∃ w4, w4 = (w3.setCell ⟨g0, t, none⟩ (.int .i64 ((k : Int) + 1))).drew := ⟨_, rfl⟩
  rw [← hw4] at HD4 HX4 ⊢
  have hs4 : w4.heap.size = w1.heap.size + 2 := by rw [hw4]; simpa [World.setCell] using hs3
  clear c3 s3 o3c o3f HD3 HX3 hw4
  obtain ⟨mb, mo, hmb, hmlt, hmc⟩ := HRD.out.mem.int ln (by rw [hg.meml]; omega)
  have hmb : a2 = some ⟨mb, mo, none⟩ := hmb
  subst hmb
  have HMC := hid hmc
  have hlm : ln < s.mem.length := by rw [hg.meml]; omega
  obtain ⟨mv, hmv⟩ : ∃ mv, mv = s.mem[ln]'hlm := ⟨_, rfl⟩
  rw [← hmv] at HMC
  obtain ⟨i, hi⟩ : ∃ i, i = t * 3 + rn := ⟨_, rfl⟩
  have hn3 : n ≤ 3 := by have := hv.len; have := HE.out.1; omega
  have hir : i < s.regs.length := by rw [hg.regl, ← HE.out.1]; omega
  have HREG := hid (fun w (h1 : t ≤ 1000000) (h2 : rn ≤ 1000000) => l3Reg_c w t rn i hi h1 h2)
  have HRE := hid (fun w => l1Reads_c w ⟨op, ln, rn, val⟩)
  have HWR := hid (fun w => l1Writes_c w ⟨op, ln, rn, val⟩)
  have HVA := hid (fun w (h : RdS w ⟨some ⟨sb, so, none⟩, c0, a1, c1, some ⟨mb, mo, none⟩, c2, a3, c3⟩ s) => l3Value_c w _ s t ⟨op, ln, rn, val⟩ h hiv (by rw [hg.regl]; have := HE.out.1; omega) (by have := HZ.out.2.1; omega))
  obtain ⟨wv, hwv⟩ : ∃ wv, wv = wval s t ⟨op, ln, rn, val⟩ := ⟨_, rfl⟩
  rw [← hwv] at HVA
  have HDO := hid (show do3 p s t = { pc := s.pc.set t ((k : Int) + 1), regs := if insReads ⟨op, ln, rn, val⟩ then s.regs.set i mv else s.regs, mem := if insWrites ⟨op, ln, rn, val⟩ then s.mem.set ln wv else s.mem, buf := s.buf } from by
    unfold do3
    rw [HE.out.2.2.2.2.2, hwv, hi, hmv]
    simp [List.getD_eq_getElem?_getD, HE.out.2.2.2.1, hlm])
  clear hmc hmv hi hwv hiv hg hs hgo hv
  unfold Sp.v at HVA
  dsimp only at HVA
  (with_reducible refine wpMix_nil ?_)
  have x4 := Box.four HX4.out
  go_wp2_with fail
  refine (HRE.out _).mono ?_
  rintro e w5 ⟨rfl, hb5⟩
  have HD5 := hid (HD4.out.later hb5)
  have HX5 := hid (HX4.out.below hb5 (by omega))
  have hs5 := hb5.size
  clear HD4 HX4 hb5 x4
  by_cases hre : insReads ⟨op, ln, rn, val⟩ = true
  · rw [hre]
    rw [hre, if_pos rfl] at HDO
    have c5 := HD5.out.cells
    dsimp only at c5
    have x5 := Box.four HX5.out
    have m5 := (HD5.out.below.cell (p := ⟨mb, mo + ln, none⟩) hmlt).trans HMC.out
    obtain ⟨z5, o5c, o5f⟩ := own_intAt HD5.out.own.regs i (by have := hir; simpa using this)
    go_wp2_with fail
    refine MQ.wp_region_mix (q := [87]) (by kernel_rfl) (by kernel_rfl) ?_
    repeat (with_reducible refine MQ.wpMix_rd rfl rfl rfl (fun K hK => ?_); go_simp; (try go_bits); refine hK _ ?_; clear hK K)
    refine MQ.wpMix_call rfl 87 _ _ rfl rfl #[.int .i64 t, .int .i64 rn] (by simp [Act.eval]) (callReg _ _) _ (HREG.out _ (by omega) (by omega)) ?_
    repeat (with_reducible refine MQ.wpMix_rd rfl rfl rfl (fun K hK => ?_); go_simp; (try go_bits); refine hK _ ?_; clear hK K)
    (with_reducible refine MQ.wpMix_act (o := ⟨_, .store _ _ _, _, _, _, _⟩) rfl rfl (fun K hK => ?_))
    go_simp
    refine hK _ _ ?_
    clear hK K
    have HD6 := hid (DoI.drew (HD5.out.set1 rfl i mv))
    have HX6 := hid (Box.drew (HX5.out.set (g := g1) (j := i) (v := .int .i64 mv) (by omega)))
    obtain ⟨w6, hw6⟩ : ∃ w6, w6 = (w5.setCell ⟨g1, i, none⟩ (.int .i64 mv)).drew := ⟨_, rfl⟩
    rw [← hw6] at HD6 HX6 ⊢
    have hs6 : w5.heap.size ≤ w6.heap.size := by rw [hw6]; simp [World.setCell]
    clear c5 m5 o5c o5f HD5 HX5 hw6 x5
    (with_reducible refine MQ.wpMix_nil ?_)
    have x6 := Box.four HX6.out
    go_wp2_with fail
    refine (HWR.out _).mono ?_
    rintro e w7 ⟨rfl, hb7⟩
    have HD7 := hid (HD6.out.later hb7)
    have HX7 := hid (HX6.out.below hb7 (by omega))
    have hs7 := hb7.size
    clear HD6 HX6 hb7 x6
    by_cases hwr : insWrites ⟨op, ln, rn, val⟩ = true
    · rw [hwr]
      rw [hwr, if_pos rfl] at HDO
      have c7 := HD7.out.cells
      dsimp only at c7
      have x7 := Box.four HX7.out
      obtain ⟨z7, o7c, o7f⟩ := own_intAt HD7.out.own.mem ln (by have := hlm; simpa using this)
      obtain ⟨J, hJ⟩ : ∃ J : World → Prop, J = fun w' => Below w7.heap.size w7 w' := ⟨_, rfl⟩
      have HJ := hid (fun w' (h : Below w7.heap.size w7 w') => show J w' by rw [hJ]; exact h)
      have HC := hid (fun w' (h : J w') => show (w'.cell? ⟨w1.heap.size, 2, none⟩ = some (.slice (some ⟨g2, 0, none⟩) s.mem.length d2)) ∧ (w'.cell? ⟨w.heap.size, 0, none⟩ = some (.slice (some ⟨sb, so, none⟩) s.pc.length c0) ∧ w'.cell? ⟨w.heap.size, 1, none⟩ = some (.slice a1 s.regs.length c1) ∧ w'.cell? ⟨w.heap.size, 2, none⟩ = some (.slice (some ⟨mb, mo, none⟩) s.mem.length c2) ∧ w'.cell? ⟨w.heap.size, 3, none⟩ = some (.slice a3 s.buf.length c3)) ∧ (w'.cell? ⟨w1.heap.size + 1, 0, none⟩ = some (.int .i64 op) ∧ w'.cell? ⟨w1.heap.size + 1, 1, none⟩ = some (.int .i64 ln) ∧ w'.cell? ⟨w1.heap.size + 1, 2, none⟩ = some (.int .i64 rn) ∧ w'.cell? ⟨w1.heap.size + 1, 3, none⟩ = some (.int .i64 val)) from by
        rw [hJ] at h
        have d := (HD7.out.later h).cells
        exact ⟨d.2.2.2.1, d.1, HX7.out.below h (by omega)⟩)
      have hJ0 : J w7.drew := HJ.out _ (below_drewN 1 (Below.refl _ _))
      clear hJ c7 x7
      go_wp2_with fail
      refine MJ.wp_region_mix (J := J) (by kernel_rfl) (by kernel_rfl) ?_
      repeat (first | (refine MJ.wpMix_pure rfl rfl (fun K hK => ?_); go_simp; (first | refine hK _ ?_ | refine ⟨_, fun W hW => rfl, hK _ ?_⟩ | refine ⟨_, fun W hW => ⟨rfl, rfl⟩, hK _ ?_⟩); clear hK K) | (refine MJ.wpMix_held rfl rfl (by assumption) (fun K hK => ?_); go_simp; apply Exists.intro; refine And.intro (fun W hW => ?_) (hK _ ?_); (focus (have hcs := HC.out W hW; go_simp; try rfl)); clear hK K))
      (with_reducible refine MJ.wpMix_make rfl rfl (fun K hK => ?_); go_simp)
      refine (HVA.out _ ?_).mono ?_
      · exact (HRD.out.below HD7.out.below).below (below_drewN 1 (Below.refl _ _))
      rintro e w8 ⟨rfl, hb8⟩
      have hJ8 : J w8 := HJ.out _ (below_drewN 1 (Below.refl _ _) |>.trans hb8)
      have HD8 := hid (HD7.out.drew.later hb8)
      have o8c := (hb8.cell (p := ⟨g2, ln, none⟩) (by show g2 < w7.heap.size; omega)).trans o7c
      have o8f : w8.frozen? ⟨g2, ln, none⟩ = false := HD8.out.own.mem.frozenAt ln
      clear o7c o7f hb8 hJ0
      refine hK _ _ hJ8 ?_
      clear hK K
      repeat (first | (refine MJ.wpMix_pure rfl rfl (fun K hK => ?_); go_simp; (first | refine hK _ ?_ | refine ⟨_, fun W hW => rfl, hK _ ?_⟩ | refine ⟨_, fun W hW => ⟨rfl, rfl⟩, hK _ ?_⟩); clear hK K) | (refine MJ.wpMix_held rfl rfl (by assumption) (fun K hK => ?_); go_simp; apply Exists.intro; refine And.intro (fun W hW => ?_) (hK _ ?_); (focus (have hcs := HC.out W hW; go_simp; try rfl)); clear hK K))
      (with_reducible refine MJ.wpMix_act rfl rfl rfl (fun K hK => ?_); go_simp)
      refine hK _ _ ?_
      clear hK K
      refine MJ.wpMix_nil ?_
      have HD9 := hid (HD8.out.set2 rfl ln wv)
      obtain ⟨w9, hw9⟩ : ∃ w9, w9 = w8.setCell ⟨g2, ln, none⟩ (.int .i64 wv) := ⟨_, rfl⟩
      rw [← hw9] at HD9 ⊢
      clear o8c o8f HD8 HX7 HJ HC hJ8 hw9
      go_wp2_with (first | (refine wpList_load_row rfl 148 (.tmp 7) rfl w1.heap.size rfl 148 _ (0, 0) _ HD9.out.cur Try.underlying148 rfl (by kernel_rfl) ?_) | (refine wpList_store_row rfl 148 (.tmp 6) (.tmp 58) rfl (w.heap.size + 1) _ rfl rfl 148 zSt HD9.out.res (by kernel_rfl) rfl (DoI.one _ _) ?_))
      have hD := HD9.out.done (by omega) (by omega)
      rw [HDO.out]
      refine bodyPost_ret (results_cell_row rfl _ _ (w.heap.size + 1) 148 _ (0, 0) _ rfl (setRow_heap _ _ _ _ _ _ HD9.out.res) Try.underlying148 rfl (by kernel_rfl)) rfl ⟨_, ?_, hD⟩
      simp
    · have hwr : insWrites ⟨op, ln, rn, val⟩ = false := by simpa using hwr
      rw [hwr]
      rw [hwr, if_neg (by decide)] at HDO
      have HD9 := HD7
      obtain ⟨w9, hw9⟩ : ∃ w9, w9 = w7 := ⟨_, rfl⟩
      rw [← hw9] at HD9 ⊢
      clear HD7 HX7 hw9
      go_wp2_with (first | (refine wpList_load_row rfl 148 (.tmp 7) rfl w1.heap.size rfl 148 _ (0, 0) _ HD9.out.cur Try.underlying148 rfl (by kernel_rfl) ?_) | (refine wpList_store_row rfl 148 (.tmp 6) (.tmp 58) rfl (w.heap.size + 1) _ rfl rfl 148 zSt HD9.out.res (by kernel_rfl) rfl (DoI.one _ _) ?_))
      have hD := HD9.out.done (by omega) (by omega)
      rw [HDO.out]
      refine bodyPost_ret (results_cell_row rfl _ _ (w.heap.size + 1) 148 _ (0, 0) _ rfl (setRow_heap _ _ _ _ _ _ HD9.out.res) Try.underlying148 rfl (by kernel_rfl)) rfl ⟨_, ?_, hD⟩
      simp
  · have hre : insReads ⟨op, ln, rn, val⟩ = false := by simpa using hre
    rw [hre]
    rw [hre, if_neg (by decide)] at HDO
    have x6 := Box.four HX5.out
    go_wp2_with fail
    refine (HWR.out _).mono ?_
    rintro e w7 ⟨rfl, hb7⟩
    have HD7 := hid (HD5.out.later hb7)
    have HX7 := hid (HX5.out.below hb7 (by omega))
    have hs7 := hb7.size
    clear HD5 HX5 hb7 x6
    by_cases hwr : insWrites ⟨op, ln, rn, val⟩ = true
    · rw [hwr]
      rw [hwr, if_pos rfl] at HDO
      have c7 := HD7.out.cells
      dsimp only at c7
      have x7 := Box.four HX7.out
      obtain ⟨z7, o7c, o7f⟩ := own_intAt HD7.out.own.mem ln (by have := hlm; simpa using this)
      obtain ⟨J, hJ⟩ : ∃ J : World → Prop, J = fun w' => Below w7.heap.size w7 w' := ⟨_, rfl⟩
      have HJ := hid (fun w' (h : Below w7.heap.size w7 w') => show J w' by rw [hJ]; exact h)
      have HC := hid (fun w' (h : J w') => show (w'.cell? ⟨w1.heap.size, 2, none⟩ = some (.slice (some ⟨g2, 0, none⟩) s.mem.length d2)) ∧ (w'.cell? ⟨w.heap.size, 0, none⟩ = some (.slice (some ⟨sb, so, none⟩) s.pc.length c0) ∧ w'.cell? ⟨w.heap.size, 1, none⟩ = some (.slice a1 s.regs.length c1) ∧ w'.cell? ⟨w.heap.size, 2, none⟩ = some (.slice (some ⟨mb, mo, none⟩) s.mem.length c2) ∧ w'.cell? ⟨w.heap.size, 3, none⟩ = some (.slice a3 s.buf.length c3)) ∧ (w'.cell? ⟨w1.heap.size + 1, 0, none⟩ = some (.int .i64 op) ∧ w'.cell? ⟨w1.heap.size + 1, 1, none⟩ = some (.int .i64 ln) ∧ w'.cell? ⟨w1.heap.size + 1, 2, none⟩ = some (.int .i64 rn) ∧ w'.cell? ⟨w1.heap.size + 1, 3, none⟩ = some (.int .i64 val)) from by
        rw [hJ] at h
        have d := (HD7.out.later h).cells
        exact ⟨d.2.2.2.1, d.1, HX7.out.below h (by omega)⟩)
      have hJ0 : J w7.drew := HJ.out _ (below_drewN 1 (Below.refl _ _))
      clear hJ c7 x7
      go_wp2_with fail
      refine MJ.wp_region_mix (J := J) (by kernel_rfl) (by kernel_rfl) ?_
      repeat (first | (refine MJ.wpMix_pure rfl rfl (fun K hK => ?_); go_simp; (first | refine hK _ ?_ | refine ⟨_, fun W hW => rfl, hK _ ?_⟩ | refine ⟨_, fun W hW => ⟨rfl, rfl⟩, hK _ ?_⟩); clear hK K) | (refine MJ.wpMix_held rfl rfl (by assumption) (fun K hK => ?_); go_simp; apply Exists.intro; refine And.intro (fun W hW => ?_) (hK _ ?_); (focus (have hcs := HC.out W hW; go_simp; try rfl)); clear hK K))
      (with_reducible refine MJ.wpMix_make rfl rfl (fun K hK => ?_); go_simp)
      refine (HVA.out _ ?_).mono ?_
      · exact (HRD.out.below HD7.out.below).below (below_drewN 1 (Below.refl _ _))
      rintro e w8 ⟨rfl, hb8⟩
      have hJ8 : J w8 := HJ.out _ (below_drewN 1 (Below.refl _ _) |>.trans hb8)
      have HD8 := hid (HD7.out.drew.later hb8)
      have o8c := (hb8.cell (p := ⟨g2, ln, none⟩) (by show g2 < w7.heap.size; omega)).trans o7c
      have o8f : w8.frozen? ⟨g2, ln, none⟩ = false := HD8.out.own.mem.frozenAt ln
      clear o7c o7f hb8 hJ0
      refine hK _ _ hJ8 ?_
      clear hK K
      repeat (first | (refine MJ.wpMix_pure rfl rfl (fun K hK => ?_); go_simp; (first | refine hK _ ?_ | refine ⟨_, fun W hW => rfl, hK _ ?_⟩ | refine ⟨_, fun W hW => ⟨rfl, rfl⟩, hK _ ?_⟩); clear hK K) | (refine MJ.wpMix_held rfl rfl (by assumption) (fun K hK => ?_); go_simp; apply Exists.intro; refine And.intro (fun W hW => ?_) (hK _ ?_); (focus (have hcs := HC.out W hW; go_simp; try rfl)); clear hK K))
      (with_reducible refine MJ.wpMix_act rfl rfl rfl (fun K hK => ?_); go_simp)
      refine hK _ _ ?_
      clear hK K
      refine MJ.wpMix_nil ?_
      have HD9 := hid (HD8.out.set2 rfl ln wv)
      obtain ⟨w9, hw9⟩ : ∃ w9, w9 = w8.setCell ⟨g2, ln, none⟩ (.int .i64 wv) := ⟨_, rfl⟩
      rw [← hw9] at HD9 ⊢
      clear o8c o8f HD8 HX7 HJ HC hJ8 hw9
      go_wp2_with (first | (refine wpList_load_row rfl 148 (.tmp 7) rfl w1.heap.size rfl 148 _ (0, 0) _ HD9.out.cur Try.underlying148 rfl (by kernel_rfl) ?_) | (refine wpList_store_row rfl 148 (.tmp 6) (.tmp 58) rfl (w.heap.size + 1) _ rfl rfl 148 zSt HD9.out.res (by kernel_rfl) rfl (DoI.one _ _) ?_))
      have hD := HD9.out.done (by omega) (by omega)
      rw [HDO.out]
      refine bodyPost_ret (results_cell_row rfl _ _ (w.heap.size + 1) 148 _ (0, 0) _ rfl (setRow_heap _ _ _ _ _ _ HD9.out.res) Try.underlying148 rfl (by kernel_rfl)) rfl ⟨_, ?_, hD⟩
      simp
    · have hwr : insWrites ⟨op, ln, rn, val⟩ = false := by simpa using hwr
      rw [hwr]
      rw [hwr, if_neg (by decide)] at HDO
      have HD9 := HD7
      obtain ⟨w9, hw9⟩ : ∃ w9, w9 = w7 := ⟨_, rfl⟩
      rw [← hw9] at HD9 ⊢
      clear HD7 HX7 hw9
      go_wp2_with (first | (refine wpList_load_row rfl 148 (.tmp 7) rfl w1.heap.size rfl 148 _ (0, 0) _ HD9.out.cur Try.underlying148 rfl (by kernel_rfl) ?_) | (refine wpList_store_row rfl 148 (.tmp 6) (.tmp 58) rfl (w.heap.size + 1) _ rfl rfl 148 zSt HD9.out.res (by kernel_rfl) rfl (DoI.one _ _) ?_))
      have hD := HD9.out.done (by omega) (by omega)
      rw [HDO.out]
      refine bodyPost_ret (results_cell_row rfl _ _ (w.heap.size + 1) 148 _ (0, 0) _ rfl (setRow_heap _ _ _ _ _ _ HD9.out.res) Try.underlying148 rfl (by kernel_rfl)) rfl ⟨_, ?_, hD⟩
      simp
end Go.Proofs.Ythlmfjoiicnomaa
namespace Go.Proofs.Ythlmfjoiicnomaa
open Go.RowKit
set_option linter.unusedVariables false
set_option linter.unusedSimpArgs false

/-- The first m acts of A have been carried out, and R m holds; J holds all along. -/
def ChI (A : List Nat) (R : Nat → (Nat → Value) → World → Prop) (J : World → Prop) (S : Nat → Bool) (ρ : Nat → Value) (w : World) : Prop :=
  J w ∧ ∃ m, m ≤ A.length ∧ (∀ j, S j = true ↔ j ∈ A.take m) ∧ R m ρ w
theorem nodup_lt {A : List Nat} (hn : A.Nodup) {i j : Nat} (hij : i < j) (hj : j < A.length) (e : A[i] = A[j]) : False :=
  (List.pairwise_iff_getElem.1 hn) i j (by omega) hj hij e
section
variable {A : List Nat} {R : Nat → (Nat → Value) → World → Prop} {J : World → Prop} {S : Nat → Bool} {ρ : Nat → Value} {w w' : World}
theorem ChI.start (hJ : J w) (h : R 0 ρ w) : ChI A R J (fun _ => false) ρ w :=
  ⟨hJ, 0, Nat.zero_le _, fun j => by simp, h⟩
theorem ChI.j (h : ChI A R J S ρ w) : J w := h.1
theorem ChI.place (h : ChI A R J S ρ w) (hn : A.Nodup) {i k : Nat} (hk : A[i]? = some k) (hS : S k = false) (hp : ∀ j ∈ A.take i, S j = true) : (∀ j, S j = true ↔ j ∈ A.take i) ∧ R i ρ w := by
  obtain ⟨_, m, hm, hs, hr⟩ := h
  obtain ⟨hi, hki⟩ := List.getElem?_eq_some_iff.1 hk
  have h1 : m ≤ i := by
    by_cases hlt : i < m
    · exfalso
      have : k ∈ A.take m := by
        rw [← hki]
        exact List.mem_take_iff_getElem.2 ⟨i, by omega, rfl⟩
      have := (hs k).2 this
      rw [hS] at this
      cases this
    · omega
  have h2 : i ≤ m := by
    by_cases hlt : m < i
    · exfalso
      have hml : m < A.length := by omega
      have h3 : A[m] ∈ A.take i := List.mem_take_iff_getElem.2 ⟨m, by omega, rfl⟩
      have h4 := (hs _).1 (hp _ h3)
      obtain ⟨j, hj, e⟩ := List.mem_take_iff_getElem.1 h4
      have := nodup_lt hn (by omega : j < m) hml e
      exact this.elim
    · omega
  obtain rfl : m = i := by omega
  exact ⟨hs, hr⟩
theorem ChI.at (h : ChI A R J S ρ w) (hn : A.Nodup) {i k : Nat} (hk : A[i]? = some k) (hS : S k = false) (hp : ∀ j ∈ A.take i, S j = true) : R i ρ w := (h.place hn hk hS hp).2
theorem ChI.next (h : ChI A R J S ρ w) (hn : A.Nodup) {i k : Nat} (hk : A[i]? = some k) (hS : S k = false) (hp : ∀ j ∈ A.take i, S j = true) {v : Value} (hJ : J w') (hR : R (i + 1) (FR.upd ρ k v) w') : ChI A R J (FR.upd S k true) (FR.upd ρ k v) w' := by
  obtain ⟨hs, _⟩ := h.place hn hk hS hp
  obtain ⟨hi, hki⟩ := List.getElem?_eq_some_iff.1 hk
  refine ⟨hJ, i + 1, hi, fun j => ?_, hR⟩
  rw [List.take_succ_eq_append_getElem hi, List.mem_append, List.mem_singleton, hki]
  by_cases e : j = k
  · subst e
    rw [FR.upd_same]
    simp
  · rw [FR.upd_ne _ _ e, hs j]
    simp [e]
theorem ChI.done (h : ChI A R J S ρ w) (hn : A.Nodup) (hall : ∀ j ∈ A, S j = true) : R A.length ρ w := by
  obtain ⟨_, m, hm, hs, hr⟩ := h
  by_cases e : m = A.length
  · rw [← e]; exact hr
  · exfalso
    have hml : m < A.length := by omega
    have h4 := (hs _).1 (hall _ (List.getElem_mem hml))
    obtain ⟨j, hj, e2⟩ := List.mem_take_iff_getElem.1 h4
    have := nodup_lt hn (by omega : j < m) hml e2
    exact this.elim
end
/-- 'append(s, x...)', s the call's own. -/
theorem oper_append_rd {P : Program} {o : Oper} {a : Act} {w : World} {K : Act → World → Prop} {Q : Exit → Act → World → Prop} (s x : Operand) (t : TypeId)
    (ho : o.op = .call { callee := .builtin .append, args := #[s, x], argTypes := #[t, t] })
    (base : Nat) (e : TypeId) (z : Value) (size bytes : Nat) (ht : P.underlying t = some (.slice e)) (hi : (P.info? e).map (fun i => (i.zero, i.size, i.bytes)) = some (some z, size, bytes)) (hzs : z.cells.size = size) (hsz : 0 < size)
    (v : Value) (n : Nat) (xs : List Value) (hs : a.eval s = v) (hown : w.ownsRow base e size v n xs)
    (src : Option Addr) (m c : Nat) (cs : List Value) (hx : a.eval x = .slice src m c) (hrd : Rd w src cs) (hl : cs.length = m * size) (h1 : ∀ u ∈ cs, u.oneCell' = true)
    (h63 : n + m ≤ 1000000000) (hbytes : bytes ≤ 1000) (hbase : base ≤ w.heap.size)
    (h : ∀ a' c' w', w'.ownsRow base e size (.slice a' (n + m) c') (n + m) (xs ++ cs) → w.grownBy w' v.ownBlock → (blk a' = v.ownBlock ∨ blk a' = some w.heap.size) → K (a.put o.dst (.slice a' (n + m) c')) w') : o.wp P a w K Q := by
  obtain ⟨v', w', hrun, q1, q2, q3⟩ := run_append_rd (P := P) w t o.type base e z size bytes ht hi hzs hsz v n xs hown src m c cs hrd hl h1 h63 hbytes hbase
  obtain ⟨a', c', rfl, _⟩ := own_shape q1
  rw [ownBlock_slice] at q3
  unfold Oper.wp execOp
  simp only [ho, resolve, invoke, builtin, Sem.run_bind, Sem.run_pure, Result.andThen_ok, List.map_toArray, List.map_cons, List.map_nil, hs, hx, hrun]
  exact h a' c' w' q1 q2 q3
end Go.Proofs.Ythlmfjoiicnomaa
namespace Go.Proofs.Ythlmfjoiicnomaa
open Go.RowKit
set_option linter.unusedVariables false
set_option linter.unusedSimpArgs false

/-- Where thread t's place stands. -/
theorem RdS.pcAt {w : World} {q : Sp} {s : St} {p : Prg} (h : RdS w q s) (hg : Good p s) {t : Nat} {xs : List Ins} (hx : p[t]? = some xs) :
    ∃ (b off k : Nat), q.a0 = some ⟨b, off, none⟩ ∧ b < w.heap.size ∧ s.pc[t]? = some (k : Int) ∧ k ≤ xs.length ∧ w.cell? ⟨b, off + t, none⟩ = some (.int .i64 k) := by
  obtain ⟨k, hk, hl⟩ := hg.pcb t xs hx
  obtain ⟨ht, he⟩ := List.getElem?_eq_some_iff.1 hk
  obtain ⟨b, off, h1, h2, h3⟩ := h.pc.int t ht
  rw [he] at h3
  exact ⟨b, off, k, h1, h2, hk, hl, h3⟩

set_option maxHeartbeats 1600000 in
theorem l3Done_c (w : World) (a : Option Addr) (cap : Nat) (p : Prg) (q : Sp) (s : St) (hp : RdP w a p) (h : RdS w q s) (hv : Shape p) (hg : Good p s) :
    Calls Try.prog 98 #[.slice a p.length cap, q.v s] w fun e w' => e = .returned (.bool (done3 p s)) ∧ Below w.heap.size w w' := by
  obtain ⟨a0, c0, a1, c1, a2, c2, a3, c3⟩ := q
  obtain ⟨n, hn⟩ : ∃ n, n = p.length := ⟨_, rfl⟩
  obtain ⟨m, hm⟩ : ∃ m, m = s.pc.length := ⟨_, rfl⟩
  have HN := hid hn
  have hnm : m = n := by rw [hm, hn]; exact hg.pcl
  have HNM := hid hnm
  have hn3 : n ≤ 3 := by rw [hn]; exact hv.len
  have HNO := hid (fun t (h : goes p s t = true) (ht : t < n) => show done3 p s = false from by
    unfold done3
    rw [List.all_eq_false]
    exact ⟨t, List.mem_range.2 (by omega), by simp [h]⟩)
  have HYES := hid (fun (h : ∀ t, t < n → goes p s t = false) => show done3 p s = true from by
    unfold done3
    rw [List.all_eq_true]
    intro t ht
    rw [h t (by have := List.mem_range.1 ht; omega)]; rfl)
  have HP := hid hp
  have HS := hid h
  have HG := hid hg
  unfold Sp.v
  dsimp only
  rw [← hn, ← hm]
  clear hn hm hnm hp h hg hv
  go_enter Try.func98, Try.ntmps98
  go_wp2_with fail
  obtain ⟨w1, hw1⟩ : ∃ w1, w1 = w.alloc (.cells #[.slice a0 m c0, .slice a1 s.regs.length c1, .slice a2 s.mem.length c2, .slice a3 s.buf.length c3] 148) := ⟨_, rfl⟩
  rw [← hw1]
  have hb1 : Below w.heap.size w w1 := by rw [hw1]; exact (Below.refl _ _).alloc (Nat.le_refl _) _
  have hc1 : w1.cell? ⟨w.heap.size, 0, none⟩ = some (.slice a0 m c0) := by rw [hw1]; simp
  have HB1 := hid hb1
  have hlt1 : w.heap.size < w1.heap.size := by rw [hw1]; simp
  clear hb1 hw1
  go_loopw [5] (fun i wr => ∃ k : Nat, k ≤ n ∧ i = .int .i64 k ∧ Hid (∀ t, t < k → goes p s t = false) ∧ Hid (Below w1.heap.size w1 wr)) (fun i _ => n - (intOf i).toNat)
  case atStart => exact ⟨0, Nat.zero_le _, rfl, hid (fun t ht => by omega), hid (Below.refl _ _)⟩
  case round =>
    obtain ⟨k, hk, rfl, HK, HB⟩ := hrel
    have HBW := hid (HB1.out.trans (HB.out.mono (by omega)))
    by_cases hlt : k < n
    · obtain ⟨b, off, r, rc, xs, hab, hbl, hxs, hcell, _, _⟩ := HP.out.at' k (by rw [← HN.out]; exact hlt)
      subst hab
      obtain ⟨sb, so, j, hsa, hsl, hj, hjl, hsc⟩ := HS.out.pcAt HG.out hxs
      have hsa : a0 = some ⟨sb, so, none⟩ := hsa
      subst hsa
      have HGO := hid (goes_of hxs hj)
      have c1 := (HBW.out.cell (p := ⟨b, off + k, none⟩) hbl).trans hcell
      have c2 := (HBW.out.cell (p := ⟨sb, so + k, none⟩) hsl).trans hsc
      have c3 := (HB.out.cell (p := ⟨w.heap.size, 0, none⟩) hlt1).trans hc1
      have hkm : k < m := by rw [HNM.out]; exact hlt
      obtain ⟨l, hl⟩ : ∃ l, l = xs.length := ⟨_, rfl⟩
      rw [← hl] at c1 hjl HGO
      clear hcell hsc hxs hj hl hbl hsl
      by_cases hjl2 : j < l
      · rw [decide_eq_true hjl2] at HGO
        go_wp2_with fail
        refine wp_region_mix (by kernel_rfl) (by kernel_rfl) ?_
        go_wp2_with (first | (with_reducible refine wpMix_nil ?_) | (with_reducible refine wpMix_rd rfl rfl (fun K hK => ?_); go_simp; (try go_bits); refine hK _ ?_; clear hK K))
        go_ret
        exact ⟨ret_bool (HNO.out k HGO.out hlt).symm, below_drewN 1 HBW.out⟩
      · rw [decide_eq_false hjl2] at HGO
        have hjl3 : ¬ ((j : Int) < (l : Int)) := by omega
        go_wp2_with fail
        refine wp_region_mix (by kernel_rfl) (by kernel_rfl) ?_
        go_wp2_with (first | (with_reducible refine wpMix_nil ?_) | (with_reducible refine wpMix_rd rfl rfl (fun K hK => ?_); go_simp; (try go_bits); refine hK _ ?_; clear hK K))
        go_roundw
        case rel => exact ⟨k + 1, by omega, by go_num, hid (fun t ht => by
          by_cases e : t = k
          · rw [e]; exact HGO.out
          · exact HK.out t (by omega)), hid (below_drewN 1 HB.out)⟩
        case measure => simp [intOf]; omega
    · go_wp2
      go_ret
      exact ⟨ret_bool (HYES.out fun t ht => HK.out t (by omega)).symm, HBW.out⟩

def outR (w1 : World) (s : St) (m : Nat) (ρ : Nat → Value) (w : World) : Prop :=
  if m = 1 then IsLit w1 w 3 (ρ 0) else if m = 2 then IsOwn w1.heap.size s.regs w (ρ 3) else if m = 3 then IsOwn w1.heap.size (s.regs ++ s.mem) w (ρ 6) else True
set_option maxRecDepth 100000 in
set_option maxHeartbeats 1600000 in
theorem l3Outcome_c (w : World) (q : Sp) (s : St) (h : RdS w q s) (l1 : s.regs.length ≤ 1000) (l2 : s.mem.length ≤ 1000) :
    Calls Try.prog 100 #[q.v s] w fun e w' => ∃ a cap, e = .returned (.slice a (out3 s).length cap) ∧ OwI w' w.heap.size a cap (out3 s) ∧ Below w.heap.size w w' := by
  obtain ⟨a0, c0, a1, c1, a2, c2, a3, c3⟩ := q
  obtain ⟨n1, hn1⟩ : ∃ n, n = s.regs.length := ⟨_, rfl⟩
  obtain ⟨n2, hn2⟩ : ∃ n, n = s.mem.length := ⟨_, rfl⟩
  have HN := hid (And.intro hn1 hn2)
  have HL := hid (show (out3 s).length = n1 + n2 by rw [hn1, hn2]; simp [out3])
  have HRD := hid h
  unfold OwI
  rw [HL.out]
  unfold Sp.v
  dsimp only
  rw [← hn1] at l1
  rw [← hn2] at l2
  rw [← hn1, ← hn2]
  clear hn1 hn2 h
  go_enter Try.func100, Try.ntmps100
  go_wp2_with fail
  obtain ⟨w1, hw1⟩ : ∃ w1, w1 = w.alloc (.cells #[.slice a0 s.pc.length c0, .slice a1 n1 c1, .slice a2 n2 c2, .slice a3 s.buf.length c3] 148) := ⟨_, rfl⟩
  rw [← hw1]
  have hb1 : Below w.heap.size w w1 := by rw [hw1]; exact (Below.refl _ _).alloc (Nat.le_refl _) _
  have hg1 : w1.heap[w.heap.size]? = some (.cells #[.slice a0 s.pc.length c0, .slice a1 n1 c1, .slice a2 n2 c2, .slice a3 s.buf.length c3] 148 (0, 0)) := by rw [hw1]; exact heap_alloc_new w _
  have hs1 : w1.heap.size = w.heap.size + 1 := by rw [hw1]; simp
  have HB1 := hid hb1
  have HG1 := hid hg1
  obtain ⟨J, hJ⟩ : ∃ J : World → Prop, J = fun w' => Below w1.heap.size w1 w' := ⟨_, rfl⟩
  have HJ := hid (fun w' (h : Below w1.heap.size w1 w') => show J w' by rw [hJ]; exact h)
  have HJB := hid (fun w' (h : J w') => show Below w1.heap.size w1 w' by rw [hJ] at h; exact h)
  have HC := hid (fun w' (h : J w') => show w'.cell? ⟨w.heap.size, 1, none⟩ = some (.slice a1 n1 c1) ∧ w'.cell? ⟨w.heap.size, 2, none⟩ = some (.slice a2 n2 c2) from by
    rw [hJ] at h
    have e := fun (i : Nat) => cell_of_row w' w.heap.size i _ _ _ ((h.block w.heap.size (by omega)).trans HG1.out)
    exact ⟨e 1, e 2⟩)
  have HJI := hid (fun S ρ w' (h : ChI [0, 3, 6] (outR w1 s) J S ρ w') => h.j)
  clear hb1 hg1 hw1 hJ
  refine FR.wp_region_free 7 (ChI [0, 3, 6] (outR w1 s) J) (by kernel_rfl) (by kernel_rfl) (by kernel_rfl) (fun _ => undef) (ChI.start (HJ.out _ (below_drewN 1 (Below.refl _ _))) trivial) fun V => ?_
  refine FR.frGo_act (k := 0) _ rfl (fun S ρ w' hI hS hp K hK => ?_) ?_
  · go_simp
    have hb := HJB.out w' hI.j
    refine hK _ _ (hI.next (i := 0) (by decide) rfl hS (by simp) (HJ.out _ (hb.alloc hb.size _)) ?_)
    show IsLit w1 _ 3 (FR.upd ρ 0 _ 0)
    rw [FR.upd_same]
    exact IsLit.new w1 w' _ hb.size
  (refine FR.frGo_pure _ rfl (fun K hK => ?_); go_simp; (first | refine hK _ ?_ | refine ⟨_, fun W hW => rfl, hK _ ?_⟩ | refine ⟨_, fun W hW => ⟨rfl, rfl⟩, hK _ ?_⟩); clear hK K)
  (refine FR.frGo_held _ rfl J (fun S ρ w' h _ => HJI.out S ρ w' h) (fun K hK => ?_); go_simp; apply Exists.intro; refine And.intro (fun W hW => ?_) (hK _ ?_); (focus (have hcs := HC.out W hW; go_simp; try rfl)); clear hK K)
  refine FR.frGo_act (k := 3) _ rfl (fun S ρ w' hI hS hp K hK => ?_) ?_
  · have hp0 := hp 0 (by kernel_rfl)
    have hb := HJB.out w' hI.j
    have q0 : IsLit w1 w' 3 (ρ 0) := hI.at (i := 1) (by decide) rfl hS (by simpa using hp0.1)
    rw [hp0.2] at q0
    refine oper_append_lit w1 _ _ 24 rfl 3 (.int .i64 0) 1 8 Try.underlying24 Try.info_int rfl (by decide) (V 0) rfl q0 a1 n1 c1 (ints s.regs) rfl ((HRD.out.regs.below HB1.out).below hb) (by simp [HN.out.1]) (ints_one _ _) (by omega) (by decide) ?_
    intro a' c' w'' hown hb2 hat
    refine hK _ _ (hI.next (i := 1) (by decide) rfl hS (by simpa using hp0.1) (HJ.out _ (hb.trans (hb2.mono hb.size))) ?_)
    show IsOwn w1.heap.size s.regs _ (FR.upd ρ 3 _ 3)
    rw [FR.upd_same]
    exact ⟨a', c', by rw [HN.out.1], by rw [← HN.out.1]; exact hown⟩
  (refine FR.frGo_pure _ rfl (fun K hK => ?_); go_simp; (first | refine hK _ ?_ | refine ⟨_, fun W hW => rfl, hK _ ?_⟩ | refine ⟨_, fun W hW => ⟨rfl, rfl⟩, hK _ ?_⟩); clear hK K)
  (refine FR.frGo_held _ rfl J (fun S ρ w' h _ => HJI.out S ρ w' h) (fun K hK => ?_); go_simp; apply Exists.intro; refine And.intro (fun W hW => ?_) (hK _ ?_); (focus (have hcs := HC.out W hW; go_simp; try rfl)); clear hK K)
  refine FR.frGo_act (k := 6) _ rfl (fun S ρ w' hI hS hp K hK => ?_) ?_
  · have hp0 := hp 0 (by kernel_rfl)
    have hp3 := hp 3 (by kernel_rfl)
    have hb := HJB.out w' hI.j
    have hpr : ∀ j ∈ ([0, 3, 6] : List Nat).take 2, S j = true := by
      intro j hj
      simp at hj
      rcases hj with rfl | rfl
      · exact hp0.1
      · exact hp3.1
    have q3 : IsOwn w1.heap.size s.regs w' (ρ 3) := hI.at (i := 2) (by decide) rfl hS hpr
    rw [hp3.2] at q3
    obtain ⟨b3, d3, e3, o3⟩ := q3
    rw [← HN.out.1] at e3 o3
    rw [e3] at o3
    refine oper_append_rd _ _ 24 rfl w1.heap.size 3 (.int .i64 0) 1 8 Try.underlying24 Try.info_int rfl (by decide) (.slice b3 n1 d3) n1 (ints s.regs) e3 o3 a2 n2 c2 (ints s.mem) rfl ((HRD.out.mem.below HB1.out).below hb) (by simp [HN.out.2]) (ints_one _ _) (by omega) (by decide) hb.size ?_
    intro a' c' w'' hown hg hat
    rw [ownBlock_slice] at hg
    refine hK _ _ (hI.next (i := 2) (by decide) rfl hS hpr (HJ.out _ (hb.grown hg hb.size fun b hb' => (own_blk o3 b hb').1)) ?_)
    show IsOwn w1.heap.size (s.regs ++ s.mem) _ (FR.upd ρ 6 _ 6)
    rw [FR.upd_same]
    have el : (s.regs ++ s.mem).length = n1 + n2 := by rw [List.length_append, ← HN.out.1, ← HN.out.2]
    exact ⟨a', c', by rw [el], by rw [el]; simpa [ints] using hown⟩
  refine FR.frGo_nil _ ?_
  intro S ρ w2 hI hS
  have h0 := hS 0 (by decide) (by kernel_rfl)
  have h3 := hS 3 (by decide) (by kernel_rfl)
  have h6 := hS 6 (by decide) (by kernel_rfl)
  have hall : ∀ j ∈ ([0, 3, 6] : List Nat), S j = true := by
    intro j hj
    simp at hj
    rcases hj with rfl | rfl | rfl
    · exact h0.1
    · exact h3.1
    · exact h6.1
  have q6 : IsOwn w1.heap.size (s.regs ++ s.mem) w2 (ρ 6) := hI.done (by decide) hall
  rw [h6.2] at q6
  obtain ⟨b6, d6, e6, o6⟩ := q6
  have el : (s.regs ++ s.mem).length = n1 + n2 := by rw [List.length_append, ← HN.out.1, ← HN.out.2]
  have hb2 := HJB.out w2 hI.j
  rw [el] at e6 o6
  rw [e6] at o6 ⊢
  have HO := hid o6
  have HB2 := hid hb2
  clear hall hI hS h0 h3 h6 e6 o6 el hb2
  refine wpMix_rd rfl rfl (fun K hK => ?_)
  go_simp
  refine hK _ ?_
  clear hK K
  (with_reducible refine wpMix_nil ?_)
  go_wp2
  go_ret
  exact ⟨b6, d6, rfl, own_base HO.out (by omega), HB1.out.trans (HB2.out.mono (by omega))⟩
end Go.Proofs.Ythlmfjoiicnomaa
namespace Go.Proofs.Ythlmfjoiicnomaa
open Go.RowKit
set_option linter.unusedVariables false
set_option linter.unusedSimpArgs false

theorem small_nil {s : St} (h : s.buf = []) : Small s := ⟨by rw [h]; simp, by rw [h]; simp⟩

end Go.Proofs.Ythlmfjoiicnomaa
