/-
  PROVED HERE: what spec.l3Copy does. CONDITIONS: as each theorem states.
-/
import Derived.Test.YtbncmeggnhggkaaSpa
namespace Go.Proofs.Ytbncmeggnhggkaa
open Go.RowKit
set_option linter.unusedVariables false
set_option linter.unusedSimpArgs false

theorem oper_pushI {o : Oper} {a : Act} {w : World} {K : Act → World → Prop} {Q : Exit → Act → World → Prop} (s x : Operand)
    (ho : o.op = .call { callee := .builtin .append, args := #[s, x], argTypes := #[42, 42] })
    (base top : Nat) (b : Option Addr) (n cap : Nat) (p : List (List Int)) (hpn : p.length = n) (hs : a.eval s = .slice b n cap) (hP : OwL w base top b cap p) (r : Option Addr) (c m : Nat) (ys : List Int) (hm : ys.length = m) (hr : w.ownsRow base 3 1 (.slice r m c) m (ints ys)) (hrt : ∀ k, blk r = some k → top ≤ k)
    (ad : Addr) (hx : a.eval x = .slice (some ad) 1 1) (hu : w.cell? ad = some (.slice r m c)) (hn : n + 1 ≤ 3000000) (hbase : base ≤ w.heap.size)
    (h : ∀ a' cap' w', OwL w' base w'.heap.size a' cap' (p ++ [ys]) → w.grownBy w' (blk b) → K (a.put o.dst (.slice a' (n + 1) cap')) w') : o.wp Try.prog a w K Q := by
  subst hpn
  subst hm
  obtain ⟨a', cap', w', hrun, q1, q2⟩ := run_push o.type hP (r, c) ys hr hrt ad hu hn hbase
  unfold Oper.wp execOp
  simp only [ho, resolve, invoke, builtin, Sem.run_bind, Sem.run_pure, Result.andThen_ok, List.map_toArray, List.map_cons, List.map_nil, hs, hx, hrun]
  exact h a' cap' w' q1 q2
/-- A row of the call's own with these numbers. -/
def IsOwn (B : Nat) (xs : List Int) (w : World) (v : Value) : Prop := ∃ a c, v = .slice a xs.length c ∧ w.ownsRow B 3 1 v xs.length (ints xs)
theorem IsOwn.below {B : Nat} {xs : List Int} {w w' : World} {v : Value} (h : IsOwn B xs w v) (hb : Below w.heap.size w w') : IsOwn B xs w' v := by
  obtain ⟨a, c, h1, h2⟩ := h
  exact ⟨a, c, h1, own_below h2 hb⟩
def copyQ (w1 : World) (s : St) (k : Nat) (w : World) (v : Value) : Prop :=
  if k = 0 then IsLit w1 w 3 v else if k = 4 then IsLit w1 w 3 v else if k = 8 then IsLit w1 w 3 v else
  if k = 3 then IsOwn w1.heap.size s.pc w v else if k = 7 then IsOwn w1.heap.size s.regs w v else if k = 11 then IsOwn w1.heap.size s.mem w v else if k = 13 then IsCells zSt 44 w v else True
theorem copyQ_stays (w1 : World) (s : St) : Stays (copyQ w1 s) := by
  intro k w w' v h hb
  unfold copyQ at h ⊢
  repeat' split
  all_goals first | trivial | skip
  all_goals simp_all only [if_true, if_false]
  all_goals first | exact IsLit.below h hb | exact IsOwn.below h hb | exact IsCells.below h hb
def copyG (k : Nat) : Nat := if k ≤ 3 then 0 else if k ≤ 7 then 1 else if k ≤ 11 then 2 else 3

/-- A block of one cell, which holds a row of the call's own. -/
def IsOne (B : Nat) (xs : List Int) (w : World) (v : Value) : Prop := ∃ H u, v = .slice (some ⟨H, 0, none⟩) 1 1 ∧ w.cell? ⟨H, 0, none⟩ = some u ∧ IsOwn B xs w u
theorem IsOne.below {B : Nat} {xs : List Int} {w w' : World} {v : Value} (h : IsOne B xs w v) (hb : Below w.heap.size w w') : IsOne B xs w' v := by
  obtain ⟨H, u, h1, h2, h3⟩ := h
  exact ⟨H, u, h1, (hb.cell (p := ⟨H, 0, none⟩) (World.block_lt_of_cell? w ⟨H, 0, none⟩ h2)).trans h2, h3.below hb⟩
theorem IsOne.new {B : Nat} {xs : List Int} {w : World} {u : Value} (h : IsOwn B xs w u) (t : TypeId) : IsOne B xs (w.alloc (.cells #[u] t)) (.slice (some ⟨w.heap.size, 0, none⟩) 1 1) := ⟨_, u, rfl, by simp, h.below ((Below.refl _ _).alloc (Nat.le_refl _) _)⟩
def cp5Q (wr : World) (ys : List Int) (k : Nat) (w : World) (v : Value) : Prop :=
  if k = 2 then IsLit wr w 3 v else if k = 8 then IsOwn wr.heap.size ys w v else if k = 9 then IsOne wr.heap.size ys w v else True
theorem cp5Q_stays (wr : World) (ys : List Int) : Stays (cp5Q wr ys) := by
  intro k w w' v h hb
  unfold cp5Q at h ⊢
  repeat' split
  all_goals first | trivial | skip
  all_goals simp_all only [if_true, if_false]
  all_goals first | exact IsLit.below h hb | exact IsOwn.below h hb | exact IsOne.below h hb
def cp5G (k : Nat) : Nat := if k = 9 then 1 else 0
/-- Region 5 of l3Copy. -/
structure Cp5 (wr : World) (top : Nat) (b : Option Addr) (c : Nat) (ls : List (List Int)) (ys : List Int) (S : Nat → Bool) (ρ : Nat → Value) (w' : World) : Prop where
  ord : (S 10 = true → S 9 = true) ∧ (S 9 = true → S 8 = true) ∧ (S 8 = true → S 2 = true)
  keeps : Keeps (fun x => blk b = some x) wr w'
  p : S 10 = false → Parts wr cp5G (cp5Q wr ys) S ρ w' ∧ OwL w' top wr.heap.size b c ls
  f : S 10 = true → ∃ a' c', ρ 10 = .slice a' (ls.length + 1) c' ∧ OwL w' top w'.heap.size a' c' (ls ++ [ys])
section
variable {wr w' w'' : World} {top : Nat} {b : Option Addr} {c : Nat} {ls : List (List Int)} {ys : List Int} {S : Nat → Bool} {ρ : Nat → Value}
theorem Cp5.start (h : OwL wr top wr.heap.size b c ls) (ρ : Nat → Value) : Cp5 wr top b c ls ys (fun _ => false) ρ wr.drew :=
  ⟨⟨(fun h => by cases h), (fun h => by cases h), (fun h => by cases h)⟩, ⟨rfl, rfl, rfl, Nat.le_refl _, fun _ _ _ => rfl⟩, fun _ => ⟨Parts.start _ _ _ _, h⟩, (fun h => by cases h)⟩
theorem Cp5.step (h : Cp5 wr top b c ls ys S ρ w') {k : Nat} (hk : k ≠ 10) (h10 : S 10 = false) (hord : (FR.upd S k true 9 = true → FR.upd S k true 8 = true) ∧ (FR.upd S k true 8 = true → FR.upd S k true 2 = true)) {v : Value} (hb : Below w'.heap.size w' w'')
    (hp : Parts wr cp5G (cp5Q wr ys) (FR.upd S k true) (FR.upd ρ k v) w'') : Cp5 wr top b c ls ys (FR.upd S k true) (FR.upd ρ k v) w'' := by
  have h10' : FR.upd S k true 10 = false := by rw [FR.upd_ne _ _ (Ne.symm hk)]; exact h10
  refine ⟨⟨fun e => (by rw [h10'] at e; cases e), hord⟩, h.keeps.trans (Keeps.of_below hb), fun _ => ⟨hp, (h.p h10).2.below hb⟩, fun e => (by rw [h10'] at e; cases e)⟩
theorem Cp5.late (h : Cp5 wr top b c ls ys S ρ w') (hs : S 9 = false ∨ S 8 = false ∨ S 2 = false) : S 10 = false := by
  cases e : S 10 with
  | false => rfl
  | true =>
    have h9 := h.ord.1 e
    have h8 := h.ord.2.1 h9
    have h2 := h.ord.2.2 h8
    rcases hs with q | q | q
    · rw [q] at h9; cases h9
    · rw [q] at h8; cases h8
    · rw [q] at h2; cases h2
theorem Cp5.last (h : Cp5 wr top b c ls ys S ρ w') (h9 : S 9 = true) (hg : w'.grownBy w'' (blk b)) {a' : Option Addr} {c' : Nat} (ho : OwL w'' top w''.heap.size a' c' (ls ++ [ys])) : Cp5 wr top b c ls ys (FR.upd S 10 true) (FR.upd ρ 10 (.slice a' (ls.length + 1) c')) w'' := by
  have e9 : FR.upd S 10 true 9 = S 9 := FR.upd_ne _ _ (by decide)
  have e8 : FR.upd S 10 true 8 = S 8 := FR.upd_ne _ _ (by decide)
  have e2 : FR.upd S 10 true 2 = S 2 := FR.upd_ne _ _ (by decide)
  refine ⟨⟨fun _ => (by rw [e9]; exact h9), fun e => (by rw [e9] at e; rw [e8]; exact h.ord.2.1 e), fun e => (by rw [e8] at e; rw [e2]; exact h.ord.2.2 e)⟩, h.keeps.trans (Keeps.of_grown hg fun k hk => hk), fun e => (by rw [FR.upd_same] at e; cases e), fun _ => ⟨a', c', (by rw [FR.upd_same]), ho⟩⟩
end

set_option maxRecDepth 100000 in
set_option maxHeartbeats 3200000 in
theorem l3Copy_c (w : World) (q : Sp) (s : St) (h : RdS w q s) (l0 : s.pc.length ≤ 1000) (l1 : s.regs.length ≤ 1000) (l2 : s.mem.length ≤ 1000) (l3 : s.buf.length ≤ 1000) (l4 : ∀ xs ∈ s.buf, xs.length ≤ 1000) :
    Calls Try.prog 62 #[q.v s] w fun e w' => ∃ q' : Sp, e = .returned (q'.v s) ∧ OwS w' w.heap.size q' s ∧ Below w.heap.size w w' := by
  obtain ⟨a0, c0, a1, c1, a2, c2, a3, c3⟩ := q
  obtain ⟨n0, hn0⟩ : ∃ n, n = s.pc.length := ⟨_, rfl⟩
  obtain ⟨n1, hn1⟩ : ∃ n, n = s.regs.length := ⟨_, rfl⟩
  obtain ⟨n2, hn2⟩ : ∃ n, n = s.mem.length := ⟨_, rfl⟩
  obtain ⟨n3, hn3⟩ : ∃ n, n = s.buf.length := ⟨_, rfl⟩
  have HN := hid (And.intro hn0 (And.intro hn1 (And.intro hn2 hn3)))
  unfold Sp.v
  rw [← hn0, ← hn1, ← hn2, ← hn3]
  rw [← hn0] at l0
  rw [← hn1] at l1
  rw [← hn2] at l2
  rw [← hn3] at l3
  clear hn0 hn1 hn2 hn3
  have HL4 := hid l4
  have HRD := hid h
  clear l4 h
  go_enter Try.func62, Try.ntmps62
  go_wp2_with fail
  obtain ⟨w1, hw1⟩ : ∃ w1, w1 = (w.alloc (.cells #[.slice a0 n0 c0, .slice a1 n1 c1, .slice a2 n2 c2, .slice a3 n3 c3] 44)).alloc (.cells zSt 44) := ⟨_, rfl⟩
  rw [← hw1]
  have hs1 : w1.heap.size = w.heap.size + 2 := by rw [hw1]; simp
  have hb1 : Below w.heap.size w w1 := by rw [hw1]; exact ((Below.refl _ _).alloc (Nat.le_refl _) _).alloc (by simp) _
  have hbox : w1.heap[w.heap.size]? = some (.cells #[.slice a0 n0 c0, .slice a1 n1 c1, .slice a2 n2 c2, .slice a3 n3 c3] 44 (0, 0)) := by
    rw [hw1, heap_alloc_old _ _ (by simp)]
    exact heap_alloc_new w _
  have hres : w1.heap[w.heap.size + 1]? = some (.cells zSt 44 (0, 0)) := by
    rw [hw1]
    have := heap_alloc_new (w.alloc (.cells #[.slice a0 n0 c0, .slice a1 n1 c1, .slice a2 n2 c2, .slice a3 n3 c3] 44)) (.cells zSt 44)
    simpa using this
  have HB1 := hid hb1
  have HBOX := hid hbox
  have HRES := hid hres
  have HRD1 := hid (HRD.out.below hb1)
  have cb : ∀ i v w', (#[.slice a0 n0 c0, .slice a1 n1 c1, .slice a2 n2 c2, .slice a3 n3 c3] : Array Value)[i]? = some v → Below w1.heap.size w1 w' → w'.cell? ⟨w.heap.size, i, none⟩ = some v := fun i v w' hv hb => by
    rw [cell_of_row w' w.heap.size i _ 44 (0, 0) ((hb.block _ (by omega)).trans HBOX.out)]
    exact hv
  have HCB := hid cb
  clear hb1 hbox hres cb
  refine FR.wp_region_free 14 (Parts w1 copyG (copyQ w1 s)) (by kernel_rfl) (by kernel_rfl) (by kernel_rfl) (fun _ => undef) (Parts.start _ _ _ _) fun V => ?_
  have HP := hid (fun k => fun S ρ w' (h : Parts w1 copyG (copyQ w1 s) S ρ w') (e : S k = true ∧ ρ k = V k) => show copyQ w1 s k w' (V k) from by have := h.part k e.1; rw [e.2] at this; exact this)
  refine FR.frGo_act (k := 0) _ rfl (fun S ρ w' hI hS hp K hK => ?_) ?_
  · go_simp
    exact hK _ _ (hI.new (copyQ_stays _ _) _ (IsLit.new w1 w' _ hI.below.size) rfl)
  (refine FR.frGo_pure _ rfl (fun K hK => ?_); go_simp; (first | refine hK _ ?_ | refine ⟨_, fun W hW => rfl, hK _ ?_⟩ | refine ⟨_, fun W hW => ⟨rfl, rfl⟩, hK _ ?_⟩); clear hK K)
  refine FR.frGo_held _ rfl (fun w' => w'.cell? ⟨w.heap.size, 0, none⟩ = some (.slice a0 n0 c0)) (fun S ρ w' h _ => HCB.out 0 _ w' rfl h.below) (fun K hK => ?_)
  go_simp
  refine ⟨.slice a0 n0 c0, fun W hW => ?_, hK _ ?_⟩
  · go_simp
  clear hK K
  refine FR.frGo_act (k := 3) _ rfl (fun S ρ w' hI hS hp K hK => ?_) ?_
  · have hp0 := hp 0 (by kernel_rfl)
    have q0 : IsLit w1 w' 3 (V 0) := HP.out 0 S ρ w' hI hp0
    refine oper_append_lit w1 _ _ 23 rfl 3 (.int .i64 0) 1 8 Try.underlying23 Try.info_int rfl (by decide) (V 0) rfl q0 a0 n0 c0 (ints s.pc) rfl (HRD1.out.pc.below hI.below) (by simp [HN.out.1]) (ints_one _ _) (by omega) (by decide) ?_
    intro a' c' w'' hown hb hat
    refine hK _ _ (hI.step (copyQ_stays _ _) hb ⟨a', c', by rw [HN.out.1], by rw [← HN.out.1]; exact hown⟩ fun b e => ?_)
    rcases hat b e with h | h
    · exact .inr ⟨0, hp0.1, by decide, rfl, by rw [hp0.2]; exact h⟩
    · exact .inl h
  refine FR.frGo_act (k := 4) _ rfl (fun S ρ w' hI hS hp K hK => ?_) ?_
  · go_simp
    exact hK _ _ (hI.new (copyQ_stays _ _) _ (IsLit.new w1 w' _ hI.below.size) rfl)
  (refine FR.frGo_pure _ rfl (fun K hK => ?_); go_simp; (first | refine hK _ ?_ | refine ⟨_, fun W hW => rfl, hK _ ?_⟩ | refine ⟨_, fun W hW => ⟨rfl, rfl⟩, hK _ ?_⟩); clear hK K)
  refine FR.frGo_held _ rfl (fun w' => w'.cell? ⟨w.heap.size, 1, none⟩ = some (.slice a1 n1 c1)) (fun S ρ w' h _ => HCB.out 1 _ w' rfl h.below) (fun K hK => ?_)
  go_simp
  refine ⟨.slice a1 n1 c1, fun W hW => ?_, hK _ ?_⟩
  · go_simp
  clear hK K
  refine FR.frGo_act (k := 7) _ rfl (fun S ρ w' hI hS hp K hK => ?_) ?_
  · have hp0 := hp 4 (by kernel_rfl)
    have q0 : IsLit w1 w' 3 (V 4) := HP.out 4 S ρ w' hI hp0
    refine oper_append_lit w1 _ _ 23 rfl 3 (.int .i64 0) 1 8 Try.underlying23 Try.info_int rfl (by decide) (V 4) rfl q0 a1 n1 c1 (ints s.regs) rfl (HRD1.out.regs.below hI.below) (by simp [HN.out.2.1]) (ints_one _ _) (by omega) (by decide) ?_
    intro a' c' w'' hown hb hat
    refine hK _ _ (hI.step (copyQ_stays _ _) hb ⟨a', c', by rw [HN.out.2.1], by rw [← HN.out.2.1]; exact hown⟩ fun b e => ?_)
    rcases hat b e with h | h
    · exact .inr ⟨4, hp0.1, by decide, rfl, by rw [hp0.2]; exact h⟩
    · exact .inl h
  refine FR.frGo_act (k := 8) _ rfl (fun S ρ w' hI hS hp K hK => ?_) ?_
  · go_simp
    exact hK _ _ (hI.new (copyQ_stays _ _) _ (IsLit.new w1 w' _ hI.below.size) rfl)
  (refine FR.frGo_pure _ rfl (fun K hK => ?_); go_simp; (first | refine hK _ ?_ | refine ⟨_, fun W hW => rfl, hK _ ?_⟩ | refine ⟨_, fun W hW => ⟨rfl, rfl⟩, hK _ ?_⟩); clear hK K)
  refine FR.frGo_held _ rfl (fun w' => w'.cell? ⟨w.heap.size, 2, none⟩ = some (.slice a2 n2 c2)) (fun S ρ w' h _ => HCB.out 2 _ w' rfl h.below) (fun K hK => ?_)
  go_simp
  refine ⟨.slice a2 n2 c2, fun W hW => ?_, hK _ ?_⟩
  · go_simp
  clear hK K
  refine FR.frGo_act (k := 11) _ rfl (fun S ρ w' hI hS hp K hK => ?_) ?_
  · have hp0 := hp 8 (by kernel_rfl)
    have q0 : IsLit w1 w' 3 (V 8) := HP.out 8 S ρ w' hI hp0
    refine oper_append_lit w1 _ _ 23 rfl 3 (.int .i64 0) 1 8 Try.underlying23 Try.info_int rfl (by decide) (V 8) rfl q0 a2 n2 c2 (ints s.mem) rfl (HRD1.out.mem.below hI.below) (by simp [HN.out.2.2.1]) (ints_one _ _) (by omega) (by decide) ?_
    intro a' c' w'' hown hb hat
    refine hK _ _ (hI.step (copyQ_stays _ _) hb ⟨a', c', by rw [HN.out.2.2.1], by rw [← HN.out.2.2.1]; exact hown⟩ fun b e => ?_)
    rcases hat b e with h | h
    · exact .inr ⟨8, hp0.1, by decide, rfl, by rw [hp0.2]; exact h⟩
    · exact .inl h
  have Q3 := hid (fun S ρ w' h e => show IsOwn w1.heap.size s.pc w' (V 3) from HP.out 3 S ρ w' h e)
  have Q7 := hid (fun S ρ w' h e => show IsOwn w1.heap.size s.regs w' (V 7) from HP.out 7 S ρ w' h e)
  have Q11 := hid (fun S ρ w' h e => show IsOwn w1.heap.size s.mem w' (V 11) from HP.out 11 S ρ w' h e)
  have Q13 := hid (fun S ρ w' h e => show IsCells zSt 44 w' (V 13) from HP.out 13 S ρ w' h e)
  clear HP
  by_cases hV : ∃ b3 d3 b7 d7 b11 d11, V 3 = .slice b3 n0 d3 ∧ V 7 = .slice b7 n1 d7 ∧ V 11 = .slice b11 n2 d11
  · obtain ⟨b3, d3, b7, d7, b11, d11, h3, h7, h11⟩ := hV
    have H3 := hid h3
    have H7 := hid h7
    have H11 := hid h11
    rw [h3, h7, h11]
    clear h3 h7 h11
    (refine FR.frGo_pure _ rfl (fun K hK => ?_); go_simp; (first | refine hK _ ?_ | refine ⟨_, fun W hW => rfl, hK _ ?_⟩ | refine ⟨_, fun W hW => ⟨rfl, rfl⟩, hK _ ?_⟩); clear hK K)
    refine FR.frGo_act (k := 13) _ rfl (fun S ρ w' hI hS hp K hK => ?_) ?_
    · go_simp
      exact hK _ _ (hI.new (copyQ_stays _ _) _ ⟨_, rfl, heap_alloc_new _ _⟩ rfl)
    refine FR.frGo_nil _ ?_
    intro S ρ w2 hI hS
    have z3 := hS 3 (by decide) (by kernel_rfl)
    have z7 := hS 7 (by decide) (by kernel_rfl)
    have z11 := hS 11 (by decide) (by kernel_rfl)
    have z13 := hS 13 (by decide) (by kernel_rfl)
    have R3 := Q3.out S ρ w2 hI z3
    have R7 := Q7.out S ρ w2 hI z7
    have R11 := Q11.out S ρ w2 hI z11
    obtain ⟨g9, e9, R9⟩ := Q13.out S ρ w2 hI z13
    rw [e9]
    refine wpMix_act rfl rfl (fun K hK => ?_)
    have sep : ∀ j k b, copyG j ≠ copyG k → (S j = true ∧ ρ j = V j) → (S k = true ∧ ρ k = V k) → vblk (V j) = some b → vblk (V k) ≠ some b := fun j k b hg hj hk h1 h2 => hI.sep j k b hj.1 hk.1 hg (by rw [hj.2]; exact h1) (by rw [hk.2]; exact h2)
    have rng : ∀ k b, (S k = true ∧ ρ k = V k) → vblk (V k) = some b → w1.heap.size ≤ b ∧ b < w2.heap.size := fun k b hk h1 => hI.rng k b hk.1 (by rw [hk.2]; exact h1)
    have d37 : ∀ b, blk b3 = some b → blk b7 ≠ some b := fun b h1 h2 => sep 3 7 b (by decide) z3 z7 (by rw [H3.out]; exact h1) (by rw [H7.out]; exact h2)
    have d311 : ∀ b, blk b3 = some b → blk b11 ≠ some b := fun b h1 h2 => sep 3 11 b (by decide) z3 z11 (by rw [H3.out]; exact h1) (by rw [H11.out]; exact h2)
    have d711 : ∀ b, blk b7 = some b → blk b11 ≠ some b := fun b h1 h2 => sep 7 11 b (by decide) z7 z11 (by rw [H7.out]; exact h1) (by rw [H11.out]; exact h2)
    have m3 : ∀ b, blk b3 = some b → b ≠ g9 := fun b h1 e => sep 3 13 b (by decide) z3 z13 (by rw [H3.out]; exact h1) (by rw [e9, e]; rfl)
    have m7 : ∀ b, blk b7 = some b → b ≠ g9 := fun b h1 e => sep 7 13 b (by decide) z7 z13 (by rw [H7.out]; exact h1) (by rw [e9, e]; rfl)
    have m11 : ∀ b, blk b11 = some b → b ≠ g9 := fun b h1 e => sep 11 13 b (by decide) z11 z13 (by rw [H11.out]; exact h1) (by rw [e9, e]; rfl)
    have t3 : ∀ b, blk b3 = some b → b < w2.heap.size := fun b h1 => (rng 3 b z3 (by rw [H3.out]; exact h1)).2
    have t7 : ∀ b, blk b7 = some b → b < w2.heap.size := fun b h1 => (rng 7 b z7 (by rw [H7.out]; exact h1)).2
    have t11 : ∀ b, blk b11 = some b → b < w2.heap.size := fun b h1 => (rng 11 b z11 (by rw [H11.out]; exact h1)).2
    have r9 := rng 13 g9 z13 (by rw [e9]; rfl)
    have B2 := hI.below
    have own : ∀ xs V0 (b : Option Addr) n d, n = xs.length → V0 = .slice b n d → IsOwn w1.heap.size xs w2 V0 → w2.ownsRow w1.heap.size 3 1 (.slice b n d) n (ints xs) := by
      rintro xs V0 b n d rfl rfl ⟨a, c, h1, h2⟩
      exact h2
    have O3 := own _ _ _ _ _ HN.out.1 H3.out R3
    have O7 := own _ _ _ _ _ HN.out.2.1 H7.out R7
    have O11 := own _ _ _ _ _ HN.out.2.2.1 H11.out R11
    clear own sep rng hI hS z3 z7 z11 z13 R3 R7 R11 Q3 Q7 Q11 Q13 H3 H7 H11 e9
    obtain ⟨cs, hcs⟩ : ∃ cs : Array Value, cs = #[.slice b3 n0 d3, .slice b7 n1 d7, .slice b11 n2 d11, zS] := ⟨_, rfl⟩
    refine wp_store_row 44 _ _ rfl g9 cs rfl (by rw [hcs]; rfl) _ zSt R9 (by rw [hcs]; kernel_rfl) (by rw [hcs]; rfl) (by rw [hcs]; simp [Value.oneCell']) ?_
    refine hK _ _ ?_
    clear hK K
    have k3 := keeps_setRow w2 g9 cs
    have hg3 := setRow_heap w2 g9 _ cs _ _ R9
    have P3 := own_keeps O3 k3 (fun b hb e => m3 b hb e)
    have P7 := own_keeps O7 k3 (fun b hb e => m7 b hb e)
    have P11 := own_keeps O11 k3 (fun b hb e => m11 b hb e)
    have B3 : Below w1.heap.size w1 (w2.setRow g9 cs) := Proofs.Ytbncmeggnhggkaa.Below.keeps B2 k3 B2.size (fun k e => by omega)
    have hsz : (w2.setRow g9 cs).heap.size = w2.heap.size := by simp [World.setRow]
    rw [← hsz] at t3 t7 t11 r9
    obtain ⟨w3, hw3⟩ : ∃ w3, w3 = w2.setRow g9 cs := ⟨_, rfl⟩
    rw [← hw3] at hg3 P3 P7 P11 B3 t3 t7 t11 r9 ⊢
    rw [hcs] at hg3
    have HOWN := hid (And.intro P3 (And.intro P7 P11))
    have HSEP := hid (And.intro d37 (And.intro d311 d711))
    have HOUT := hid (And.intro m3 (And.intro m7 m11))
    have HTOP := hid (And.intro t3 (And.intro t7 t11))
    have HB3 := hid B3
    have HG3 := hid hg3
    have hs3 := B3.size
    clear O3 O7 O11 k3 hg3 P3 P7 P11 B3 d37 d311 d711 m3 m7 m11 t3 t7 t11 hcs cs hw3 R9 hsz B2
    have HKB := hid (fun wr (hk : Keeps (· = g9) w3 wr) => show Below w.heap.size w wr from Proofs.Ytbncmeggnhggkaa.Below.keeps (HB1.out.trans (HB3.out.mono (by omega))) hk (by omega) (fun k e => by omega))
    (with_reducible refine wpMix_nil ?_)
    go_wp2_with fail
    go_loopw [4] (fun i wr => ∃ k : Nat, k ≤ n3 ∧ i = .int .i64 k ∧ Hid (∃ b c, wr.heap[g9]? = some (.cells #[.slice b3 n0 d3, .slice b7 n1 d7, .slice b11 n2 d11, .slice b k c] 44 (0, 0)) ∧ OwL wr w3.heap.size wr.heap.size b c ((s.buf.map flatB).take k)) ∧ Hid (Keeps (· = g9) w3 wr)) (fun i _ => n3 - (intOf i).toNat)
    case atStart => exact ⟨0, Nat.zero_le _, rfl, hid ⟨none, 0, HG3.out, by rw [List.take_zero]; exact OwL.nil _ _ _⟩, hid (Keeps.refl _ _)⟩
    case round =>
      obtain ⟨k, hk, rfl, HL, HK⟩ := hrel
      obtain ⟨b, c, hgr, hol⟩ := HL.out
      have HGR := hid hgr
      have HOL := hid hol
      have hsr := HK.out.size
      have cbx : wr.cell? ⟨w.heap.size, 3, none⟩ = some (.slice a3 n3 c3) := by
        rw [cell_of_row wr w.heap.size 3 _ 44 (0, 0) ((HK.out.block _ (by omega) (by omega)).trans ((HB3.out.block _ (by omega)).trans HBOX.out))]
        rfl
      clear HL hgr hol
      by_cases hlt : k < n3
      · have hsm : k < (s.buf.map flatB).length := by rw [List.length_map, ← HN.out.2.2.2]; exact hlt
        obtain ⟨b', off, r, c', ys, hab, hbl, hys, hcell, hrd, hcap⟩ := HRD.out.buf.at' k hsm
        have hab : a3 = some ⟨b', off, none⟩ := hab
        subst hab
        have Bwr := HKB.out wr HK.out
        have hcw := (Bwr.cell (p := ⟨b', off + k, none⟩) hbl).trans hcell
        have HYW := hid (hrd.below Bwr)
        have hyl : ys.length ≤ 2000 := by
          rw [List.getElem?_map] at hys
          obtain ⟨z, hz, rfl⟩ := Option.map_eq_some_iff.1 hys
          rw [length_flatB]
          have := HL4.out z (List.mem_of_getElem? hz)
          omega
        obtain ⟨m, hm⟩ : ∃ m, m = ys.length := ⟨_, rfl⟩
        have HM := hid hm
        rw [← hm] at hcw hyl
        have HYS := hid hys
        have HST := hid (show (s.buf.map flatB).take (k + 1) = (s.buf.map flatB).take k ++ [ys] by
          rw [List.take_add_one, hys]; rfl)
        have HLEN := hid (show ((s.buf.map flatB).take k).length = k by rw [List.length_take]; omega)
        have cg3 : wr.cell? ⟨g9, 3, none⟩ = some (.slice b k c) := by rw [cell_of_row wr g9 3 _ _ _ HGR.out]; rfl
        have fg3 : wr.frozen? ⟨g9, 3, none⟩ = false := frozen_of_row wr g9 3 _ _ HGR.out
        have hbt : ∀ x, blk b = some x → w3.heap.size ≤ x := fun x hx => by
          obtain ⟨rs, _, ho, _⟩ := HOL.out
          exact (own_blk ho x hx).1
        have HBT := hid hbt
        have hb'3 : b' < w3.heap.size := by have := HB1.out.size; omega
        clear hbl hcell hrd hcap hsm hm hys Bwr hbt
        go_wp2_with fail
        refine FR.wp_region_free 11 (Cp5 wr w3.heap.size b c ((s.buf.map flatB).take k) ys) (by kernel_rfl) (by kernel_rfl) (by kernel_rfl) (fun _ => undef) (Cp5.start HOL.out _) fun V2 => ?_
        have HQ := hid (fun (j : Nat) S ρ w' (h : Cp5 wr w3.heap.size b c ((s.buf.map flatB).take k) ys S ρ w') (h10 : S 10 = false) (e : S j = true ∧ ρ j = V2 j) => show cp5Q wr ys j w' (V2 j) from by have := (h.p h10).1.part j e.1; rw [e.2] at this; exact this)
        have HCL := hid (fun S ρ w' (h : Cp5 wr w3.heap.size b c ((s.buf.map flatB).take k) ys S ρ w') (p : Addr) u (hp : p.block < w3.heap.size) (hc : wr.cell? p = some u) => show w'.cell? p = some u from (World.cell?_of_block (h.keeps.block p.block (by omega) (fun e => by have := HBT.out _ e; omega))).trans hc)
        (refine FR.frGo_pure _ rfl (fun K hK => ?_); go_simp; (first | refine hK _ ?_ | refine ⟨_, fun W hW => rfl, hK _ ?_⟩ | refine ⟨_, fun W hW => ⟨rfl, rfl⟩, hK _ ?_⟩); clear hK K)
        refine FR.frGo_held _ rfl (fun w' => w'.cell? ⟨g9, 3, none⟩ = some (.slice b k c)) (fun S ρ w' h _ => HCL.out S ρ w' h _ _ r9.2 cg3) (fun K hK => ?_)
        go_simp
        refine ⟨.slice b k c, fun W hW => ?_, hK _ ?_⟩
        · go_simp
        clear hK K
        refine FR.frGo_act (k := 2) _ rfl (fun S ρ w' hI hS hp K hK => ?_) ?_
        · have h10 := hI.late (.inr (.inr hS))
          have h8 : S 8 = false := by cases e : S 8 with | false => rfl | true => (have := hI.ord.2.2 e; rw [hS] at this; cases this)
          have h9 : S 9 = false := by cases e : S 9 with | false => rfl | true => (have := hI.ord.2.1 e; rw [h8] at this; cases this)
          go_simp
          exact hK _ _ (hI.step (by decide) h10 ⟨fun e => (by rw [FR.upd_ne _ _ (by decide), h9] at e; cases e), fun e => (by rw [FR.upd_same])⟩ ((Below.refl _ _).alloc (Nat.le_refl _) _) ((hI.p h10).1.new (cp5Q_stays _ _) _ (IsLit.new wr w' _ (hI.p h10).1.below.size) rfl))
        (refine FR.frGo_pure _ rfl (fun K hK => ?_); go_simp; (first | refine hK _ ?_ | refine ⟨_, fun W hW => rfl, hK _ ?_⟩ | refine ⟨_, fun W hW => ⟨rfl, rfl⟩, hK _ ?_⟩); clear hK K)
        refine FR.frGo_held _ rfl (fun w' => w'.cell? ⟨w.heap.size, 3, none⟩ = some (.slice (some ⟨b', off, none⟩) n3 c3)) (fun S ρ w' h _ => HCL.out S ρ w' h _ _ (by show w.heap.size < _; omega) cbx) (fun K hK => ?_)
        go_simp
        refine ⟨.slice (some ⟨b', off, none⟩) n3 c3, fun W hW => ?_, hK _ ?_⟩
        · go_simp
        clear hK K
        (refine FR.frGo_pure _ rfl (fun K hK => ?_); go_simp; (first | refine hK _ ?_ | refine ⟨_, fun W hW => rfl, hK _ ?_⟩ | refine ⟨_, fun W hW => ⟨rfl, rfl⟩, hK _ ?_⟩); clear hK K)
        (refine FR.frGo_pure _ rfl (fun K hK => ?_); go_simp; (first | refine hK _ ?_ | refine ⟨_, fun W hW => rfl, hK _ ?_⟩ | refine ⟨_, fun W hW => ⟨rfl, rfl⟩, hK _ ?_⟩); clear hK K)
        refine FR.frGo_held _ rfl (fun w' => w'.cell? ⟨b', off + k, none⟩ = some (.slice r m c')) (fun S ρ w' h _ => HCL.out S ρ w' h _ _ hb'3 hcw) (fun K hK => ?_)
        go_simp
        refine ⟨.slice r m c', fun W hW => ?_, hK _ ?_⟩
        · go_simp
        clear hK K
        refine FR.frGo_act (k := 8) _ rfl (fun S ρ w' hI hS hp K hK => ?_) ?_
        · have h10 := hI.late (.inr (.inl hS))
          have h9 : S 9 = false := by cases e : S 9 with | false => rfl | true => (have := hI.ord.2.1 e; rw [hS] at this; cases this)
          have hp2 := hp 2 (by kernel_rfl)
          have q2 : IsLit wr w' 3 (V2 2) := HQ.out 2 S ρ w' hI h10 hp2
          refine oper_append_lit wr _ _ 23 rfl 3 (.int .i64 0) 1 8 Try.underlying23 Try.info_int rfl (by decide) (V2 2) rfl q2 r m c' (ints ys) rfl (HYW.out.below (hI.p h10).1.below) (by simp [HM.out]) (ints_one _ _) (by omega) (by decide) ?_
          intro a' c' w'' hown hb hat
          refine hK _ _ (hI.step (by decide) h10 ⟨fun e => (by rw [FR.upd_ne _ _ (by decide), h9] at e; cases e), fun e => (by rw [FR.upd_ne _ _ (by decide)]; exact hp2.1)⟩ hb ((hI.p h10).1.step (cp5Q_stays _ _) hb ⟨a', c', by rw [HM.out], by rw [← HM.out]; exact hown⟩ fun b e => ?_))
          rcases hat b e with h | h
          · exact .inr ⟨2, hp2.1, by decide, rfl, by rw [hp2.2]; exact h⟩
          · exact .inl h
        refine FR.frGo_act (k := 9) _ rfl (fun S ρ w' hI hS hp K hK => ?_) ?_
        · have h10 := hI.late (.inl hS)
          have hp8 := hp 8 (by kernel_rfl)
          have q8 : IsOwn wr.heap.size ys w' (V2 8) := HQ.out 8 S ρ w' hI h10 hp8
          obtain ⟨a8, c8, e8, o8⟩ := id q8
          rw [e8] at hK ⊢
          go_simp
          rw [e8] at q8
          refine hK _ _ (hI.step (by decide) h10 ⟨fun e => (by rw [FR.upd_ne _ _ (by decide)]; exact hp8.1), fun e => (by rw [FR.upd_ne _ _ (by decide)]; exact hI.ord.2.2 hp8.1)⟩ ((Below.refl _ _).alloc (Nat.le_refl _) _) ((hI.p h10).1.new (cp5Q_stays _ _) _ (IsOne.new q8 _) rfl))
        refine FR.frGo_act (k := 10) _ rfl (fun S ρ w' hI hS hp K hK => ?_) ?_
        · have hp9 := hp 9 (by kernel_rfl)
          obtain ⟨H, u, e9, hu, a8, c8, rfl, o8⟩ := show IsOne wr.heap.size ys w' (V2 9) from HQ.out 9 S ρ w' hI hS hp9
          have hol := (hI.p hS).2
          refine oper_pushI _ _ rfl w3.heap.size wr.heap.size b k c _ HLEN.out rfl hol a8 c8 ys.length ys rfl (own_base o8 (by omega)) (fun x hx => (own_blk o8 x hx).1) ⟨H, 0, none⟩ e9 hu (by omega) (by have := hI.keeps.size; omega) ?_
          intro a' c' w'' ho hg
          have := hI.last hp9.1 hg ho
          rw [HLEN.out] at this
          exact hK _ _ this
        refine FR.frGo_nil _ ?_
        intro S ρ w5 hI hS
        have z10 := hS 10 (by decide) (by kernel_rfl)
        obtain ⟨a', c'', e10, hol5⟩ := hI.f z10.1
        rw [z10.2, HLEN.out] at e10
        rw [← HST.out] at hol5
        rw [e10]
        have hk5 := hI.keeps
        have hbg : ∀ x, blk b = some x → x ≠ g9 := fun x hx e => by have := HBT.out x hx; omega
        have hg5 : w5.heap[g9]? = some (.cells #[.slice b3 n0 d3, .slice b7 n1 d7, .slice b11 n2 d11, .slice b k c] 44 (0, 0)) := (hk5.block g9 (by omega) (fun e => hbg g9 e rfl)).trans HGR.out
        have cg5 : w5.cell? ⟨g9, 3, none⟩ = some (.slice b k c) := by rw [cell_of_row w5 g9 3 _ _ _ hg5]; rfl
        have fg5 : w5.frozen? ⟨g9, 3, none⟩ = false := frozen_of_row w5 g9 3 _ _ hg5
        have hg6 : (w5.setCell ⟨g9, 3, none⟩ (.slice a' (k + 1) c'')).heap[g9]? = some (.cells #[.slice b3 n0 d3, .slice b7 n1 d7, .slice b11 n2 d11, .slice a' (k + 1) c''] 44 (0, 0)) := by
          have := heap_setCell_same w5 g9 3 _ _ (.slice a' (k + 1) c'') hg5
          simpa using this
        have hk6 : Keeps (· = g9) w3 (w5.setCell ⟨g9, 3, none⟩ (.slice a' (k + 1) c'')) := by
          refine ⟨hk5.os.trans HK.out.os, hk5.tape.trans HK.out.tape, hk5.output.trans HK.out.output, ?_, fun x hx hne => ?_⟩
          · have := hk5.size; simp [World.setCell]; omega
          · rw [heap_setCell_other w5 ⟨g9, 3, none⟩ x _ (by simpa using hne), hk5.block x (by omega) (fun e => by have := HBT.out x e; omega)]
            exact HK.out.block x hx hne
        have hol6 : OwL (w5.setCell ⟨g9, 3, none⟩ (.slice a' (k + 1) c'')) w3.heap.size (w5.setCell ⟨g9, 3, none⟩ (.slice a' (k + 1) c'')).heap.size a' c'' ((s.buf.map flatB).take (k + 1)) := by
          have := hol5.keeps (Keeps.setCell w5 ⟨g9, 3, none⟩ (.slice a' (k + 1) c'')) (fun x hx _ e => by simp at e; omega)
          simpa [World.setCell] using this
        have HG6 := hid hg6
        have HK6 := hid hk6
        have HOL6 := hid hol6
        clear hg6 hk6 hol6 hg5 hk5 hol5 hbg hS hI z10 e10 HQ HCL
        refine wpMix_rd rfl rfl (fun K hK => ?_)
        go_simp
        refine hK _ ?_
        clear hK K
        refine wpMix_act rfl rfl (fun K hK => ?_)
        go_simp
        refine hK _ _ ?_
        clear hK K
        (with_reducible refine wpMix_nil ?_)
        go_wp2_with fail
        go_roundw
        case rel => exact ⟨k + 1, by omega, by go_num, hid ⟨_, _, HG6.out, HOL6.out⟩, HK6⟩
        case measure => simp [intOf]; omega
      · obtain rfl : k = n3 := by omega
        have hall : (s.buf.map flatB).take k = s.buf.map flatB := List.take_of_length_le (by rw [List.length_map, ← HN.out.2.2.2]; omega)
        have hol := HOL.out
        rw [hall] at hol
        have HK' := HK.out
        have hres : wr.heap[w.heap.size + 1]? = some (.cells zSt 44 (0, 0)) := (HK'.block _ (by omega) (by omega)).trans ((HB3.out.block _ (by omega)).trans HRES.out)
        have HRE := hid hres
        have HOLF := hid hol
        have HONE := hid (show (#[.slice b3 n0 d3, .slice b7 n1 d7, .slice b11 n2 d11, .slice b k c] : Array Value).all (·.oneCell') = true from by simp [Value.oneCell'])
        clear hol hall hres
        go_wp2_with (first | (refine wpList_load_row rfl 44 (.tmp 3) rfl g9 rfl 44 _ (0, 0) _ HGR.out Try.underlying44 rfl (by kernel_rfl) ?_) | (refine wpList_store_row rfl 44 (.tmp 2) (.tmp 37) rfl (w.heap.size + 1) #[.slice b3 n0 d3, .slice b7 n1 d7, .slice b11 n2 d11, .slice b k c] rfl rfl 44 zSt HRE.out (by kernel_rfl) rfl HONE.out ?_))
        refine bodyPost_ret (results_cell_row rfl _ _ (w.heap.size + 1) 44 _ (0, 0) _ rfl (setRow_heap _ _ _ _ _ _ HRE.out) Try.underlying44 rfl (by kernel_rfl)) rfl ⟨⟨b3, d3, b7, d7, b11, d11, b, c⟩, rfl, ?_, ?_⟩
        · have hkf := keeps_setRow wr (w.heap.size + 1) #[.slice b3 n0 d3, .slice b7 n1 d7, .slice b11 n2 d11, .slice b k c]
          have ownb : ∀ (x : Option Addr) n d xs, w3.ownsRow w1.heap.size 3 1 (.slice x n d) n (ints xs) → (∀ y, blk x = some y → y ≠ g9) → n = xs.length → OwI (wr.setRow (w.heap.size + 1) #[.slice b3 n0 d3, .slice b7 n1 d7, .slice b11 n2 d11, .slice b k c]) w.heap.size x d xs := by
            rintro x n d xs ho hne rfl
            exact own_base (own_keeps (own_keeps ho HK' fun y hy e => hne y hy e) hkf fun y hy e => by have := (own_blk ho y hy).1; omega) (by omega)
          refine ⟨ownb _ _ _ _ HOWN.out.1 HOUT.out.1 HN.out.1, ownb _ _ _ _ HOWN.out.2.1 HOUT.out.2.1 HN.out.2.1, ownb _ _ _ _ HOWN.out.2.2 HOUT.out.2.2 HN.out.2.2.1, HSEP.out.1, HSEP.out.2.1, HSEP.out.2.2, w3.heap.size, by omega, HTOP.out.1, HTOP.out.2.1, HTOP.out.2.2, ?_⟩
          have := HOLF.out.keeps hkf (fun x hx _ e => by omega)
          simpa [World.setRow] using this
        · exact Proofs.Ytbncmeggnhggkaa.Below.keeps (HKB.out wr HK') (keeps_setRow wr (w.heap.size + 1) _) (by omega) (fun x e => by omega)
  · have bad : ∀ S ρ w', Parts w1 copyG (copyQ w1 s) S ρ w' → (S 3 = true ∧ ρ 3 = V 3) → (S 7 = true ∧ ρ 7 = V 7) → (S 11 = true ∧ ρ 11 = V 11) → False := fun S ρ w' h e2 e6 e7 => by
      obtain ⟨a2, b2, r2, _⟩ := Q3.out S ρ w' h e2
      obtain ⟨a6, b6, r6, _⟩ := Q7.out S ρ w' h e6
      obtain ⟨a7, b7, r7, _⟩ := Q11.out S ρ w' h e7
      rw [← HN.out.1] at r2
      rw [← HN.out.2.1] at r6
      rw [← HN.out.2.2.1] at r7
      exact hV ⟨a2, b2, a6, b6, a7, b7, r2, r6, r7⟩
    refine frGo_bad rfl (fun S ρ w h hp => bad S ρ w h (hp 3 (by kernel_rfl)) (hp 7 (by kernel_rfl)) (hp 11 (by kernel_rfl))) ?_
    refine FR.frGo_act (k := 13) _ rfl (fun S ρ w' hI hS hp K hK => ?_) ?_
    · go_simp
      exact hK _ _ (hI.new (copyQ_stays _ _) _ ⟨_, rfl, heap_alloc_new _ _⟩ rfl)
    exact FR.frGo_nil _ fun S ρ w2 hI hS => (bad S ρ w2 hI (hS 3 (by decide) (by kernel_rfl)) (hS 7 (by decide) (by kernel_rfl)) (hS 11 (by decide) (by kernel_rfl))).elim
end Go.Proofs.Ytbncmeggnhggkaa
