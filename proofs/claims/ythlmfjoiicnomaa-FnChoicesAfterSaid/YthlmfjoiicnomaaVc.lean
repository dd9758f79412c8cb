/-
  PROVED HERE: what spec.l5Copy does. CONDITIONS: as each theorem states.
-/
import Derived.Test.YthlmfjoiicnomaaVn
import Derived.Test.YthlmfjoiicnomaaVi
namespace Go.Proofs.Ythlmfjoiicnomaa
open Go.RowKit
set_option linter.unusedVariables false
set_option linter.unusedSimpArgs false

theorem Try.info_mrow : (Try.prog.info? 118).map (fun i => (i.zero, i.size, i.bytes)) = some (some (.slice none 0 0), 1, 24) := by kernel_rfl
def cq (s : Vs) (i : Nat) : Ct := { ct s with nl := i }
def cpc (s : Vs) (i j : Nat) : Ct := { ct s with nl := i + 1, N := fun l => if l = i then j else (row5 s l).length }
theorem cpc_start (s : Vs) (i : Nat) : CtEq (cq s i).addR (cpc s i 0) :=
  ⟨rfl, rfl, fun l hl => rfl, fun ix hx => rfl, fun l k hl hk => ⟨rfl, rfl⟩⟩
theorem cpc_step (s : Vs) (i j : Nat) : CtEq ((cpc s i j).addM i ((row5 s i).getD j msZ).val ((row5 s i).getD j msZ).lock ((row5 s i).getD j msZ).view) (cpc s i (j + 1)) := by
  have eN : (cpc s i j).N i = j := by show (if i = i then j else _) = j; rw [if_pos rfl]
  refine ⟨rfl, rfl, fun l hl => ?_, fun ix hx => ?_, fun l k hl hk => ?_⟩
  · show (if l = i then j + 1 else (row5 s l).length) = if l = i then (cpc s i j).N i + 1 else (if l = i then j else (row5 s l).length)
    rw [eN]
    split <;> rfl
  · show (ct s).X ix = if ix = (i + 2, (cpc s i j).N i) then _ else (ct s).X ix
    rw [eN]
    by_cases e : ix = (i + 2, j)
    · subst e; rw [if_pos rfl]; rfl
    · rw [if_neg e]
  · show (ct s).MV l k = (if l = i ∧ k = (cpc s i j).N i then _ else (ct s).MV l k) ∧ (ct s).LK l k = (if l = i ∧ k = (cpc s i j).N i then _ else (ct s).LK l k)
    rw [eN]
    by_cases e : l = i ∧ k = j
    · obtain ⟨rfl, rfl⟩ := e
      rw [if_pos ⟨rfl, rfl⟩, if_pos ⟨rfl, rfl⟩]
      exact ⟨rfl, rfl⟩
    · rw [if_neg e, if_neg e]
      exact ⟨rfl, rfl⟩
theorem cpc_end (s : Vs) (i : Nat) : CtEq (cpc s i (row5 s i).length) (cq s (i + 1)) := by
  refine ⟨rfl, rfl, fun l hl => ?_, fun ix hx => rfl, fun l k hl hk => ⟨rfl, rfl⟩⟩
  show (row5 s l).length = if l = i then (row5 s i).length else (row5 s l).length
  split
  · rename_i e; rw [e]
  · rfl
theorem cq_all {s : Vs} (h : s.list.length = 3) : CtEq (cq s 3) (ct s) := ⟨rfl, h, fun l hl => rfl, fun ix hx => rfl, fun l k hl hk => ⟨rfl, rfl⟩⟩
/-- A change of a block of another kind. -/
theorem OwC.oth {w w' : World} {base : Nat} {q : Sp} {y : Ly} {c : Ct} {n g : Nat} {cs : Array Value} {T : TypeId} (h : OwC w base q y c n) (hg : w.heap[g]? = some (.cells cs T (0, 0))) (h1 : T ≠ 3) (h2 : T ≠ 24) (h3 : T ≠ 118) (h4 : T ≠ 117) (hk : Keeps (· = g) w w') : OwC w' base q y c n := by
  obtain ⟨k1, k2, k3, k4⟩ := h.kind hg
  exact ⟨fun ix hx => own_keeps (h.int ix hx) hk fun b hb e => k1 h1 ix hx (by rw [hb, e]), h.dis, h.h0, h.h1, own_keeps h.vo hk fun b hb e => k2 h2 (by rw [hb, e]), own_keeps h.lo hk fun b hb e => k3 h3 (by rw [hb, e]), fun l hl => own_keeps (h.row l hl) hk fun b hb e => k4 h4 l hl (by rw [hb, e]), h.ldis, h.len, h.nle⟩
theorem OwL.toC {w : World} {base B B2 top : Nat} {q : Sp} {s : Vs} (h0 : w.ownsRow B 3 1 (.slice q.a0 s.st.pc.length q.c0) s.st.pc.length (ints s.st.pc)) (h1 : w.ownsRow B 3 1 (.slice q.a1 s.st.regs.length q.c1) s.st.regs.length (ints s.st.regs)) (d01 : ∀ b, blk q.a0 = some b → blk q.a1 ≠ some b) (t0 : ∀ b, blk q.a0 = some b → b < B2) (t1 : ∀ b, blk q.a1 = some b → b < B2)
    (hv : OwL w B2 top q.a2 q.c2 s.view) (hl : ∀ v ∈ s.view, v.length = 3) (h3 : q.a3 = none) (h4 : q.c3 = 0) (hB : base ≤ B) (hB2 : base ≤ B2) : ∃ y, OwC w base q y (cq s 0) 0 := by
  obtain ⟨rs, hrl, ho, hi, hd, _, _⟩ := hv
  have hrow : ∀ t, t < s.view.length → ∃ r, rs[t]? = some r ∧ rs.getD t (none, 0) = r ∧ OwI w B2 r.1 r.2 (vw s t) ∧ (vw s t).length = 3 := fun t ht => by
    have e1 : rs[t]? = some (rs[t]'(by omega)) := List.getElem?_eq_getElem (by omega)
    have e2 : s.view[t]? = some (s.view[t]'ht) := List.getElem?_eq_getElem ht
    refine ⟨_, e1, by rw [List.getD_eq_getElem?_getD, e1]; rfl, ?_, ?_⟩
    · rw [vw_of e2]; exact hi t _ _ e1 e2
    · rw [vw_of e2]; exact hl _ (List.getElem_mem _)
  refine ⟨⟨fun ix => match ix with | (0, 0) => (q.a0, q.c0) | (0, _ + 1) => (q.a1, q.c1) | (a + 1, t) => rs.getD t (none, 0), fun l => (none, 0)⟩, ?_, ?_, rfl, rfl, ?_, ?_, fun l hl' => absurd hl' (Nat.not_lt_zero _), fun l l' b hl' => absurd hl' (Nat.not_lt_zero _), ?_, Nat.le_refl _⟩
  · rintro ⟨a, b⟩ hx
    have hx : (a = 0 ∧ b < 2) ∨ (a = 1 ∧ b < s.view.length) ∨ (2 ≤ a ∧ a < 0 + 2 ∧ b < _) := hx
    rcases hx with ⟨rfl, h2⟩ | ⟨rfl, h2⟩ | ⟨h5, h6, _⟩
    · have : b = 0 ∨ b = 1 := by omega
      rcases this with rfl | rfl
      · exact own_base h0 hB
      · exact own_base h1 hB
    · obtain ⟨r, e1, e2, e3, _⟩ := hrow b h2
      show OwI w base (rs.getD b (none, 0)).1 (rs.getD b (none, 0)).2 (vw s b)
      rw [e2]
      exact own_base e3 hB2
    · omega
  · rintro ⟨a, b⟩ ⟨a', b'⟩ x hx hy
    have hx : (a = 0 ∧ b < 2) ∨ (a = 1 ∧ b < s.view.length) ∨ (2 ≤ a ∧ a < 0 + 2 ∧ b < _) := hx
    have hy : (a' = 0 ∧ b' < 2) ∨ (a' = 1 ∧ b' < s.view.length) ∨ (2 ≤ a' ∧ a' < 0 + 2 ∧ b' < _) := hy
    have vlow : ∀ t x, t < s.view.length → blk (rs.getD t (none, 0)).1 = some x → B2 ≤ x := fun t x ht hx => by
      obtain ⟨r, e1, e2, e3, _⟩ := hrow t ht
      rw [e2] at hx
      exact (own_blk e3 x hx).1
    rcases hx with ⟨rfl, h2⟩ | ⟨rfl, h2⟩ | ⟨h5, h6, _⟩
    · rcases hy with ⟨rfl, h2'⟩ | ⟨rfl, h2'⟩ | ⟨h5, h6, _⟩
      · have e1 : b = 0 ∨ b = 1 := by omega
        have e2 : b' = 0 ∨ b' = 1 := by omega
        rcases e1 with rfl | rfl <;> rcases e2 with rfl | rfl
        · intro _ _; rfl
        · intro k1 k2; exact absurd k2 (d01 x k1)
        · intro k1 k2; exact absurd k1 (d01 x k2)
        · intro _ _; rfl
      · intro k1 k2
        have k2 := vlow b' x h2' k2
        have e1 : b = 0 ∨ b = 1 := by omega
        rcases e1 with rfl | rfl
        · have := t0 x k1; omega
        · have := t1 x k1; omega
      · omega
    · rcases hy with ⟨rfl, h2'⟩ | ⟨rfl, h2'⟩ | ⟨h5, h6, _⟩
      · intro k1 k2
        have k1 := vlow b x h2 k1
        have e1 : b' = 0 ∨ b' = 1 := by omega
        rcases e1 with rfl | rfl
        · have := t0 x k2; omega
        · have := t1 x k2; omega
      · intro k1 k2
        obtain ⟨r, e1, e2, _⟩ := hrow b h2
        obtain ⟨r', e1', e2', _⟩ := hrow b' h2'
        have k1 : blk (rs.getD b (none, 0)).1 = some x := k1
        have k2 : blk (rs.getD b' (none, 0)).1 = some x := k2
        rw [e2] at k1
        rw [e2'] at k2
        rw [hd b b' r r' x e1 e1' k1 k2]
      · omega
    · omega
  · have e : vcells ⟨fun ix => match ix with | (0, 0) => (q.a0, q.c0) | (0, _ + 1) => (q.a1, q.c1) | (a + 1, t) => rs.getD t (none, 0), fun l => (none, 0)⟩ s.view.length = rowsL rs s.view := by
      apply List.ext_getElem?
      intro t
      by_cases ht : t < s.view.length
      · obtain ⟨r, e1, e2, _, e4⟩ := hrow t ht
        have e5 : s.view[t]? = some (s.view[t]'ht) := List.getElem?_eq_getElem ht
        rw [vcells_get ht, rowsL_get e1 e5]
        show some (Value.slice (rs.getD t (none, 0)).1 3 (rs.getD t (none, 0)).2) = _
        rw [e2, ← vw_of e5, e4]
      · rw [List.getElem?_eq_none (by rw [vcells_len]; omega), List.getElem?_eq_none (by rw [length_rowsL hrl]; omega)]
    show w.ownsRow base 24 1 (.slice q.a2 s.view.length q.c2) s.view.length (vcells _ s.view.length)
    rw [e]
    exact own_base ho hB2
  · rw [h3, h4]
    exact own_none w base 118 1
  · rintro ⟨a, b⟩ hx h1'
    have hx : (a = 0 ∧ b < 2) ∨ (a = 1 ∧ b < s.view.length) ∨ (2 ≤ a ∧ a < 0 + 2 ∧ b < _) := hx
    have h1' : 1 ≤ a := h1'
    rcases hx with ⟨rfl, h2⟩ | ⟨rfl, h2⟩ | ⟨h5, h6, _⟩
    · omega
    · obtain ⟨r, _, _, _, e4⟩ := hrow b h2
      exact e4
    · omega
theorem keeps_new {S S' : Nat → Prop} {a b c : World} (h : Keeps S a b) (h' : Keeps S' b c) (hs : ∀ k, S' k → S k ∨ a.heap.size ≤ k) : Keeps S a c :=
  ⟨h'.os.trans h.os, h'.tape.trans h.tape, h'.output.trans h.output, Nat.le_trans h.size h'.size, fun k hk hn => (h'.block k (Nat.lt_of_lt_of_le hk h.size) fun e => by rcases hs k e with e | e; exact hn e; omega).trans (h.block k hk hn)⟩
def copyV (w1 : World) (s : Vs) (k : Nat) (w : World) (v : Value) : Prop :=
  if k = 0 then IsLit w1 w 3 v else if k = 4 then IsLit w1 w 3 v else
  if k = 3 then IsOwn w1.heap.size s.st.pc w v else if k = 7 then IsOwn w1.heap.size s.st.regs w v else if k = 9 then IsCells zSt 59 w v else True
theorem copyV_stays (w1 : World) (s : Vs) : Stays (copyV w1 s) := by
  intro k w w' v h hb
  unfold copyV at h ⊢
  repeat' split
  all_goals first | trivial | skip
  all_goals simp_all only [if_true, if_false]
  all_goals first | exact IsLit.below h hb | exact IsOwn.below h hb | exact IsCells.below h hb
def copyGV (k : Nat) : Nat := if k ≤ 3 then 0 else if k ≤ 7 then 1 else 2
set_option maxRecDepth 100000 in
set_option maxHeartbeats 6400000 in
theorem l5Copy_c (w : World) (q : Sp) (y0 : Ly) (s : Vs) (h : RdC w q y0 (ct s)) (l0 : s.st.pc.length ≤ 1000) (l1 : s.st.regs.length ≤ 1000) (l2 : s.view.length ≤ 1000) (l3 : s.list.length = 3) (l4 : ∀ l, l < 3 → (row5 s l).length ≤ 1000) :
    Calls Try.prog 86 #[q.v5 s] w fun e w' => ∃ (q' : Sp) (y' : Ly), e = .returned (q'.v5 s) ∧ OwC w' w.heap.size q' y' (ct s) 3 ∧ Below w.heap.size w w' := by
  obtain ⟨a0, c0, a1, c1, a2, c2, a3, c3⟩ := q
  obtain ⟨n0, hn0⟩ : ∃ n, n = s.st.pc.length := ⟨_, rfl⟩
  obtain ⟨n1, hn1⟩ : ∃ n, n = s.st.regs.length := ⟨_, rfl⟩
  obtain ⟨n3, hn3⟩ : ∃ n, n = s.view.length := ⟨_, rfl⟩
  have HN := hid (And.intro hn0 (And.intro hn1 hn3))
  unfold Sp.v5 Sp.hd5
  rw [← hn0, ← hn1, ← hn3, l3]
  rw [← hn0] at l0
  rw [← hn1] at l1
  rw [← hn3] at l2
  have HL3 := hid l3
  clear hn0 hn1 hn3 l3
  have HPC := hid (h.int (0, 0) (dom0 _)).1
  rw [h.h0] at HPC
  have HRG := hid (h.int (0, 1) (dom1 _)).1
  rw [h.h1] at HRG
  have HL4 := hid l4
  have HRD := hid h
  clear l4 h
  go_enter Try.func86, Try.ntmps86
  go_wp2_with fail
  obtain ⟨w1, hw1⟩ : ∃ w1, w1 = (w.alloc (.cells #[.slice a0 n0 c0, .slice a1 n1 c1, .slice a2 n3 c2, .slice a3 3 c3] 59)).alloc (.cells zSt 59) := ⟨_, rfl⟩
  rw [← hw1]
  have hs1 : w1.heap.size = w.heap.size + 2 := by rw [hw1]; simp
  have hb1 : Below w.heap.size w w1 := by rw [hw1]; exact ((Below.refl _ _).alloc (Nat.le_refl _) _).alloc (by simp) _
  have hbox : w1.heap[w.heap.size]? = some (.cells #[.slice a0 n0 c0, .slice a1 n1 c1, .slice a2 n3 c2, .slice a3 3 c3] 59 (0, 0)) := by
    rw [hw1, heap_alloc_old _ _ (by simp)]
    exact heap_alloc_new w _
  have hres : w1.heap[w.heap.size + 1]? = some (.cells zSt 59 (0, 0)) := by
    rw [hw1]
    have := heap_alloc_new (w.alloc (.cells #[.slice a0 n0 c0, .slice a1 n1 c1, .slice a2 n3 c2, .slice a3 3 c3] 59)) (.cells zSt 59)
    simpa using this
  have HB1 := hid hb1
  have HBOX := hid hbox
  have HRES := hid hres
  have HRD1 := hid (HRD.out.below hb1)
  have HPC := hid (show Rd w1 a0 (ints s.st.pc) from HPC.out.below hb1)
  have HRG := hid (show Rd w1 a1 (ints s.st.regs) from HRG.out.below hb1)
  have cb : ∀ i v w', (#[.slice a0 n0 c0, .slice a1 n1 c1, .slice a2 n3 c2, .slice a3 3 c3] : Array Value)[i]? = some v → Below w1.heap.size w1 w' → w'.cell? ⟨w.heap.size, i, none⟩ = some v := fun i v w' hv hb => by
    rw [cell_of_row w' w.heap.size i _ 59 (0, 0) ((hb.block _ (by omega)).trans HBOX.out)]
    exact hv
  have HCB := hid cb
  clear hb1 hbox hres cb
  refine FR.wp_region_free 10 (Parts w1 copyGV (copyV w1 s)) (by kernel_rfl) (by kernel_rfl) (by kernel_rfl) (fun _ => undef) (Parts.start _ _ _ _) fun V => ?_
  have HP := hid (fun k => fun S ρ w' (h : Parts w1 copyGV (copyV w1 s) S ρ w') (e : S k = true ∧ ρ k = V k) => show copyV w1 s k w' (V k) from by have := h.part k e.1; rw [e.2] at this; exact this)
  refine FR.frGo_act (k := 0) _ rfl (fun S ρ w' hI hS hp K hK => ?_) ?_
  · go_simp
    exact hK _ _ (hI.new (copyV_stays _ _) _ (IsLit.new w1 w' _ hI.below.size) rfl)
  (refine FR.frGo_pure _ rfl (fun K hK => ?_); go_simp; (first | refine hK _ ?_ | refine ⟨_, fun W hW => rfl, hK _ ?_⟩ | refine ⟨_, fun W hW => ⟨rfl, rfl⟩, hK _ ?_⟩); clear hK K)
  refine FR.frGo_held _ rfl (fun w' => w'.cell? ⟨w.heap.size, 0, none⟩ = some (.slice a0 n0 c0)) (fun S ρ w' h _ => HCB.out 0 _ w' rfl h.below) (fun K hK => ?_)
  go_simp
  refine ⟨.slice a0 n0 c0, fun W hW => ?_, hK _ ?_⟩
  · go_simp
  clear hK K
  refine FR.frGo_act (k := 3) _ rfl (fun S ρ w' hI hS hp K hK => ?_) ?_
  · have hp0 := hp 0 (by kernel_rfl)
    have q0 : IsLit w1 w' 3 (V 0) := HP.out 0 S ρ w' hI hp0
    refine oper_append_lit w1 _ _ 24 rfl 3 (.int .i64 0) 1 8 Try.underlying24 Try.info_int rfl (by decide) (V 0) rfl q0 a0 n0 c0 (ints s.st.pc) rfl ((HPC.out).below hI.below) (by simp [HN.out.1]) (ints_one _ _) (by omega) (by decide) ?_
    intro a' c' w'' hown hb hat
    refine hK _ _ (hI.step (copyV_stays _ _) hb ⟨a', c', by rw [HN.out.1], by rw [← HN.out.1]; exact hown⟩ fun b e => ?_)
    rcases hat b e with h | h
    · exact .inr ⟨0, hp0.1, by decide, rfl, by rw [hp0.2]; exact h⟩
    · exact .inl h
  refine FR.frGo_act (k := 4) _ rfl (fun S ρ w' hI hS hp K hK => ?_) ?_
  · go_simp
    exact hK _ _ (hI.new (copyV_stays _ _) _ (IsLit.new w1 w' _ hI.below.size) rfl)
  (refine FR.frGo_pure _ rfl (fun K hK => ?_); go_simp; (first | refine hK _ ?_ | refine ⟨_, fun W hW => rfl, hK _ ?_⟩ | refine ⟨_, fun W hW => ⟨rfl, rfl⟩, hK _ ?_⟩); clear hK K)
  refine FR.frGo_held _ rfl (fun w' => w'.cell? ⟨w.heap.size, 1, none⟩ = some (.slice a1 n1 c1)) (fun S ρ w' h _ => HCB.out 1 _ w' rfl h.below) (fun K hK => ?_)
  go_simp
  refine ⟨.slice a1 n1 c1, fun W hW => ?_, hK _ ?_⟩
  · go_simp
  clear hK K
  refine FR.frGo_act (k := 7) _ rfl (fun S ρ w' hI hS hp K hK => ?_) ?_
  · have hp0 := hp 4 (by kernel_rfl)
    have q0 : IsLit w1 w' 3 (V 4) := HP.out 4 S ρ w' hI hp0
    refine oper_append_lit w1 _ _ 24 rfl 3 (.int .i64 0) 1 8 Try.underlying24 Try.info_int rfl (by decide) (V 4) rfl q0 a1 n1 c1 (ints s.st.regs) rfl ((HRG.out).below hI.below) (by simp [HN.out.2.1]) (ints_one _ _) (by omega) (by decide) ?_
    intro a' c' w'' hown hb hat
    refine hK _ _ (hI.step (copyV_stays _ _) hb ⟨a', c', by rw [HN.out.2.1], by rw [← HN.out.2.1]; exact hown⟩ fun b e => ?_)
    rcases hat b e with h | h
    · exact .inr ⟨4, hp0.1, by decide, rfl, by rw [hp0.2]; exact h⟩
    · exact .inl h
  have Q3 := hid (fun S ρ w' h e => show IsOwn w1.heap.size s.st.pc w' (V 3) from HP.out 3 S ρ w' h e)
  have Q7 := hid (fun S ρ w' h e => show IsOwn w1.heap.size s.st.regs w' (V 7) from HP.out 7 S ρ w' h e)
  have Q9 := hid (fun S ρ w' h e => show IsCells zSt 59 w' (V 9) from HP.out 9 S ρ w' h e)
  clear HP
  by_cases hV : ∃ b3 d3 b7 d7, V 3 = .slice b3 n0 d3 ∧ V 7 = .slice b7 n1 d7
  · obtain ⟨b3, d3, b7, d7, h3, h7⟩ := hV
    have H3 := hid h3
    have H7 := hid h7
    rw [h3, h7]
    clear h3 h7
    (refine FR.frGo_pure _ rfl (fun K hK => ?_); go_simp; (first | refine hK _ ?_ | refine ⟨_, fun W hW => rfl, hK _ ?_⟩ | refine ⟨_, fun W hW => ⟨rfl, rfl⟩, hK _ ?_⟩); clear hK K)
    refine FR.frGo_act (k := 9) _ rfl (fun S ρ w' hI hS hp K hK => ?_) ?_
    · go_simp
      exact hK _ _ (hI.new (copyV_stays _ _) _ ⟨_, rfl, heap_alloc_new _ _⟩ rfl)
    refine FR.frGo_nil _ ?_
    intro S ρ w2 hI hS
    have z3 := hS 3 (by decide) (by kernel_rfl)
    have z7 := hS 7 (by decide) (by kernel_rfl)
    have z9 := hS 9 (by decide) (by kernel_rfl)
    have R3 := Q3.out S ρ w2 hI z3
    have R7 := Q7.out S ρ w2 hI z7
    obtain ⟨g9, e9, R9⟩ := Q9.out S ρ w2 hI z9
    rw [e9]
    refine wpMix_act rfl rfl (fun K hK => ?_)
    have sep : ∀ j k b, copyGV j ≠ copyGV k → (S j = true ∧ ρ j = V j) → (S k = true ∧ ρ k = V k) → vblk (V j) = some b → vblk (V k) ≠ some b := fun j k b hg hj hk h1 h2 => hI.sep j k b hj.1 hk.1 hg (by rw [hj.2]; exact h1) (by rw [hk.2]; exact h2)
    have rng : ∀ k b, (S k = true ∧ ρ k = V k) → vblk (V k) = some b → w1.heap.size ≤ b ∧ b < w2.heap.size := fun k b hk h1 => hI.rng k b hk.1 (by rw [hk.2]; exact h1)
    have d37 : ∀ b, blk b3 = some b → blk b7 ≠ some b := fun b h1 h2 => sep 3 7 b (by decide) z3 z7 (by rw [H3.out]; exact h1) (by rw [H7.out]; exact h2)
    have m3 : ∀ b, blk b3 = some b → b ≠ g9 := fun b h1 e => sep 3 9 b (by decide) z3 z9 (by rw [H3.out]; exact h1) (by rw [e9, e]; rfl)
    have m7 : ∀ b, blk b7 = some b → b ≠ g9 := fun b h1 e => sep 7 9 b (by decide) z7 z9 (by rw [H7.out]; exact h1) (by rw [e9, e]; rfl)
    have t3 : ∀ b, blk b3 = some b → b < w2.heap.size := fun b h1 => (rng 3 b z3 (by rw [H3.out]; exact h1)).2
    have t7 : ∀ b, blk b7 = some b → b < w2.heap.size := fun b h1 => (rng 7 b z7 (by rw [H7.out]; exact h1)).2
    have r9 := rng 9 g9 z9 (by rw [e9]; rfl)
    have B2 := hI.below
    have own : ∀ xs V0 (b : Option Addr) n d, n = xs.length → V0 = .slice b n d → IsOwn w1.heap.size xs w2 V0 → w2.ownsRow w1.heap.size 3 1 (.slice b n d) n (ints xs) := by
      rintro xs V0 b n d rfl rfl ⟨a, c, h1, h2⟩
      exact h2
    have O3 := own _ _ _ _ _ HN.out.1 H3.out R3
    have O7 := own _ _ _ _ _ HN.out.2.1 H7.out R7
    clear own sep rng hI hS z3 z7 z9 R3 R7 Q3 Q7 Q9 H3 H7 e9
    obtain ⟨cs, hcs⟩ : ∃ cs : Array Value, cs = #[.slice b3 n0 d3, .slice b7 n1 d7, zS, zS] := ⟨_, rfl⟩
    refine wp_store_row 59 _ _ rfl g9 cs rfl (by rw [hcs]; rfl) _ zSt R9 (by rw [hcs]; kernel_rfl) (by rw [hcs]; rfl) (by rw [hcs]; simp [Value.oneCell']) ?_
    refine hK _ _ ?_
    clear hK K
    have k3 := keeps_setRow w2 g9 cs
    have hg3 := setRow_heap w2 g9 _ cs _ _ R9
    have P3 := own_keeps O3 k3 (fun b hb e => m3 b hb e)
    have P7 := own_keeps O7 k3 (fun b hb e => m7 b hb e)
    have B3 : Below w1.heap.size w1 (w2.setRow g9 cs) := Proofs.Ythlmfjoiicnomaa.Below.keeps B2 k3 B2.size (fun k e => by omega)
    have hsz : (w2.setRow g9 cs).heap.size = w2.heap.size := by simp [World.setRow]
    rw [← hsz] at t3 t7 r9
    obtain ⟨w3, hw3⟩ : ∃ w3, w3 = w2.setRow g9 cs := ⟨_, rfl⟩
    rw [← hw3] at hg3 P3 P7 B3 t3 t7 r9 ⊢
    rw [hcs] at hg3
    have HOWN := hid (And.intro P3 P7)
    have HSEP := hid d37
    have HOUT := hid (And.intro m3 m7)
    have HTOP := hid (And.intro t3 t7)
    have HB3 := hid B3
    have HG3 := hid hg3
    have hs3 := B3.size
    clear O3 O7 k3 hg3 P3 P7 B3 d37 m3 m7 t3 t7 hcs cs hw3 R9 hsz B2
    have HKB := hid (fun wr (hk : Keeps (· = g9) w3 wr) => show Below w.heap.size w wr from Proofs.Ythlmfjoiicnomaa.Below.keeps (HB1.out.trans (HB3.out.mono (by omega))) hk (by omega) (fun k e => by omega))
    (with_reducible refine wpMix_nil ?_)
    go_wp2_with fail
    go_loopw [4] (fun i wr => ∃ k : Nat, k ≤ n3 ∧ i = .int .i64 k ∧ Hid (∃ b c, wr.heap[g9]? = some (.cells #[.slice b3 n0 d3, .slice b7 n1 d7, .slice b k c, zS] 59 (0, 0)) ∧ OwL wr w3.heap.size wr.heap.size b c (s.view.take k)) ∧ Hid (Keeps (· = g9) w3 wr)) (fun i _ => n3 - (intOf i).toNat)
    case atStart => exact ⟨0, Nat.zero_le _, rfl, hid ⟨none, 0, HG3.out, by rw [List.take_zero]; exact OwL.nil _ _ _⟩, hid (Keeps.refl _ _)⟩
    case round =>
      obtain ⟨k, hk, rfl, HL, HK⟩ := hrel
      obtain ⟨b, c, hgr, hol⟩ := HL.out
      have HGR := hid hgr
      have HOL := hid hol
      have hsr := HK.out.size
      have cbx : wr.cell? ⟨w.heap.size, 2, none⟩ = some (.slice a2 n3 c2) := by
        rw [cell_of_row wr w.heap.size 2 _ 59 (0, 0) ((HK.out.block _ (by omega) (by omega)).trans ((HB3.out.block _ (by omega)).trans HBOX.out))]
        rfl
      clear HL hgr hol
      by_cases hlt : k < n3
      · have hsm : k < s.view.length := by rw [← HN.out.2.2]; exact hlt
        obtain ⟨b', off, r, ro, rc, hab, hbl, hcell, hI1, hI2, hrl, _⟩ := HRD.out.viewAt (t := k) hsm
        have hab : a2 = some ⟨b', off, none⟩ := hab
        subst hab
        have Bwr := HKB.out wr HK.out
        have hcw := (Bwr.cell (p := ⟨b', off + k, none⟩) hbl).trans hcell
        obtain ⟨ys, hys⟩ : ∃ ys, s.view[k]? = some ys := ⟨_, List.getElem?_eq_getElem hsm⟩
        have hyv : vw s k = ys := vw_of hys
        have HYW := hid (show Rd wr (some ⟨r, ro, none⟩) (ints ys) from by
          have h1 := (HRD.out.int (1, k) (domV hsm)).1
          rw [hI1] at h1
          rw [← hyv]
          exact h1.below Bwr)
        have HM := hid (show ys.length = 3 from by rw [← hyv]; exact HRD.out.len (1, k) (domV hsm) (Nat.le_refl _))
        have HYS := hid hys
        have HST := hid (show s.view.take (k + 1) = s.view.take k ++ [ys] by
          rw [List.take_add_one, hys]; rfl)
        have HLEN := hid (show (s.view.take k).length = k by rw [List.length_take]; omega)
        have cg3 : wr.cell? ⟨g9, 2, none⟩ = some (.slice b k c) := by rw [cell_of_row wr g9 2 _ _ _ HGR.out]; rfl
        have fg3 : wr.frozen? ⟨g9, 2, none⟩ = false := frozen_of_row wr g9 2 _ _ HGR.out
        have hbt : ∀ x, blk b = some x → w3.heap.size ≤ x := fun x hx => by
          obtain ⟨rs, _, ho, _⟩ := HOL.out
          exact (own_blk ho x hx).1
        have HBT := hid hbt
        have hb'3 : b' < w3.heap.size := by have := HB1.out.size; omega
        clear hbl hcell hsm hys Bwr hbt hyv hI1 hI2 hrl
        go_wp2_with fail
        refine FR.wp_region_free 11 (Cp5 wr w3.heap.size b c (s.view.take k) ys) (by kernel_rfl) (by kernel_rfl) (by kernel_rfl) (fun _ => undef) (Cp5.start HOL.out _) fun V2 => ?_
        have HQ := hid (fun (j : Nat) S ρ w' (h : Cp5 wr w3.heap.size b c (s.view.take k) ys S ρ w') (h10 : S 10 = false) (e : S j = true ∧ ρ j = V2 j) => show cp5Q wr ys j w' (V2 j) from by have := (h.p h10).1.part j e.1; rw [e.2] at this; exact this)
        have HCL := hid (fun S ρ w' (h : Cp5 wr w3.heap.size b c (s.view.take k) ys S ρ w') (p : Addr) u (hp : p.block < w3.heap.size) (hc : wr.cell? p = some u) => show w'.cell? p = some u from (World.cell?_of_block (h.keeps.block p.block (by omega) (fun e => by have := HBT.out _ e; omega))).trans hc)
        (refine FR.frGo_pure _ rfl (fun K hK => ?_); go_simp; (first | refine hK _ ?_ | refine ⟨_, fun W hW => rfl, hK _ ?_⟩ | refine ⟨_, fun W hW => ⟨rfl, rfl⟩, hK _ ?_⟩); clear hK K)
        refine FR.frGo_held _ rfl (fun w' => w'.cell? ⟨g9, 2, none⟩ = some (.slice b k c)) (fun S ρ w' h _ => HCL.out S ρ w' h _ _ r9.2 cg3) (fun K hK => ?_)
        go_simp
        refine ⟨.slice b k c, fun W hW => ?_, hK _ ?_⟩
        · go_simp
        clear hK K
        refine FR.frGo_act (k := 2) _ rfl (fun S ρ w' hI hS hp K hK => ?_) ?_
        · have h10 := hI.late (.inr (.inr hS))
          have h8 : S 8 = false := by cases e : S 8 with | false => rfl | true => (have := hI.ord.2.2 e; rw [hS] at this; cases this)
          have h9 : S 9 = false := by cases e : S 9 with | false => rfl | true => (have := hI.ord.2.1 e; rw [h8] at this; cases this)
          go_simp
          exact hK _ _ (hI.step (by decide) h10 ⟨fun e => (by rw [FR.upd_ne _ _ (by decide), h9] at e; cases e), fun e => (by rw [FR.upd_same])⟩ ((Below.refl _ _).alloc (Nat.le_refl _) _) ((hI.p h10).1.new (cp5Q_stays _ _) _ (IsLit.new wr w' _ (hI.p h10).1.below.size) rfl))
        (refine FR.frGo_pure _ rfl (fun K hK => ?_); go_simp; (first | refine hK _ ?_ | refine ⟨_, fun W hW => rfl, hK _ ?_⟩ | refine ⟨_, fun W hW => ⟨rfl, rfl⟩, hK _ ?_⟩); clear hK K)
        refine FR.frGo_held _ rfl (fun w' => w'.cell? ⟨w.heap.size, 2, none⟩ = some (.slice (some ⟨b', off, none⟩) n3 c2)) (fun S ρ w' h _ => HCL.out S ρ w' h _ _ (by show w.heap.size < _; omega) cbx) (fun K hK => ?_)
        go_simp
        refine ⟨.slice (some ⟨b', off, none⟩) n3 c2, fun W hW => ?_, hK _ ?_⟩
        · go_simp
        clear hK K
        (refine FR.frGo_pure _ rfl (fun K hK => ?_); go_simp; (first | refine hK _ ?_ | refine ⟨_, fun W hW => rfl, hK _ ?_⟩ | refine ⟨_, fun W hW => ⟨rfl, rfl⟩, hK _ ?_⟩); clear hK K)
        (refine FR.frGo_pure _ rfl (fun K hK => ?_); go_simp; (first | refine hK _ ?_ | refine ⟨_, fun W hW => rfl, hK _ ?_⟩ | refine ⟨_, fun W hW => ⟨rfl, rfl⟩, hK _ ?_⟩); clear hK K)
        refine FR.frGo_held _ rfl (fun w' => w'.cell? ⟨b', off + k, none⟩ = some (.slice (some ⟨r, ro, none⟩) 3 rc)) (fun S ρ w' h _ => HCL.out S ρ w' h _ _ hb'3 hcw) (fun K hK => ?_)
        go_simp
        refine ⟨.slice (some ⟨r, ro, none⟩) 3 rc, fun W hW => ?_, hK _ ?_⟩
        · go_simp
        clear hK K
        refine FR.frGo_act (k := 8) _ rfl (fun S ρ w' hI hS hp K hK => ?_) ?_
        · have h10 := hI.late (.inr (.inl hS))
          have h9 : S 9 = false := by cases e : S 9 with | false => rfl | true => (have := hI.ord.2.1 e; rw [hS] at this; cases this)
          have hp2 := hp 2 (by kernel_rfl)
          have q2 : IsLit wr w' 3 (V2 2) := HQ.out 2 S ρ w' hI h10 hp2
          refine oper_append_lit wr _ _ 24 rfl 3 (.int .i64 0) 1 8 Try.underlying24 Try.info_int rfl (by decide) (V2 2) rfl q2 (some ⟨r, ro, none⟩) 3 rc (ints ys) rfl (HYW.out.below (hI.p h10).1.below) (by simp [HM.out]) (ints_one _ _) (by omega) (by decide) ?_
          intro a' c' w'' hown hb hat
          refine hK _ _ (hI.step (by decide) h10 ⟨fun e => (by rw [FR.upd_ne _ _ (by decide), h9] at e; cases e), fun e => (by rw [FR.upd_ne _ _ (by decide)]; exact hp2.1)⟩ hb ((hI.p h10).1.step (cp5Q_stays _ _) hb ⟨a', c', by rw [HM.out], by rw [HM.out]; exact hown⟩ fun b e => ?_))
          rcases hat b e with h | h
          · exact .inr ⟨2, hp2.1, by decide, rfl, by rw [hp2.2]; exact h⟩
          · exact .inl h
        refine FR.frGo_act (k := 9) _ rfl (fun S ρ w' hI hS hp K hK => ?_) ?_
        · have h10 := hI.late (.inl hS)
          have hp8 := hp 8 (by kernel_rfl)
          have q8 : IsOwn wr.heap.size ys w' (V2 8) := HQ.out 8 S ρ w' hI h10 hp8
          obtain ⟨a8, c8, e8, o8⟩ := id q8
          rw [e8] at hK ⊢
          go_simp
          rw [e8] at q8
          refine hK _ _ (hI.step (by decide) h10 ⟨fun e => (by rw [FR.upd_ne _ _ (by decide)]; exact hp8.1), fun e => (by rw [FR.upd_ne _ _ (by decide)]; exact hI.ord.2.2 hp8.1)⟩ ((Below.refl _ _).alloc (Nat.le_refl _) _) ((hI.p h10).1.new (cp5Q_stays _ _) _ (IsOne.new q8 _) rfl))
        refine FR.frGo_act (k := 10) _ rfl (fun S ρ w' hI hS hp K hK => ?_) ?_
        · have hp9 := hp 9 (by kernel_rfl)
          obtain ⟨H, u, e9, hu, a8, c8, rfl, o8⟩ := show IsOne wr.heap.size ys w' (V2 9) from HQ.out 9 S ρ w' hI hS hp9
          have hol := (hI.p hS).2
          refine oper_pushI _ _ rfl w3.heap.size wr.heap.size b k c _ HLEN.out rfl hol a8 c8 ys.length ys rfl (own_base o8 (by omega)) (fun x hx => (own_blk o8 x hx).1) ⟨H, 0, none⟩ e9 hu (by omega) (by have := hI.keeps.size; omega) ?_
          intro a' c' w'' ho hg
          have := hI.last hp9.1 hg ho
          rw [HLEN.out] at this
          exact hK _ _ this
        refine FR.frGo_nil _ ?_
        intro S ρ w5 hI hS
        have z10 := hS 10 (by decide) (by kernel_rfl)
        obtain ⟨a', c'', e10, hol5⟩ := hI.f z10.1
        rw [z10.2, HLEN.out] at e10
        rw [← HST.out] at hol5
        rw [e10]
        have hk5 := hI.keeps
        have hbg : ∀ x, blk b = some x → x ≠ g9 := fun x hx e => by have := HBT.out x hx; omega
        have hg5 : w5.heap[g9]? = some (.cells #[.slice b3 n0 d3, .slice b7 n1 d7, .slice b k c, zS] 59 (0, 0)) := (hk5.block g9 (by omega) (fun e => hbg g9 e rfl)).trans HGR.out
        have cg5 : w5.cell? ⟨g9, 2, none⟩ = some (.slice b k c) := by rw [cell_of_row w5 g9 2 _ _ _ hg5]; rfl
        have fg5 : w5.frozen? ⟨g9, 2, none⟩ = false := frozen_of_row w5 g9 2 _ _ hg5
        have hg6 : (w5.setCell ⟨g9, 2, none⟩ (.slice a' (k + 1) c'')).heap[g9]? = some (.cells #[.slice b3 n0 d3, .slice b7 n1 d7, .slice a' (k + 1) c'', zS] 59 (0, 0)) := by
          have := heap_setCell_same w5 g9 2 _ _ (.slice a' (k + 1) c'') hg5
          simpa using this
        have hk6 : Keeps (· = g9) w3 (w5.setCell ⟨g9, 2, none⟩ (.slice a' (k + 1) c'')) := by
          refine ⟨hk5.os.trans HK.out.os, hk5.tape.trans HK.out.tape, hk5.output.trans HK.out.output, ?_, fun x hx hne => ?_⟩
          · have := hk5.size; simp [World.setCell]; omega
          · rw [heap_setCell_other w5 ⟨g9, 2, none⟩ x _ (by simpa using hne), hk5.block x (by omega) (fun e => by have := HBT.out x e; omega)]
            exact HK.out.block x hx hne
        have hol6 : OwL (w5.setCell ⟨g9, 2, none⟩ (.slice a' (k + 1) c'')) w3.heap.size (w5.setCell ⟨g9, 2, none⟩ (.slice a' (k + 1) c'')).heap.size a' c'' (s.view.take (k + 1)) := by
          have := hol5.keeps (Keeps.setCell w5 ⟨g9, 2, none⟩ (.slice a' (k + 1) c'')) (fun x hx _ e => by simp at e; omega)
          simpa [World.setCell] using this
        have HG6 := hid hg6
        have HK6 := hid hk6
        have HOL6 := hid hol6
        clear hg6 hk6 hol6 hg5 hk5 hol5 hbg hS hI z10 e10 HQ HCL
        refine wpMix_rd rfl rfl (fun K hK => ?_)
        go_simp
        refine hK _ ?_
        clear hK K
        refine wpMix_act rfl rfl (fun K hK => ?_)
        go_simp
        refine hK _ _ ?_
        clear hK K
        (with_reducible refine wpMix_nil ?_)
        go_wp2_with fail
        go_roundw
        case rel => exact ⟨k + 1, by omega, by go_num, hid ⟨_, _, HG6.out, HOL6.out⟩, HK6⟩
        case measure => simp [intOf]; omega
      · have ek : n3 = k := by omega
        subst ek
        have HY1 := hid (OwL.toC (w := wr) (base := w.heap.size) (B := w1.heap.size) (B2 := w3.heap.size) (q := ⟨b3, d3, b7, d7, b, c, none, 0⟩) (s := s) (by rw [← HN.out.1]; exact own_keeps HOWN.out.1 HK.out (fun x hx e => HOUT.out.1 x hx e)) (by rw [← HN.out.2.1]; exact own_keeps HOWN.out.2 HK.out (fun x hx e => HOUT.out.2 x hx e)) HSEP.out HTOP.out.1 HTOP.out.2 (by have h1 := HOL.out; rw [List.take_of_length_le (by rw [← HN.out.2.2]; exact Nat.le_refl _)] at h1; exact h1) (fun v hv => by
          obtain ⟨t, ht⟩ := List.mem_iff_getElem?.1 hv
          have htl := (List.getElem?_eq_some_iff.1 ht).1
          rw [← vw_of ht]
          exact HRD.out.len (1, t) (domV htl) (Nat.le_refl _)) rfl rfl (by omega) (by omega))
        have HG2 := hid (show ∃ x, wr.heap[g9]? = some (.cells #[.slice b3 n0 d3, .slice b7 n1 d7, .slice b n3 c, .slice x 0 0] 59 (0, 0)) ∧ x = none from ⟨none, HGR.out, rfl⟩)
        have HK1 := hid HK.out
        have HBX := hid (fun wx (hk : Keeps (· = g9) w3 wx) => show wx.cell? ⟨w.heap.size, 3, none⟩ = some (.slice a3 3 c3) from by
          rw [cell_of_row wx w.heap.size 3 _ 59 (0, 0) ((hk.block _ (by omega) (by omega)).trans ((HB3.out.block _ (by omega)).trans HBOX.out))]
          rfl)
        clear HOWN HSEP HOUT HTOP HOL HPC HRG HRD1
        go_wp2_with fail
        go_loopw [5] (fun iv wx => ∃ (i : Nat) (x3 : Option Addr) (k3 : Nat) (yy : Ly), i ≤ 3 ∧ iv = .int .i64 i ∧ Hid (wx.heap[g9]? = some (.cells #[.slice b3 n0 d3, .slice b7 n1 d7, .slice b n3 c, .slice x3 i k3] 59 (0, 0))) ∧ Hid (OwC wx w.heap.size ⟨b3, d3, b7, d7, b, c, x3, k3⟩ yy (cq s i) i) ∧ Hid (Keeps (· = g9) w3 wx) ∧ Hid (∀ x, blk x3 = some x → w3.heap.size ≤ x)) (fun iv _ => 3 - (intOf iv).toNat)
        case atStart =>
          obtain ⟨yy, hyy⟩ := HY1.out
          exact ⟨0, none, 0, yy, by omega, rfl, HGR, hid hyy, HK1, hid (fun x hx => by cases hx)⟩
        case round =>
          clear HY1 HG2 HK1 HGR HK cbx
          obtain ⟨i, x3, k3, yy, hi, rfl, HG, HO, HK, HX3⟩ := hrel
          have cbx := HBX.out _ HK.out
          by_cases hlt3 : i < 3
          · have hii : (i : Int) < 3 := by omega
            have hks := HK.out.size
            obtain ⟨lb, lo, hla, hllt, hlc, hlcap⟩ := HRD.out.rowAt (l := i) (show i < s.list.length by rw [HL3.out]; exact hlt3)
            have hla : a3 = some ⟨lb, lo, none⟩ := hla
            subst hla
            replace hlc : w.cell? ⟨lb, lo + i, none⟩ = some (.slice (y0.L i).1 (row5 s i).length (y0.L i).2) := hlc
            obtain ⟨N, hN⟩ : ∃ N, N = (row5 s i).length := ⟨_, rfl⟩
            have HNE := hid hN
            have hN9 : N ≤ 1000 := by rw [hN]; exact HL4.out i hlt3
            rw [← hN] at hlc
            obtain ⟨ra, hra⟩ : ∃ ra, ra = (y0.L i).1 := ⟨_, rfl⟩
            obtain ⟨rcp, hrcp⟩ : ∃ rcp, rcp = (y0.L i).2 := ⟨_, rfl⟩
            have HRA := hid hra
            rw [← hra, ← hrcp] at hlc
            have HLC := hid (And.intro hllt hlc)
            have yl := ((HKB.out _ HK.out).cell (p := ⟨lb, lo + i, none⟩) hllt).trans hlc
            clear hN hra hrcp hlcap hlc hllt
            have hwx := HK.out.size
            have hb1 : Below wr.heap.size wr (wr.alloc (.cells #[] 117)) := (Below.refl _ _).alloc (Nat.le_refl _) _
            have HO1 := hid ((OwC.addR HO.out hb1 (Nat.le_refl _) (own_lit0 wr w.heap.size 117 3 (by omega))).congr (cpc_start s i))
            have HG1 := hid ((hb1.block g9 (Array.getElem?_eq_some_iff.1 HG.out).1).trans HG.out)
            have HK1 := hid (HK.out.trans (Keeps.of_below hb1))
            have hicq : (cq s i).nl = i := rfl
            rw [hicq] at HO1
            have HJ0 := hid (show ∃ yy' : Ly, Hid (OwC (wr.alloc (.cells #[] 117)) w.heap.size ⟨b3, d3, b7, d7, b, c, x3, k3⟩ yy' (cpc s i 0) i) ∧ (Value.slice (some ⟨wr.heap.size, 0, none⟩) 0 0 = .slice (yy'.L i).1 0 (yy'.L i).2) ∧ (∀ x, blk (yy'.L i).1 = some x → w3.heap.size ≤ x) from
              ⟨_, HO1, by rw [setL_same], fun x hx => by rw [setL_same] at hx; simp [blk] at hx; omega⟩)
            clear HO HG HK hb1 hicq HO1
            go_wp2_with fail
            go_loopw [6, 7] (fun lv jv wx => ∃ (j : Nat) (yy : Ly), j ≤ N ∧ jv = .int .i64 j ∧ lv = .slice (yy.L i).1 j (yy.L i).2 ∧ Hid (wx.heap[g9]? = some (.cells #[.slice b3 n0 d3, .slice b7 n1 d7, .slice b n3 c, .slice x3 i k3] 59 (0, 0))) ∧ Hid (OwC wx w.heap.size ⟨b3, d3, b7, d7, b, c, x3, k3⟩ yy (cpc s i j) i) ∧ Hid (Keeps (· = g9) w3 wx) ∧ Hid (∀ x, blk (yy.L i).1 = some x → w3.heap.size ≤ x)) (fun _ jv _ => N - (intOf jv).toNat)
            case atStart =>
              obtain ⟨yy', h1, h2, h3⟩ := HJ0.out
              exact ⟨0, yy', Nat.zero_le _, rfl, h2, HG1, h1, HK1, hid h3⟩
            case round =>
              clear HJ0 HG1 HK1 cbx yl
              obtain ⟨j, yy, hj, rfl, rfl, HG, HO, HK, HLB⟩ := hrel
              have cbx := HBX.out _ HK.out
              have yl := ((HKB.out _ HK.out).cell (p := ⟨lb, lo + i, none⟩) HLC.out.1).trans HLC.out.2
              have hks := HK.out.size
              by_cases hjN : j < N
              · have hji : (j : Int) < (N : Int) := by omega
                obtain ⟨mr, mro, mv, mvo, hmr, hmrl, hm0, hm1, hm2, hmi, hmvl, hmx⟩ := HRD.out.msgAt (l := i) (k := j) (show i < s.list.length by rw [HL3.out]; exact hlt3) (show j < (row5 s i).length by rw [← HNE.out]; exact hjN)
                have hdm : (ct s).dom (i + 2, j) := domM (show i < s.list.length by rw [HL3.out]; exact hlt3) (show j < (row5 s i).length by rw [← HNE.out]; exact hjN)
                rw [← HRA.out] at hmr
                subst hmr
                obtain ⟨mvc, hmvc⟩ : ∃ mvc, mvc = (y0.I (i + 2, j)).2 := ⟨_, rfl⟩
                rw [← hmvc] at hm2
                obtain ⟨xs, hxs⟩ : ∃ xs, xs = ((row5 s i).getD j msZ).view := ⟨_, rfl⟩
                have hxl : xs.length = 3 := by rw [hxs]; exact HRD.out.len (i + 2, j) hdm (by simp)
                have hRX : Rd w (some ⟨mv, mvo, none⟩) (ints xs) := by
                  have h1 := (HRD.out.int (i + 2, j) hdm).1
                  rw [hmi] at h1
                  rw [hxs]
                  exact h1
                have HST := hid (cpc_step s i j)
                rw [← hxs] at HST
                obtain ⟨va, hva⟩ : ∃ va, va = ((row5 s i).getD j msZ).val := ⟨_, rfl⟩
                obtain ⟨lk, hlk⟩ : ∃ lk, lk = ((row5 s i).getD j msZ).lock := ⟨_, rfl⟩
                rw [← hva, ← hlk] at HST
                replace hm0 : w.cell? ⟨mr, mro + j * 3, none⟩ = some (.int .i64 va) := by rw [hva]; exact hm0
                replace hm1 : w.cell? ⟨mr, mro + j * 3 + 1, none⟩ = some (.bool lk) := by rw [hlk]; exact hm1
                have Bx := HKB.out _ HK.out
                have z0 := (Bx.cell (p := ⟨mr, mro + j * 3, none⟩) hmrl).trans hm0
                have z1 := (Bx.cell (p := ⟨mr, mro + j * 3 + 1, none⟩) hmrl).trans hm1
                have z2 := (Bx.cell (p := ⟨mr, mro + j * 3 + 2, none⟩) hmrl).trans hm2
                obtain ⟨wA, hwA⟩ : ∃ wA, wA = wr.alloc (.cells #[.int .i64 va, .bool lk, .slice (some ⟨mv, mvo, none⟩) 3 mvc] 117) := ⟨_, rfl⟩
                have hbA : Below wr.heap.size wr wA := by rw [hwA]; exact (Below.refl _ _).alloc (Nat.le_refl _) _
                have hsA : wA.heap.size = wr.heap.size + 1 := by rw [hwA]; simp
                have hmA : wA.heap[wr.heap.size]? = some (.cells #[.int .i64 va, .bool lk, .slice (some ⟨mv, mvo, none⟩) 3 mvc] 117 (0, 0)) := by rw [hwA]; exact heap_alloc_new wr _
                have hbB : Below wr.heap.size wr (wA.alloc (.cells #[] 3)) := hbA.alloc hbA.size _
                have HLIT := hid (own_lit0 wA (wr.heap.size + 1) 3 1 (by omega))
                have hmB : (wA.alloc (.cells #[] 3)).heap[wr.heap.size]? = some (.cells #[.int .i64 va, .bool lk, .slice (some ⟨mv, mvo, none⟩) 3 mvc] 117 (0, 0)) := (heap_alloc_old wA _ (by omega)).trans hmA
                have zB := cell_of_row (wA.alloc (.cells #[] 3)) wr.heap.size 2 _ _ _ hmB
                have HRX := hid ((hRX.below Bx).below hbB)
                have HMB := hid hmB
                have HBB := hid hbB
                have hszB : wr.heap.size + 1 ≤ (wA.alloc (.cells #[] 3)).heap.size := by rw [World.size_alloc]; omega
                rw [hsA] at HLIT
                rw [hwA] at zB HLIT HRX hszB
                have HWA := hid hwA
                clear hm0 hm1 hm2 hmrl hmi hmvl hmx hdm hmvc hxs hva hlk hRX hbA hmA hbB hmB hwA Bx
                go_wp2_with (at_builtin; refine wpList_append_rd rfl (.tmp 63) (.tmp 65) 24 rfl _ 3 (.int .i64 0) 1 8 Try.underlying24 Try.info_int rfl (by decide) _ _ _ rfl HLIT.out (some ⟨mv, mvo, none⟩) 3 mvc (ints xs) rfl HRX.out (by rw [List.length_map, hxl]) (ints_one _ _) (by omega) (by decide) hszB ?_)
                intro vC wC hownC hgrowC _
                rw [← HWA.out] at hgrowC
                have hownC : wC.ownsRow (wr.heap.size + 1) 3 1 vC 3 (ints xs) := hownC
                obtain ⟨rC, cC, rfl, _⟩ := own_shape hownC
                have hbC : Below wr.heap.size wr wC := HBB.out.grown hgrowC (by rw [World.size_alloc]; omega) (fun b hb => by simp [Value.ownBlock] at hb; omega)
                have hmC : wC.heap[wr.heap.size]? = some (.cells #[.int .i64 va, .bool lk, .slice (some ⟨mv, mvo, none⟩) 3 mvc] 117 (0, 0)) := (hgrowC.block _ (by rw [World.size_alloc]; omega) (fun e => by simp [Value.ownBlock] at e)).trans HMB.out
                have zC := cell_of_row wC wr.heap.size 2 _ _ _ hmC
                have zF := frozen_of_row wC wr.heap.size 2 _ _ hmC
                have hbD : Below wr.heap.size wr (wC.setCell ⟨wr.heap.size, 2, none⟩ (.slice rC 3 cC)) := hbC.setCell (Nat.le_refl _) _
                have hmD : (wC.setCell ⟨wr.heap.size, 2, none⟩ (.slice rC 3 cC)).heap[wr.heap.size]? = some (.cells #[.int .i64 va, .bool lk, .slice rC 3 cC] 117 (0, 0)) := by rw [heap_setCell_same wC wr.heap.size 2 _ _ _ hmC]; rfl
                have zD0 := cell_of_row _ wr.heap.size 0 _ _ _ hmD
                have zD1 := cell_of_row _ wr.heap.size 1 _ _ _ hmD
                have zD2 := cell_of_row _ wr.heap.size 2 _ _ _ hmD
                have hsD : (wC.setCell ⟨wr.heap.size, 2, none⟩ (.slice rC 3 cC)).heap.size = wC.heap.size := by simp [World.setCell]
                obtain ⟨wD, hwD⟩ : ∃ wD, wD = wC.setCell ⟨wr.heap.size, 2, none⟩ (.slice rC 3 cC) := ⟨_, rfl⟩
                have hownD : wD.ownsRow (wr.heap.size + 1) 3 1 (.slice rC 3 cC) 3 (ints xs) := by
                  rw [hwD]
                  exact own_keeps hownC (Keeps.setCell wC ⟨wr.heap.size, 2, none⟩ _) (fun b hb e => by have e : b = wr.heap.size := e; have := (own_blk hownC b hb).1; omega)
                rw [← hwD] at hbD hsD
                have hbE : Below wr.heap.size wr (wD.alloc (.cells #[.int .i64 va, .bool lk, .slice rC 3 cC] 117)) := hbD.alloc hbD.size _
                have HOWE := hid (own_below hownD ((Below.refl wD.heap.size wD).alloc (Nat.le_refl _) (.cells #[.int .i64 va, .bool lk, .slice rC 3 cC] 117)))
                have HRWE := hid (show (wD.alloc (.cells #[.int .i64 va, .bool lk, .slice rC 3 cC] 117)).ownsRow w.heap.size 117 3 (.slice (yy.L i).1 j (yy.L i).2) j (mcells yy (cpc s i j).MV (cpc s i j).LK i j) from by
                  have h1 := own_below (HO.out.row i (Nat.lt_succ_self i)) hbE
                  have e : (cpc s i j).N i = j := by show (if i = i then j else _) = j; rw [if_pos rfl]
                  rw [e] at h1
                  exact h1)
                have HRM := hid (rd_new3 wD (.int .i64 va) (.bool lk) (.slice rC 3 cC) 117)
                have hsE : w.heap.size ≤ (wD.alloc (.cells #[.int .i64 va, .bool lk, .slice rC 3 cC] 117)).heap.size := by have := hbE.size; omega
                have HBE := hid hbE
                have HWD := hid hwD
                have hsCD := hbC.size
                rw [hsD] at HRM
                rw [hwD] at HOWE HRWE HRM hsE
                clear z0 z1 z2 zB HLIT HRX hszB hownC hgrowC hbC hmC hbD hmD hsD hownD hbE hwD cbx yl
                go_wp2_with (at_builtin; refine wpList_append_rd rfl (.tmp 68) (.tmp 70) 118 rfl _ 117 (.agg #[.int .i64 0, .bool false, .slice none 0 0]) 3 40 Try.underlying118 Try.info_msg rfl (by decide) _ _ _ rfl HRWE.out _ 1 1 [.int .i64 va, .bool lk, .slice rC 3 cC] rfl HRM.out rfl (by simp [Value.oneCell']) (by omega) (by decide) hsE ?_)
                intro v16 w16 hown16 hgrow16 hat16
                rw [← HWD.out] at hgrow16
                have hown16 : w16.ownsRow w.heap.size 117 3 v16 (j + 1) (mcells yy (cpc s i j).MV (cpc s i j).LK i j ++ [.int .i64 va, .bool lk, .slice rC 3 cC]) := hown16
                obtain ⟨a16, c16, rfl, _⟩ := own_shape hown16
                rw [ownBlock_slice] at hgrow16
                rw [ownBlock_slice, ownBlock_slice] at hat16
                rw [← HWD.out] at HOWE HRWE
                have hNj : (cpc s i j).N i = j := by show (if i = i then j else _) = j; rw [if_pos rfl]
                have hkr : Keeps (fun b => blk (yy.L i).1 = some b) wr w16 := (Keeps.of_below HBE.out).trans (Keeps.of_grown hgrow16 fun b hb => hb)
                have hszE := HBE.out.size
                have hr16 : w16.ownsRow w.heap.size 3 1 (.slice rC 3 cC) 3 (ints xs) := own_base (own_keeps HOWE.out (Keeps.of_grown (S := fun b => blk (yy.L i).1 = some b) hgrow16 fun b hb => hb) fun b hb e => own_apart HOWE.out HRWE.out (by decide) b hb e) (by omega)
                have hal : blk a16 = blk (yy.L i).1 ∨ ∀ x, blk a16 = some x → wr.heap.size ≤ x := hat16.imp id fun e x hx => by rw [e] at hx; have := Option.some.inj hx; omega
                have HADD := hid ((OwC.addM (w' := w16) (r := (rC, cC)) (xs := xs) (a' := a16) (c' := c16) (v := va) (bl := lk) HO.out rfl hkr hr16 (fun x hx => by have := (own_blk HOWE.out x hx).1; omega) (by rw [hNj]; exact hown16) hal hxl).congr HST.out)
                have hg9 : g9 < wr.heap.size := (Array.getElem?_eq_some_iff.1 HG.out).1
                have HG16 := hid (show w16.heap[g9]? = some (.cells #[.slice b3 n0 d3, .slice b7 n1 d7, .slice b n3 c, .slice x3 i k3] 59 (0, 0)) from (hkr.block g9 hg9 (fun e => by have := HLB.out _ e; omega)).trans HG.out)
                have HK16 := hid (keeps_new HK.out hkr fun x hx => .inr (HLB.out x hx))
                have HLB16 := hid (show ∀ x, blk (((yy.setI (i + 2, (cpc s i j).N i) (rC, cC)).setL i (a16, c16)).L i).1 = some x → w3.heap.size ≤ x from fun x hx => by
                  rw [setL_same] at hx
                  rcases hal with e | e
                  · rw [e] at hx; exact HLB.out x hx
                  · have := e x hx; omega)
                clear hown16 hgrow16 hat16 hkr hr16 hal HOWE HRWE HRM HO HG HK HLB zC zF zD0 zD1 zD2 hsE hNj
                go_wp2_with fail
                go_roundw
                case rel => exact ⟨j + 1, _, by omega, by go_num, (by rw [setL_same]), HG16, HADD, HK16, HLB16⟩
                case measure => simp [intOf]; omega
              · have ejN : N = j := by omega
                subst ejN
                have hNi : (cq s (i + 1)).N i = N := HNE.out.symm
                have HOE := hid (show OwC wr w.heap.size ⟨b3, d3, b7, d7, b, c, x3, k3⟩ yy (cq s (i + 1)) i from by
                  have h1 := cpc_end s i
                  rw [← HNE.out] at h1
                  exact HO.out.congr h1)
                have hb1 : Below wr.heap.size wr (wr.alloc (.cells #[.slice (yy.L i).1 N (yy.L i).2] 118)) := (Below.refl _ _).alloc (Nat.le_refl _) _
                have HLO := hid (own_below HOE.out.lo hb1)
                have HR1 := hid (show Rd (wr.alloc (.cells #[.slice (yy.L i).1 N (yy.L i).2] 118)) (some ⟨wr.heap.size, 0, none⟩) [.slice (yy.L i).1 N (yy.L i).2] from .inr ⟨_, 0, rfl, by simp, fun j u hj => by
                  rw [Nat.zero_add, cell_of_row _ _ j _ _ _ (heap_alloc_new wr _)]
                  match j, hj with
                  | 0, hj => simpa using hj
                  | j + 1, hj => simp at hj⟩)
                have hszA : w.heap.size ≤ (wr.alloc (.cells #[.slice (yy.L i).1 N (yy.L i).2] 118)).heap.size := by rw [World.size_alloc]; omega
                have y3 := cell_of_row wr g9 3 _ _ _ HG.out
                have HB1X := hid hb1
                clear hb1
                go_wp2_with (at_builtin; refine wpList_append_rd rfl (.tmp 73) (.tmp 75) 57 rfl _ 118 (.slice none 0 0) 1 24 Try.underlying57 Try.info_mrow rfl (by decide) _ _ _ rfl HLO.out _ 1 1 [.slice (yy.L i).1 N (yy.L i).2] rfl HR1.out rfl (by simp [Value.oneCell']) (by omega) (by decide) hszA ?_)
                intro v18 w18 hown18 hgrow18 hat18
                obtain ⟨a18, c18, rfl, _⟩ := own_shape hown18
                rw [ownBlock_slice] at hgrow18
                rw [ownBlock_slice, ownBlock_slice] at hat18
                have hk18 : Keeps (fun x => blk x3 = some x) wr w18 := (Keeps.of_below HB1X.out).trans (Keeps.of_grown hgrow18 fun x hx => hx)
                have hg9 : g9 < wr.heap.size := (Array.getElem?_eq_some_iff.1 HG.out).1
                have hG18 : w18.heap[g9]? = some (.cells #[.slice b3 n0 d3, .slice b7 n1 d7, .slice b n3 c, .slice x3 i k3] 59 (0, 0)) := (hk18.block g9 hg9 (fun e => by have := HX3.out _ e; omega)).trans HG.out
                have HO18 := hid (OwC.pushR (w' := w18) (a' := a18) (c' := c18) HOE.out (Nat.lt_succ_self i) hk18 (by rw [hNi]; exact hown18))
                have g3c := cell_of_row w18 g9 3 _ _ _ hG18
                have g3f := frozen_of_row w18 g9 3 _ _ hG18
                have HG19 := hid (show (w18.setCell ⟨g9, 3, none⟩ (.slice a18 (i + 1) c18)).heap[g9]? = some (.cells #[.slice b3 n0 d3, .slice b7 n1 d7, .slice b n3 c, .slice a18 (i + 1) c18] 59 (0, 0)) from by rw [heap_setCell_same w18 g9 3 _ _ _ hG18]; rfl)
                have HO19 := hid (HO18.out.oth hG18 (by decide) (by decide) (by decide) (by decide) (Keeps.setCell w18 ⟨g9, 3, none⟩ (.slice a18 (i + 1) c18)))
                have HK19 := hid ((keeps_new HK.out hk18 fun x hx => .inr (HX3.out x hx)).trans (Keeps.setCell w18 ⟨g9, 3, none⟩ (.slice a18 (i + 1) c18)))
                have HX19 := hid (show ∀ x, blk a18 = some x → w3.heap.size ≤ x from fun x hx => by
                  rcases hat18 with e | e
                  · rw [e] at hx; exact HX3.out x hx
                  · rw [e] at hx; have := Option.some.inj hx; omega)
                clear hown18 hgrow18 hat18 hk18 hG18 HO18 HO HG HK HLB HLO HR1 cbx yl y3
                go_wp2_with fail
                go_roundw
                case rel => exact ⟨i + 1, a18, c18, yy, by omega, by go_num, HG19, HO19, HK19, HX19⟩
                case measure => simp [intOf]; omega
          · have ei : i = 3 := by omega
            subst ei
            have hks := HK.out.size
            have hres : wr.heap[w.heap.size + 1]? = some (.cells zSt 59 (0, 0)) := (HK.out.block _ (by omega) (by omega)).trans ((HB3.out.block _ (by omega)).trans HRES.out)
            have HRE := hid hres
            have HONE := hid (show (#[.slice b3 n0 d3, .slice b7 n1 d7, .slice b n3 c, .slice x3 3 k3] : Array Value).all (·.oneCell') = true from by simp [Value.oneCell'])
            have HGX := hid HG.out
            clear hres
            go_wp2_with (first | (refine wpList_load_row rfl 59 (.tmp 3) rfl g9 rfl 59 _ (0, 0) _ HGX.out Try.underlying59 rfl (by kernel_rfl) ?_) | (refine wpList_store_row rfl 59 (.tmp 2) (.tmp 78) rfl (w.heap.size + 1) #[.slice b3 n0 d3, .slice b7 n1 d7, .slice b n3 c, .slice x3 3 k3] rfl rfl 59 zSt HRE.out (by kernel_rfl) rfl HONE.out ?_))
            refine bodyPost_ret (results_cell_row rfl _ _ (w.heap.size + 1) 59 _ (0, 0) _ rfl (setRow_heap _ _ _ _ _ _ HRE.out) Try.underlying59 rfl (by kernel_rfl)) rfl ⟨⟨b3, d3, b7, d7, b, c, x3, k3⟩, yy, ?_, ?_, ?_⟩
            · rfl
            · exact (HO.out.congr (cq_all HL3.out)).oth HRE.out (by decide) (by decide) (by decide) (by decide) (keeps_setRow wr (w.heap.size + 1) _)
            · exact Proofs.Ythlmfjoiicnomaa.Below.keeps (HKB.out wr HK.out) (keeps_setRow wr (w.heap.size + 1) _) (by omega) (fun x e => by omega)
  · have bad : ∀ S ρ w', Parts w1 copyGV (copyV w1 s) S ρ w' → (S 3 = true ∧ ρ 3 = V 3) → (S 7 = true ∧ ρ 7 = V 7) → False := fun S ρ w' h e2 e6 => by
      obtain ⟨a2, b2, r2, _⟩ := Q3.out S ρ w' h e2
      obtain ⟨a6, b6, r6, _⟩ := Q7.out S ρ w' h e6
      rw [← HN.out.1] at r2
      rw [← HN.out.2.1] at r6
      exact hV ⟨a2, b2, a6, b6, r2, r6⟩
    refine frGo_bad rfl (fun S ρ w h hp => bad S ρ w h (hp 3 (by kernel_rfl)) (hp 7 (by kernel_rfl))) ?_
    refine FR.frGo_act (k := 9) _ rfl (fun S ρ w' hI hS hp K hK => ?_) ?_
    · go_simp
      exact hK _ _ (hI.new (copyV_stays _ _) _ ⟨_, rfl, heap_alloc_new _ _⟩ rfl)
    exact FR.frGo_nil _ fun S ρ w2 hI hS => (bad S ρ w2 hI (hS 3 (by decide) (by kernel_rfl)) (hS 7 (by decide) (by kernel_rfl))).elim
end Go.Proofs.Ythlmfjoiicnomaa
