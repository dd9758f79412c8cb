/-
  PROVED HERE: what spec.l4Do does where a write leaves a buffer. what spec.l4Do does where a thread goes on. what spec.l4Do, l4Done, l4Start do. what spec.l4After does. what spec.RunMoves and MovesAfter do. CONDITIONS: as each theorem states.
-/
import Derived.Test.YtbncmeggnhggkaaSqb
import Derived.Test.YtbncmeggnhggkaaChn
import Derived.Test.YtbncmeggnhggkaaSpe
import Derived.Test.YtbncmeggnhggkaaSpg
namespace Go.Proofs.Ytbncmeggnhggkaa
open Go.RowKit
set_option linter.unusedVariables false
set_option linter.unusedSimpArgs false

def flR (w1 : World) (es : List (Int × Int)) (m : Nat) (ρ : Nat → Value) (w : World) : Prop :=
  if m = 1 then IsLit w1 w 3 (ρ 6) else if m = 2 then IsOwn w1.heap.size (flatB es) w (ρ 9) else True
theorem keepsDrew {S : Nat → Prop} {w w' : World} (h : Keeps S w w') : Keeps S w w'.drew := ⟨h.os, h.tape, h.output, h.size, h.block⟩
theorem rd_two (w : World) (x y : Int) (e : TypeId) : Rd (w.alloc (.cells #[.int .i64 x, .int .i64 y] e)) (some ⟨w.heap.size, 0, none⟩) (ints [x, y]) :=
  .inr ⟨_, 0, rfl, by simp, fun j u hj => by
    rw [Nat.zero_add, cell_of_row _ _ j _ _ _ (heap_alloc_new w _)]
    match j, hj with
    | 0, hj => simpa using hj
    | 1, hj => simpa using hj
    | k + 2, hj => simp at hj⟩
theorem good4_small {p : Prg} {split : Bool} {s : St} (hg : Good4 p split s) (hv : Shape p) : Small s :=
  ⟨by have := hg.blen hv; omega, fun xs hx => by
    obtain ⟨i, hi⟩ := List.mem_iff_getElem?.1 hx
    have := hg.rlen hv hi
    omega⟩
/-- One buffer of the copy: what is read of it, and what a store to it turns. -/
theorem DoI.row {w wk : World} {h4 h6 g7 base : Nat} {q q' : Sp} {s sk : St} (h : DoI w h4 h6 g7 base q q' s sk wk) {b : Nat} {r : List (Int × Int)} (hr : sk.buf[b]? = some r) :
    ∃ top gb a' c', base ≤ top ∧ top ≤ wk.heap.size ∧ q'.a3 = some ⟨gb, 0, none⟩ ∧ gb < wk.heap.size ∧ wk.cell? ⟨gb, b, none⟩ = some (.slice a' (r.length * 2) c') ∧ OwI wk top a' c' (flatB r) ∧ (∀ x, blk a' = some x → x ≠ gb ∧ x < wk.heap.size ∧ ∃ arr f, wk.heap[x]? = some (.cells arr 3 f)) ∧
      ∀ (w' : World) (v' : Value) (ys : List (Int × Int)), Keeps (fun k => blk a' = some k) wk w' → w'.ownsRow top 3 1 v' (flatB ys).length (ints (flatB ys)) → (v'.ownBlock = blk a' ∨ ∀ x, v'.ownBlock = some x → wk.heap.size ≤ x) →
        w'.cell? ⟨gb, b, none⟩ = some (.slice a' (r.length * 2) c') ∧ w'.frozen? ⟨gb, b, none⟩ = false ∧ DoI w h4 h6 g7 base q q' s { sk with buf := sk.buf.set b ys } (w'.setCell ⟨gb, b, none⟩ v') := by
  obtain ⟨top, b1, b2, b3, b4, b5⟩ := h.own.buf
  have hx : (sk.buf.map flatB)[b]? = some (flatB r) := by rw [List.getElem?_map, hr]; rfl
  obtain ⟨gb, a', c', e3, r1, r2, r3, r4, r5, r6⟩ := b5.row hx
  have b5' := b5
  obtain ⟨rs, hl, ho, hi, _⟩ := b5
  have htop : top ≤ wk.heap.size := by omega
  rw [length_flatB] at r3
  have hty : ∀ x, blk a' = some x → ∃ arr f, wk.heap[x]? = some (.cells arr 3 f) := fun x hx => by
    rcases r4.2 with ⟨hv, _⟩ | ⟨g', c, cur, hv, _, hg', _⟩
    · simp only [Value.slice.injEq] at hv
      rw [hv.1] at hx
      cases hx
    · simp only [Value.slice.injEq, Option.some.injEq] at hv
      rw [hv.1] at hx
      simp only [blk, Option.some.injEq] at hx
      subst hx
      exact ⟨_, _, hg'⟩
  refine ⟨top, gb, a', c', b1, htop, e3, r2, r3, r4, fun x hx => ⟨(r5 x hx).2, (own_blk r4 x hx).2, hty x hx⟩, ?_⟩
  intro w' v' ys hk hown hblk
  obtain ⟨s1, s2, s3⟩ := r6 (fun k => blk a' = some k) w' v' (flatB ys) hk (fun _ _ _ h => h) hown hblk
  rw [length_flatB] at s1
  have hrt : ∀ x, blk a' = some x → top ≤ x ∧ x < wk.heap.size := fun x hx => own_blk r4 x hx
  have hsz := hk.size
  have hss : (w'.setCell ⟨gb, b, none⟩ v').heap.size = w'.heap.size := by simp [World.setCell]
  have ne : ∀ {k : Nat} {o : Array Value}, wk.heap[k]? = some (.cells o 44 (0, 0)) → (w'.setCell ⟨gb, b, none⟩ v').heap[k]? = some (.cells o 44 (0, 0)) := by
    intro k o hko
    have n1 : k ≠ gb := fun e => by
      subst e
      rw [e3] at ho
      exact absurd (own_type ho hko) (by decide)
    have n2 : blk a' ≠ some k := fun e => by
      cases a' with
      | none => cases e
      | some ad =>
        obtain ⟨a2, c2, hv2, _⟩ := own_shape r4
        have hlt := (hrt k e).2
        rcases r4.2 with ⟨hv, _⟩ | ⟨g', c, cur, hv, _, hg', _⟩
        · simp at hv
        · simp only [Value.slice.injEq, Option.some.injEq] at hv
          rw [hv.1] at e
          simp only [blk, Option.some.injEq] at e
          obtain rfl : k = g' := e.symm
          rw [hko] at hg'
          simp only [Option.some.injEq, Obj.cells.injEq] at hg'
          exact absurd hg'.2.1 (by decide)
    exact heap_set ((hk.block k (Array.getElem?_eq_some_iff.1 hko).1 n2).trans hko) n1
  have k2 := Keeps.setCell w' ⟨gb, b, none⟩ v'
  have keep : ∀ {x : Option Addr} {c : Nat} {xs : List Int}, OwI wk base x c xs → (∀ k, blk x = some k → k < top) → OwI (w'.setCell ⟨gb, b, none⟩ v') base x c xs := by
    intro x c xs ho hx
    refine own_keeps (own_keeps ho hk fun k hk' e => ?_) k2 fun k hk' e => ?_
    · have := (hrt k e).1; have := hx k hk'; omega
    · have := hx k hk'; simp at e; omega
  have o := h.own
  refine ⟨s1, s2, ne h.box, ne h.res, ne h.cur, ⟨keep o.pc b2, keep o.regs b3, keep o.mem b4, o.d01, o.d02, o.d12, top, b1, b2, b3, b4, ?_⟩, ?_, h.wb, by rw [hss]; have := h.bw; omega⟩
  · rw [hss]
    rw [List.map_set]
    simpa using s3
  · exact (Proofs.Ytbncmeggnhggkaa.Below.keeps h.below hk h.below.size (fun x e => by have := (hrt x e).1; have := h.wb; omega)).setCell (show w.heap.size ≤ gb by have := h.wb; omega) _
theorem rd_drop2 {w : World} {G o : Nat} {x y : Int} {os : List Int} (h : Rd w (some ⟨G, o, none⟩) (ints (x :: y :: os))) : Rd w (some ⟨G, o + 2, none⟩) (ints os) := by
  rcases h with h | ⟨b, off, e, hlt, hc⟩
  · cases h
  · right
    simp only [Option.some.injEq, Addr.mk.injEq, and_true] at e
    obtain ⟨rfl, rfl⟩ := e
    refine ⟨G, o + 2, rfl, hlt, fun j u hj => ?_⟩
    have := hc (j + 2) u (by simpa using hj)
    rw [show o + 2 + j = o + (j + 2) by omega]
    exact this
/-- 'append([]int{}, x...)' at a step of a region that draws its order. -/
theorem wpMixJ_append_lit {J : World → Prop} {ops : Array Oper} {rest : List Oper} {o : Oper} {a : Act} {w : World} {Q : Act → World → Prop} (hgd : o.guard = none) (w0 : World) (s x : Operand)
    (ho : o.op = .call { callee := .builtin .append, args := #[s, x], argTypes := #[23, 23] })
    (v : Value) (hs : a.eval s = v) (hg : IsLit w0 w 3 v) (src : Option Addr) (m c : Nat) (xs : List Int) (hx : a.eval x = .slice src m c) (hrd : Rd w src (ints xs)) (hl : xs.length = m) (h63 : m ≤ 1000000000)
    (h : ∀ a' c' w', w'.ownsRow w0.heap.size 3 1 (.slice a' m c') m (ints xs) → Below w.heap.size w w' → (∀ b, blk a' = some b → vblk v = some b ∨ (w.heap.size ≤ b ∧ b < w'.heap.size)) → MJ.wpMix J Try.prog ops Q rest (a.put o.dst (.slice a' m c')) w') : MJ.wpMix J Try.prog ops Q (o :: rest) a w := by
  refine MJ.wpMix_act hgd (by simp [MJ.actsB, actsB, ho]) (by simp [MJ.makesB, ho]) fun K hK => ?_
  exact oper_append_lit w0 s x 23 ho 3 (.int .i64 0) 1 8 Try.underlying23 Try.info_int rfl (by decide) v hs hg src m c (ints xs) hx hrd (by simp [hl]) (ints_one _ _) h63 (by decide) (fun a' c' w' h1 h2 h3 => hK _ _ (h a' c' w' h1 h2 h3))

set_option maxRecDepth 100000 in
set_option maxHeartbeats 3200000 in
theorem l4DoF_c (w : World) (a : Option Addr) (cap : Nat) (p : Prg) (q : Sp) (s : St) (split : Bool) (b : Nat) (el ev : Int) (es : List (Int × Int)) (hp : RdP w a p) (h : RdS w q s) (hv : Shape p) (hg : Good4 p split s) (hb : b < s.buf.length) (hrow : row4 s b = (el, ev) :: es) :
    Calls Try.prog 72 #[.slice a p.length cap, q.v s, .bool split, .int .i64 ((p.length + b : Nat) : Int)] w fun e w' => ∃ q' : Sp, e = .returned (q'.v (flush4 p s b)) ∧ Fresh w' w.heap.size q' (flush4 p s b) ∧ Below w.heap.size w w' := by
  have hn0 : 0 < p.length := by
    have := hg.bufl
    cases hz : p.length with
    | zero => rw [hz, Nat.zero_mul] at this; omega
    | succ k => omega
  obtain ⟨z0, z1, z2⟩ := good_small hg.toGood hv
  have hsm := good4_small hg hv
  have HCOPY := hid (fun w (h : RdS w q s) => l3Copy_c w q s h (by omega) (by omega) (by omega) hsm.n hsm.len)
  have HRD := hid h
  have HRP := hid hp
  have HGD := hid hg
  have HSH := hid hv
  obtain ⟨a0, c0, a1, c1, a2, c2, a3, c3⟩ := q
  obtain ⟨n, hn⟩ : ∃ n, n = p.length := ⟨_, rfl⟩
  have hpc : s.pc.length = n := by rw [hn]; exact hg.pcl
  have HE := hid (And.intro hn hpc)
  obtain ⟨g, off, r, c, hq, hgl, hcell, hrd, hrc⟩ := h.bufAt hb
  have hq : a3 = some ⟨g, off, none⟩ := hq
  subst hq
  have hlen7 := hg.rlen hv (row4_get hb)
  have hbl9 := hg.blen hv
  obtain ⟨hl, hvb⟩ := hg.ent b _ (row4_get hb) (el, ev) (by rw [hrow]; exact List.mem_cons_self)
  obtain ⟨ln, rfl⟩ : ∃ ln : Nat, el = ln := ⟨el.toNat, by have := hl.1; simp only at this; omega⟩
  have hl2 : ln ≤ 2 := by have := hl.2; simp only at this; omega
  have hlm : ln < s.mem.length := by rw [hg.meml]; omega
  have HDO := hid (show flush4 p s b = { pc := s.pc, regs := s.regs, mem := s.mem.set ln ev, buf := s.buf.set b es } from by unfold flush4; rw [hrow]; rfl)
  have HROW := hid (show s.buf[b]? = some (((ln : Int), ev) :: es) from by rw [← hrow]; exact row4_get hb)
  obtain ⟨l, hl'⟩ : ∃ l, l = es.length := ⟨_, rfl⟩
  rw [hrow, List.length_cons, ← hl'] at hcell hrc hlen7
  rw [hrow] at hrd
  have HL := hid hl'
  have HCELL := hid (And.intro hgl hcell)
  have HRR := hid hrd
  clear hl hvb hrow hcell hrd hl' hg hv hgl
  rw [← hn] at hn0 ⊢
  have HZ := hid (And.intro z0 (And.intro z1 z2))
  clear hn hpc z0 z1 z2 hsm
  unfold Sp.v at HCOPY ⊢
  dsimp only at HCOPY ⊢
  clear h hp
  go_enter Try.func72, Try.ntmps72
  go_wp2_with fail
  refine (HCOPY.out _ ?_).mono ?_
  · exact HRD.out.below (((Below.refl w.heap.size w).alloc (Nat.le_refl _) _).alloc (by simp) _)
  rintro e w1 ⟨q', rfl, hown, hb1⟩
  obtain ⟨g0, hg0, _, l0⟩ := own_some hown.pc (by rw [HE.out.2]; omega)
  obtain ⟨g1, hg1, _, l1⟩ := own_some hown.regs (by rw [HGD.out.regl]; have := HE.out.1; omega)
  obtain ⟨g2, hg2, _, l2⟩ := own_some hown.mem (by rw [HGD.out.meml]; omega)
  obtain ⟨e0, d0, e1, d1, e2, d2, e3, d3⟩ := q'
  have hg0 : e0 = some ⟨g0, 0, none⟩ := hg0
  have hg1 : e1 = some ⟨g1, 0, none⟩ := hg1
  have hg2 : e2 = some ⟨g2, 0, none⟩ := hg2
  subst hg0
  subst hg1
  subst hg2
  obtain ⟨w0, hw0⟩ : ∃ w0, w0 = (w.alloc (.cells #[.slice a0 s.pc.length c0, .slice a1 s.regs.length c1, .slice a2 s.mem.length c2, .slice (some ⟨g, off, none⟩) s.buf.length c3] 44)).alloc (.cells zSt 44) := ⟨_, rfl⟩
  rw [← hw0] at hown hb1
  have HOWN := hid hown
  have HB1 := hid hb1
  clear hown hb1
  have hs0 : w0.heap.size = w.heap.size + 2 := by rw [hw0]; simp
  have hb0 : Below w.heap.size w w0 := by rw [hw0]; exact ((Below.refl _ _).alloc (Nat.le_refl _) _).alloc (by simp) _
  have hbox0 : w0.heap[w.heap.size]? = some (.cells #[.slice a0 s.pc.length c0, .slice a1 s.regs.length c1, .slice a2 s.mem.length c2, .slice (some ⟨g, off, none⟩) s.buf.length c3] 44 (0, 0)) := by
    rw [hw0, heap_alloc_old _ _ (by simp)]
    exact heap_alloc_new w _
  have hres0 : w0.heap[w.heap.size + 1]? = some (.cells zSt 44 (0, 0)) := by
    rw [hw0]
    have := heap_alloc_new (w.alloc (.cells #[.slice a0 s.pc.length c0, .slice a1 s.regs.length c1, .slice a2 s.mem.length c2, .slice (some ⟨g, off, none⟩) s.buf.length c3] 44)) (.cells zSt 44)
    simpa using this
  have hs1 := HB1.out.size
  have hba := (Below.refl w1.heap.size w1).alloc (Nat.le_refl _) (.cells #[.slice (some ⟨g0, 0, none⟩) s.pc.length d0, .slice (some ⟨g1, 0, none⟩) s.regs.length d1, .slice (some ⟨g2, 0, none⟩) s.mem.length d2, .slice e3 s.buf.length d3] 44)
  have D2 : DoI w w.heap.size (w.heap.size + 1) w1.heap.size w0.heap.size ⟨a0, c0, a1, c1, a2, c2, some ⟨g, off, none⟩, c3⟩ ⟨some ⟨g0, 0, none⟩, d0, some ⟨g1, 0, none⟩, d1, some ⟨g2, 0, none⟩, d2, e3, d3⟩ s s (w1.alloc (.cells #[.slice (some ⟨g0, 0, none⟩) s.pc.length d0, .slice (some ⟨g1, 0, none⟩) s.regs.length d1, .slice (some ⟨g2, 0, none⟩) s.mem.length d2, .slice e3 s.buf.length d3] 44)) :=
    ⟨(hba.block _ (by omega)).trans ((HB1.out.block _ (by omega)).trans hbox0), (hba.block _ (by omega)).trans ((HB1.out.block _ (by omega)).trans hres0), heap_alloc_new w1 _, HOWN.out.below hba, (hb0.trans (HB1.out.mono (by omega))).trans (hba.mono (by omega)), by omega, by simp; omega⟩
  obtain ⟨w2, hw2⟩ : ∃ w2, w2 = w1.alloc (.cells #[.slice (some ⟨g0, 0, none⟩) s.pc.length d0, .slice (some ⟨g1, 0, none⟩) s.regs.length d1, .slice (some ⟨g2, 0, none⟩) s.mem.length d2, .slice e3 s.buf.length d3] 44) := ⟨_, rfl⟩
  rw [← hw2] at D2
  have HD2 := hid D2
  have hs2 : w2.heap.size = w1.heap.size + 1 := by rw [hw2]; simp
  clear D2 hba hbox0 hres0 hb0 HOWN HB1 hw0
  have hcw := (HD2.out.below.cell (p := ⟨g, off + b, none⟩) HCELL.out.1).trans HCELL.out.2
  obtain ⟨⟨_, _, _, x3⟩, ⟨_, _, y2, _⟩⟩ := HD2.out.cells
  dsimp only at x3 y2
  obtain ⟨rb, ro, hr0, hrl, hc0⟩ := HRR.out.int 0 (by rw [length_flatB]; simp)
  subst hr0
  obtain ⟨rb', ro', hr1, _, hc1⟩ := HRR.out.int 1 (by rw [length_flatB, List.length_cons]; omega)
  simp only [Option.some.injEq, Addr.mk.injEq] at hr1
  obtain ⟨rfl, rfl, _⟩ := hr1
  have hw0 : w2.cell? ⟨rb, ro, none⟩ = some (.int .i64 (ln : Int)) := (HD2.out.below.cell (p := ⟨rb, ro, none⟩) hrl).trans hc0
  have hw1 : w2.cell? ⟨rb, ro + 1, none⟩ = some (.int .i64 ev) := (HD2.out.below.cell (p := ⟨rb, ro + 1, none⟩) hrl).trans hc1
  have e1 : (n : Int) + (b : Int) - (n : Int) = (b : Int) := by omega
  have e2 : decide ((n : Int) ≤ (n : Int) + (b : Int)) = true := decide_eq_true (by omega)
  have e3' : (n : Int) ≤ (n : Int) + (b : Int) := by omega
  have hbb : (b : Int) < (s.buf.length : Int) := by omega
  obtain ⟨z3, o3c, o3f⟩ := own_intAt HD2.out.own.mem ln (by have := hlm; simpa using this)
  have hl20 : (0 : Int) < ((l : Int) + 1) * 2 := by omega
  have hl21 : (1 : Int) < ((l : Int) + 1) * 2 := by omega
  clear hc0 hc1
  rw [hw2] at x3 hcw
  go_wp2_with fail
  rw [← hw2]
  clear hw2
  refine wp_region_mix (by kernel_rfl) (by kernel_rfl) ?_
  repeat (with_reducible refine wpMix_rd rfl rfl (fun K hK => ?_); go_simp; (try go_bits); refine hK _ ?_; clear hK K)
  (with_reducible refine wpMix_act (o := ⟨_, .store _ _ _, _, _, _, _⟩) rfl rfl (fun K hK => ?_))
  go_simp
  refine hK _ _ ?_
  clear hK K
  have HD4 := hid (DoI.drew (HD2.out.set2 rfl ln ev))
  obtain ⟨w4, hw4⟩ : ∃ w4, w4 = (w2.setCell ⟨g2, ln, none⟩ (.int .i64 ev)).drew := ⟨_, rfl⟩
  rw [← hw4] at HD4 ⊢
  have hs4 : w4.heap.size = w1.heap.size + 1 := by rw [hw4]; simpa [World.setCell] using hs2
  clear x3 y2 o3c o3f HD2 hw4 hw0 hw1 hcw
  (with_reducible refine wpMix_nil ?_)
  obtain ⟨top, gb, a', c', t1, t2, hq3, hgb, hcb, hob, _, hput⟩ := HD4.out.row HROW.out
  have hq3 : e3 = some ⟨gb, 0, none⟩ := hq3
  subst hq3
  have HPUT := hid hput
  obtain ⟨_, ⟨_, _, _, y3⟩⟩ := HD4.out.cells
  dsimp only at y3
  have hlt7 := (Array.getElem?_eq_some_iff.1 HD4.out.cur).1
  obtain ⟨J, hJ⟩ : ∃ J : World → Prop, J = fun w' => Below w4.heap.size w4 w' := ⟨_, rfl⟩
  have HJ := hid (fun w' (h : Below w4.heap.size w4 w') => show J w' by rw [hJ]; exact h)
  have HC := hid (fun w' (h : J w') => show w'.cell? ⟨w1.heap.size, 3, none⟩ = some (.slice (some ⟨gb, 0, none⟩) s.buf.length d3) from by
    rw [hJ] at h
    exact (h.cell (p := ⟨w1.heap.size, 3, none⟩) hlt7).trans y3)
  have hJ0 : J w4.drew := HJ.out _ (below_drewN 1 (Below.refl _ _))
  have HJB := hid (fun w' (h : J w') => show Below w4.heap.size w4 w' by rw [hJ] at h; exact h)
  have HJI := hid (fun S ρ w' (h : ChI [6, 9] (flR w4 es) J S ρ w') => h.j)
  have HRL := hid (HRR.out.below HD4.out.below)
  have hrc1 : (2 : Int) ≤ (c : Int) := by omega
  have hl22 : (2 : Int) ≤ ((l : Int) + 1) * 2 := by omega
  have hl23 : ((l : Int) + 1) * 2 ≤ (c : Int) := by omega
  have HLB := hid (show (flatB es).length = l * 2 by rw [length_flatB, ← HL.out])
  have hwrap : IntKind.i64.wrap (b : Int) = (b : Int) := IntWalk.i64_in _ (by omega)
  clear hJ hput y3 hcb
  by_cases hc2 : c = 2
  · have hes : es = [] := List.eq_nil_of_length_eq_zero (by rw [← HL.out]; omega)
    have hl0 : l = 0 := by omega
    have HES := hid hes
    subst hl0
    subst hc2
    clear hes
    have HRS := hid (show Rd w4 (some ⟨rb, ro, none⟩) (ints (flatB es)) from (.inl (by rw [HES.out]; rfl)))
    go_wp2_with fail
    refine FR.wp_region_free 10 (ChI [6, 9] (flR w4 es) J) (by kernel_rfl) (by kernel_rfl) (by kernel_rfl) (fun _ => undef) (ChI.start hJ0 trivial) fun V => ?_
    (refine FR.frGo_pure _ rfl (fun K hK => ?_); go_simp; (first | refine hK _ ?_ | refine ⟨_, fun W hW => rfl, hK _ ?_⟩ | refine ⟨_, fun W hW => ⟨rfl, rfl⟩, hK _ ?_⟩); clear hK K)
    (refine FR.frGo_held _ rfl J (fun S ρ w' h _ => HJI.out S ρ w' h) (fun K hK => ?_); go_simp; apply Exists.intro; refine And.intro (fun W hW => ?_) (hK _ ?_); (focus (have hcs := HC.out W hW; go_simp; try rfl)); clear hK K)
    (refine FR.frGo_pure _ rfl (fun K hK => ?_); go_simp; (first | refine hK _ ?_ | refine ⟨_, fun W hW => rfl, hK _ ?_⟩ | refine ⟨_, fun W hW => ⟨rfl, rfl⟩, hK _ ?_⟩); clear hK K)
    (refine FR.frGo_pure _ rfl (fun K hK => ?_); go_simp; (first | refine hK _ ?_ | refine ⟨_, fun W hW => rfl, hK _ ?_⟩ | refine ⟨_, fun W hW => ⟨rfl, rfl⟩, hK _ ?_⟩); clear hK K)
    (refine FR.frGo_pure _ rfl (fun K hK => ?_); go_simp; (first | refine hK _ ?_ | refine ⟨_, fun W hW => rfl, hK _ ?_⟩ | refine ⟨_, fun W hW => ⟨rfl, rfl⟩, hK _ ?_⟩); clear hK K)
    (refine FR.frGo_pure _ rfl (fun K hK => ?_); go_simp; (first | refine hK _ ?_ | refine ⟨_, fun W hW => rfl, hK _ ?_⟩ | refine ⟨_, fun W hW => ⟨rfl, rfl⟩, hK _ ?_⟩); clear hK K)
    refine FR.frGo_act (k := 6) _ rfl (fun S ρ w' hI hS hp K hK => ?_) ?_
    · go_simp
      have hb := HJB.out w' hI.j
      refine hK _ _ (hI.next (i := 0) (by decide) rfl hS (by simp) (HJ.out _ (hb.alloc hb.size _)) ?_)
      show IsLit w4 _ 3 (FR.upd ρ 6 _ 6)
      rw [FR.upd_same]
      exact IsLit.new w4 w' _ hb.size
    (refine FR.frGo_pure _ rfl (fun K hK => ?_); go_simp; (first | refine hK _ ?_ | refine ⟨_, fun W hW => rfl, hK _ ?_⟩ | refine ⟨_, fun W hW => ⟨rfl, rfl⟩, hK _ ?_⟩); clear hK K)
    (refine FR.frGo_pure _ rfl (fun K hK => ?_); go_simp; (first | refine hK _ ?_ | refine ⟨_, fun W hW => rfl, hK _ ?_⟩ | refine ⟨_, fun W hW => ⟨rfl, rfl⟩, hK _ ?_⟩); clear hK K)
    refine FR.frGo_act (k := 9) _ rfl (fun S ρ w' hI hS hp K hK => ?_) ?_
    · have hp6 := hp 6 (by kernel_rfl)
      have hb := HJB.out w' hI.j
      have q6 : IsLit w4 w' 3 (ρ 6) := hI.at (i := 1) (by decide) rfl hS (by simpa using hp6.1)
      rw [hp6.2] at q6
      refine oper_append_lit w4 _ _ 23 rfl 3 (.int .i64 0) 1 8 Try.underlying23 Try.info_int rfl (by decide) (V 6) rfl q6 (some ⟨rb, ro, none⟩) (0) _ (ints (flatB es)) rfl (HRS.out.below hb) (by rw [List.length_map]; exact HLB.out.trans (by omega)) (ints_one _ _) (by omega) (by decide) ?_
      intro a5 c5 w'' hown hb2 hat
      have em : (0) = (flatB es).length := by have := HLB.out; omega
      refine hK _ _ (hI.next (i := 1) (by decide) rfl hS (by simpa using hp6.1) (HJ.out _ (hb.trans (hb2.mono hb.size))) ?_)
      show IsOwn w4.heap.size (flatB es) _ (FR.upd ρ 9 _ 9)
      rw [FR.upd_same]
      exact ⟨a5, c5, by rw [em], by rw [← em]; exact hown⟩
    refine FR.frGo_nil _ ?_
    intro S ρ w5 hI hS
    have z6 := hS 6 (by decide) (by kernel_rfl)
    have z9 := hS 9 (by decide) (by kernel_rfl)
    obtain ⟨a5, c5, e9, hown5⟩ : IsOwn w4.heap.size (flatB es) w5 (ρ 9) := hI.done (by decide) (by simp [z6.1, z9.1])
    rw [e9] at hown5
    rw [z9.2] at e9
    rw [e9]
    have hb5 := HJB.out w5 hI.j
    have k5 : Keeps (fun k => blk a' = some k) w4 w5 := Keeps.of_below hb5
    obtain ⟨p1, p2, p3⟩ := HPUT.out w5 (.slice a5 (flatB es).length c5) es k5 (own_base hown5 t2) (.inr fun x hx => (own_blk hown5 x (by rw [ownBlock_slice] at hx; exact hx)).1)
    have HD9 := hid p3
    clear p3 hown5 k5 hI hS z6 z9 e9
    refine wpMix_rd rfl rfl (fun K hK => ?_)
    go_simp
    refine hK _ ?_
    clear hK K
    refine wpMix_act rfl rfl (fun K hK => ?_)
    go_simp
    refine hK _ _ ?_
    clear hK K
    (with_reducible refine wpMix_nil ?_)
    go_wp2_with (first | (refine wpList_load_row rfl 44 (.tmp 9) rfl w1.heap.size rfl 44 _ (0, 0) _ HD9.out.cur Try.underlying44 rfl (by kernel_rfl) ?_) | (refine wpList_store_row rfl 44 (.tmp 8) (.tmp 47) rfl (w.heap.size + 1) _ rfl rfl 44 zSt HD9.out.res (by kernel_rfl) rfl (DoI.one _ _) ?_))
    have hD := HD9.out.done (by omega) (by omega)
    rw [HDO.out]
    refine bodyPost_ret (results_cell_row rfl _ _ (w.heap.size + 1) 44 _ (0, 0) _ rfl (setRow_heap _ _ _ _ _ _ HD9.out.res) Try.underlying44 rfl (by kernel_rfl)) rfl ⟨_, ?_, hD⟩
    simp
  · have hc3 : (2 : Int) < (c : Int) := by omega
    have HRS := hid (show Rd w4 (some ⟨rb, ro + 2, none⟩) (ints (flatB es)) from rd_drop2 HRL.out)
    go_wp2_with fail
    refine FR.wp_region_free 10 (ChI [6, 9] (flR w4 es) J) (by kernel_rfl) (by kernel_rfl) (by kernel_rfl) (fun _ => undef) (ChI.start hJ0 trivial) fun V => ?_
    (refine FR.frGo_pure _ rfl (fun K hK => ?_); go_simp; (first | refine hK _ ?_ | refine ⟨_, fun W hW => rfl, hK _ ?_⟩ | refine ⟨_, fun W hW => ⟨rfl, rfl⟩, hK _ ?_⟩); clear hK K)
    (refine FR.frGo_held _ rfl J (fun S ρ w' h _ => HJI.out S ρ w' h) (fun K hK => ?_); go_simp; apply Exists.intro; refine And.intro (fun W hW => ?_) (hK _ ?_); (focus (have hcs := HC.out W hW; go_simp; try rfl)); clear hK K)
    (refine FR.frGo_pure _ rfl (fun K hK => ?_); go_simp; (first | refine hK _ ?_ | refine ⟨_, fun W hW => rfl, hK _ ?_⟩ | refine ⟨_, fun W hW => ⟨rfl, rfl⟩, hK _ ?_⟩); clear hK K)
    (refine FR.frGo_pure _ rfl (fun K hK => ?_); go_simp; (first | refine hK _ ?_ | refine ⟨_, fun W hW => rfl, hK _ ?_⟩ | refine ⟨_, fun W hW => ⟨rfl, rfl⟩, hK _ ?_⟩); clear hK K)
    (refine FR.frGo_pure _ rfl (fun K hK => ?_); go_simp; (first | refine hK _ ?_ | refine ⟨_, fun W hW => rfl, hK _ ?_⟩ | refine ⟨_, fun W hW => ⟨rfl, rfl⟩, hK _ ?_⟩); clear hK K)
    (refine FR.frGo_pure _ rfl (fun K hK => ?_); go_simp; (first | refine hK _ ?_ | refine ⟨_, fun W hW => rfl, hK _ ?_⟩ | refine ⟨_, fun W hW => ⟨rfl, rfl⟩, hK _ ?_⟩); clear hK K)
    refine FR.frGo_act (k := 6) _ rfl (fun S ρ w' hI hS hp K hK => ?_) ?_
    · go_simp
      have hb := HJB.out w' hI.j
      refine hK _ _ (hI.next (i := 0) (by decide) rfl hS (by simp) (HJ.out _ (hb.alloc hb.size _)) ?_)
      show IsLit w4 _ 3 (FR.upd ρ 6 _ 6)
      rw [FR.upd_same]
      exact IsLit.new w4 w' _ hb.size
    (refine FR.frGo_pure _ rfl (fun K hK => ?_); go_simp; (first | refine hK _ ?_ | refine ⟨_, fun W hW => rfl, hK _ ?_⟩ | refine ⟨_, fun W hW => ⟨rfl, rfl⟩, hK _ ?_⟩); clear hK K)
    (refine FR.frGo_pure _ rfl (fun K hK => ?_); go_simp; (first | refine hK _ ?_ | refine ⟨_, fun W hW => rfl, hK _ ?_⟩ | refine ⟨_, fun W hW => ⟨rfl, rfl⟩, hK _ ?_⟩); clear hK K)
    refine FR.frGo_act (k := 9) _ rfl (fun S ρ w' hI hS hp K hK => ?_) ?_
    · have hp6 := hp 6 (by kernel_rfl)
      have hb := HJB.out w' hI.j
      have q6 : IsLit w4 w' 3 (ρ 6) := hI.at (i := 1) (by decide) rfl hS (by simpa using hp6.1)
      rw [hp6.2] at q6
      refine oper_append_lit w4 _ _ 23 rfl 3 (.int .i64 0) 1 8 Try.underlying23 Try.info_int rfl (by decide) (V 6) rfl q6 (some ⟨rb, ro + 2, none⟩) ((l + 1) * 2 - 2) _ (ints (flatB es)) rfl (HRS.out.below hb) (by rw [List.length_map]; exact HLB.out.trans (by omega)) (ints_one _ _) (by omega) (by decide) ?_
      intro a5 c5 w'' hown hb2 hat
      have em : ((l + 1) * 2 - 2) = (flatB es).length := by have := HLB.out; omega
      refine hK _ _ (hI.next (i := 1) (by decide) rfl hS (by simpa using hp6.1) (HJ.out _ (hb.trans (hb2.mono hb.size))) ?_)
      show IsOwn w4.heap.size (flatB es) _ (FR.upd ρ 9 _ 9)
      rw [FR.upd_same]
      exact ⟨a5, c5, by rw [em], by rw [← em]; exact hown⟩
    refine FR.frGo_nil _ ?_
    intro S ρ w5 hI hS
    have z6 := hS 6 (by decide) (by kernel_rfl)
    have z9 := hS 9 (by decide) (by kernel_rfl)
    obtain ⟨a5, c5, e9, hown5⟩ : IsOwn w4.heap.size (flatB es) w5 (ρ 9) := hI.done (by decide) (by simp [z6.1, z9.1])
    rw [e9] at hown5
    rw [z9.2] at e9
    rw [e9]
    have hb5 := HJB.out w5 hI.j
    have k5 : Keeps (fun k => blk a' = some k) w4 w5 := Keeps.of_below hb5
    obtain ⟨p1, p2, p3⟩ := HPUT.out w5 (.slice a5 (flatB es).length c5) es k5 (own_base hown5 t2) (.inr fun x hx => (own_blk hown5 x (by rw [ownBlock_slice] at hx; exact hx)).1)
    have HD9 := hid p3
    clear p3 hown5 k5 hI hS z6 z9 e9
    refine wpMix_rd rfl rfl (fun K hK => ?_)
    go_simp
    refine hK _ ?_
    clear hK K
    refine wpMix_act rfl rfl (fun K hK => ?_)
    go_simp
    refine hK _ _ ?_
    clear hK K
    (with_reducible refine wpMix_nil ?_)
    go_wp2_with (first | (refine wpList_load_row rfl 44 (.tmp 9) rfl w1.heap.size rfl 44 _ (0, 0) _ HD9.out.cur Try.underlying44 rfl (by kernel_rfl) ?_) | (refine wpList_store_row rfl 44 (.tmp 8) (.tmp 47) rfl (w.heap.size + 1) _ rfl rfl 44 zSt HD9.out.res (by kernel_rfl) rfl (DoI.one _ _) ?_))
    have hD := HD9.out.done (by omega) (by omega)
    rw [HDO.out]
    refine bodyPost_ret (results_cell_row rfl _ _ (w.heap.size + 1) 44 _ (0, 0) _ rfl (setRow_heap _ _ _ _ _ _ HD9.out.res) Try.underlying44 rfl (by kernel_rfl)) rfl ⟨_, ?_, hD⟩
    simp
end Go.Proofs.Ytbncmeggnhggkaa
namespace Go.Proofs.Ytbncmeggnhggkaa
open Go.RowKit
set_option linter.unusedVariables false
set_option linter.unusedSimpArgs false

def ldR (i : Nat) (sv : Int) (m : Nat) (ρ : Nat → Value) (w : World) : Prop :=
  if m = 1 then ρ 5 = .int .i64 (i : Int) else if m = 2 then ρ 5 = .int .i64 (i : Int) ∧ ρ 11 = .int .i64 sv else True
def stR (w1 : World) (top : Nat) (a : Option Addr) (c : Nat) (r : List (Int × Int)) (ln : Nat) (wv : Int) (m : Nat) (ρ : Nat → Value) (w : World) : Prop :=
  if m = 0 then OwI w top a c (flatB r) else if m = 1 then ρ 13 = .int .i64 wv ∧ OwI w top a c (flatB r)
  else if m = 2 then (∃ H, ρ 14 = .slice (some ⟨H, 0, none⟩) 2 2 ∧ Rd w (some ⟨H, 0, none⟩) (ints [(ln : Int), wv])) ∧ OwI w top a c (flatB r)
  else ∃ a5 c5, ρ 15 = .slice a5 (flatB (r ++ [((ln : Int), wv)])).length c5 ∧ OwI w top a5 c5 (flatB (r ++ [((ln : Int), wv)])) ∧ (blk a5 = blk a ∨ ∀ x, blk a5 = some x → w1.heap.size ≤ x)

set_option maxRecDepth 100000 in
set_option maxHeartbeats 3200000 in
theorem l4DoT_c (w : World) (a : Option Addr) (cap : Nat) (p : Prg) (q : Sp) (s : St) (split : Bool) (t : Nat) (hp : RdP w a p) (h : RdS w q s) (hv : Shape p) (hg : Good4 p split s) (ht : t < p.length) (hr : ready4 p s split t = true) :
    Calls Try.prog 72 #[.slice a p.length cap, q.v s, .bool split, .int .i64 t] w fun e w' => ∃ q' : Sp, e = .returned (q'.v (do4 p s split t)) ∧ Fresh w' w.heap.size q' (do4 p s split t) ∧ Below w.heap.size w w' := by
  have hn0 : 0 < p.length := by omega
  obtain ⟨z0, z1, z2⟩ := good_small hg.toGood hv
  have hsm := good4_small hg hv
  have HCOPY := hid (fun w (h : RdS w q s) => l3Copy_c w q s h (by omega) (by omega) (by omega) hsm.n hsm.len)
  have HRD := hid h
  have HRP := hid hp
  have HGD := hid hg
  have HSH := hid hv
  obtain ⟨a0, c0, a1, c1, a2, c2, a3, c3⟩ := q
  obtain ⟨n, hn⟩ : ∃ n, n = p.length := ⟨_, rfl⟩
  have hpc : s.pc.length = n := by rw [hn]; exact hg.pcl
  have HE := hid (And.intro hn hpc)
  have hgo : goes p s t = true := by unfold ready4 at hr; simp only [Bool.and_eq_true] at hr; exact hr.1
  obtain ⟨xs, k, x, hxs, hk, hx, hiv, hnx, hk7⟩ := hg.toGood.next hv hgo
  obtain ⟨ln, hln, hl2⟩ := valid_loc hiv
  obtain ⟨rn, hrn, hr2⟩ := valid_reg hiv
  have hop := valid_op hiv
  have HIV := hid hiv
  obtain ⟨op, loc, reg, val⟩ := x
  have hln : loc = ln := hln
  have hrn : reg = rn := hrn
  subst hln
  subst hrn
  have hop1 : 1 ≤ op := hop.1
  have hop5 : op ≤ 5 := hop.2
  have HX := hid (And.intro hxs (And.intro hk (And.intro hx hnx)))
  have hlen := hv.len
  have hpls : place t ln split < s.buf.length := by rw [hg.bufl]; exact place_lt ht hl2
  have hbl9 := hg.blen hv
  have hrow7 := hg.rlen hv (row4_get hpls)
  have HW := hid (fun (h : op = 4 ∨ op = 5) => show do4 p s split t = do3 p s t from by
    unfold do4
    rw [if_pos ht, hnx, if_pos (by rcases h with h | h <;> simp [waits4, h])])
  have hwx : ¬ (op = 4 ∨ op = 5) → waits4 ⟨op, ln, rn, val⟩ = false := fun h => by simp only [waits4, Bool.or_eq_false_iff, beq_eq_false_iff_ne]; exact ⟨fun e => h (.inl e), fun e => h (.inr e)⟩
  have HLD := hid (fun (h : op = 1) => show do4 p s split t = { pc := s.pc.set t ((k : Int) + 1), regs := s.regs.set (t * 3 + rn) (seen4 s t ln split), mem := s.mem, buf := s.buf } from by
    unfold do4
    rw [if_pos ht, hnx, if_neg (by rw [hwx (by omega)]; decide), if_pos h]
    simp [List.getD_eq_getElem?_getD, hk])
  have HST := hid (fun (h : ¬ (op = 4 ∨ op = 5)) (h1 : op ≠ 1) => show do4 p s split t = { pc := s.pc.set t ((k : Int) + 1), regs := s.regs, mem := s.mem, buf := s.buf.set (place t ln split) (row4 s (place t ln split) ++ [((ln : Int), wval s t ⟨op, ln, rn, val⟩)]) } from by
    unfold do4
    rw [if_pos ht, hnx, if_neg (by rw [hwx h]; decide), if_neg h1]
    simp [List.getD_eq_getElem?_getD, hk])
  have HDO3 := hid (fun w hp (h : RdS w ⟨a0, c0, a1, c1, a2, c2, a3, c3⟩ s) => l3Do_c w a cap p ⟨a0, c0, a1, c1, a2, c2, a3, c3⟩ s t hp h hv hg.toGood hsm hgo)
  have HREG0 := hid (fun w => l3Reg_c w t rn _ rfl (by omega) (by omega))
  have HSEEN0 := hid (fun w h => l4Seen_c w ⟨a0, c0, a1, c1, a2, c2, a3, c3⟩ s t ln split h hg.meml hl2 (by omega) hpls (by omega) (by omega))
  have HVAL0 := hid (fun w h => l3Value_c w ⟨a0, c0, a1, c1, a2, c2, a3, c3⟩ s t ⟨op, ln, rn, val⟩ h hiv (by rw [hg.regl]; omega) (by omega))
  have HPL0 := hid (fun w => l4Place_c w t ln _ split rfl (by omega) (by omega))
  have hreg : t * 3 + rn < s.regs.length := by rw [hg.regl]; omega
  have htn : t < n := by rw [hn]; exact ht
  have d2 : ¬ ((n : Int) ≤ (t : Int)) := by omega
  rw [← hn] at HDO3
  have HZZ := hid (And.intro z0 (And.intro z1 z2))
  clear hxs hk hx hnx hiv hop hgo hr ht hwx hg hv
  rw [← hn] at hn0 ⊢
  have HZ := hid (And.intro z0 (And.intro z1 z2))
  clear hn hpc z0 z1 z2 hsm
  unfold Sp.v at HCOPY ⊢
  dsimp only at HCOPY ⊢
  clear h hp
  unfold Sp.v at HSEEN0 HVAL0 HDO3
  dsimp only at HSEEN0 HVAL0 HDO3
  go_enter Try.func72, Try.ntmps72
  go_wp2_with fail
  refine (HCOPY.out _ ?_).mono ?_
  · exact HRD.out.below (((Below.refl w.heap.size w).alloc (Nat.le_refl _) _).alloc (by simp) _)
  rintro e w1 ⟨q', rfl, hown, hb1⟩
  obtain ⟨g0, hg0, _, l0⟩ := own_some hown.pc (by rw [HE.out.2]; omega)
  obtain ⟨g1, hg1, _, l1⟩ := own_some hown.regs (by rw [HGD.out.regl]; have := HE.out.1; omega)
  obtain ⟨g2, hg2, _, l2⟩ := own_some hown.mem (by rw [HGD.out.meml]; omega)
  obtain ⟨e0, d0, e1, d1, e2, d2, e3, d3⟩ := q'
  have hg0 : e0 = some ⟨g0, 0, none⟩ := hg0
  have hg1 : e1 = some ⟨g1, 0, none⟩ := hg1
  have hg2 : e2 = some ⟨g2, 0, none⟩ := hg2
  subst hg0
  subst hg1
  subst hg2
  obtain ⟨w0, hw0⟩ : ∃ w0, w0 = (w.alloc (.cells #[.slice a0 s.pc.length c0, .slice a1 s.regs.length c1, .slice a2 s.mem.length c2, .slice a3 s.buf.length c3] 44)).alloc (.cells zSt 44) := ⟨_, rfl⟩
  rw [← hw0] at hown hb1
  have HOWN := hid hown
  have HB1 := hid hb1
  clear hown hb1
  go_wp2_with fail
  have hs0 : w0.heap.size = w.heap.size + 2 := by rw [hw0]; simp
  have hb0 : Below w.heap.size w w0 := by rw [hw0]; exact ((Below.refl _ _).alloc (Nat.le_refl _) _).alloc (by simp) _
  have hbox0 : w0.heap[w.heap.size]? = some (.cells #[.slice a0 s.pc.length c0, .slice a1 s.regs.length c1, .slice a2 s.mem.length c2, .slice a3 s.buf.length c3] 44 (0, 0)) := by
    rw [hw0, heap_alloc_old _ _ (by simp)]
    exact heap_alloc_new w _
  have hres0 : w0.heap[w.heap.size + 1]? = some (.cells zSt 44 (0, 0)) := by
    rw [hw0]
    have := heap_alloc_new (w.alloc (.cells #[.slice a0 s.pc.length c0, .slice a1 s.regs.length c1, .slice a2 s.mem.length c2, .slice a3 s.buf.length c3] 44)) (.cells zSt 44)
    simpa using this
  have hs1 := HB1.out.size
  have hba := (Below.refl w1.heap.size w1).alloc (Nat.le_refl _) (.cells #[.slice (some ⟨g0, 0, none⟩) s.pc.length d0, .slice (some ⟨g1, 0, none⟩) s.regs.length d1, .slice (some ⟨g2, 0, none⟩) s.mem.length d2, .slice e3 s.buf.length d3] 44)
  have D2 : DoI w w.heap.size (w.heap.size + 1) w1.heap.size w0.heap.size ⟨a0, c0, a1, c1, a2, c2, a3, c3⟩ ⟨some ⟨g0, 0, none⟩, d0, some ⟨g1, 0, none⟩, d1, some ⟨g2, 0, none⟩, d2, e3, d3⟩ s s (w1.alloc (.cells #[.slice (some ⟨g0, 0, none⟩) s.pc.length d0, .slice (some ⟨g1, 0, none⟩) s.regs.length d1, .slice (some ⟨g2, 0, none⟩) s.mem.length d2, .slice e3 s.buf.length d3] 44)) :=
    ⟨(hba.block _ (by omega)).trans ((HB1.out.block _ (by omega)).trans hbox0), (hba.block _ (by omega)).trans ((HB1.out.block _ (by omega)).trans hres0), heap_alloc_new w1 _, HOWN.out.below hba, (hb0.trans (HB1.out.mono (by omega))).trans (hba.mono (by omega)), by omega, by simp; omega⟩
  obtain ⟨w2, hw2⟩ : ∃ w2, w2 = w1.alloc (.cells #[.slice (some ⟨g0, 0, none⟩) s.pc.length d0, .slice (some ⟨g1, 0, none⟩) s.regs.length d1, .slice (some ⟨g2, 0, none⟩) s.mem.length d2, .slice e3 s.buf.length d3] 44) := ⟨_, rfl⟩
  rw [← hw2] at D2 ⊢
  have HD2 := hid D2
  have hs2 : w2.heap.size = w1.heap.size + 1 := by rw [hw2]; simp
  clear D2 hba hbox0 hres0 hb0 HOWN HB1 hw2 hw0
  -- what is read of the program and of the state
  obtain ⟨pb, po, r, rc, xs', hpa, hplt, hpx, hpc, hpr, hpl⟩ := HRP.out.at' t (by rw [← HE.out.1]; exact htn)
  obtain rfl : xs = xs' := by have := HX.out.1; rw [this] at hpx; exact Option.some.inj hpx
  subst hpa
  obtain ⟨rb, ro, x', hra, hrlt, hrx, hins⟩ := hpr.ins k (List.getElem?_eq_some_iff.1 HX.out.2.2.1).1
  obtain rfl : (⟨op, ln, rn, val⟩ : Ins) = x' := by have := HX.out.2.2.1; rw [this] at hrx; exact Option.some.inj hrx
  subst hra
  obtain ⟨sb, so, hsa, hslt, hsc⟩ := HRD.out.pc.int t (by rw [HE.out.2]; exact htn)
  have hsa : a0 = some ⟨sb, so, none⟩ := hsa
  subst hsa
  have hk0 : s.pc[t]'(by rw [HE.out.2]; exact htn) = (k : Int) := (List.getElem?_eq_some_iff.1 HX.out.2.1).2
  rw [hk0] at hsc
  have HSC := hid hsc
  obtain ⟨m, hm⟩ : ∃ m, m = xs.length := ⟨_, rfl⟩
  have hkm : k < m := by rw [hm]; exact (List.getElem?_eq_some_iff.1 HX.out.2.2.1).1
  rw [← hm] at hpc
  have htq : t < s.pc.length := by rw [HE.out.2]; exact htn
  obtain ⟨J, hJ⟩ : ∃ J : World → Prop, J = fun w' => Below w2.heap.size w2 w' := ⟨_, rfl⟩
  have HJ := hid (fun w' (h : Below w2.heap.size w2 w') => show J w' by rw [hJ]; exact h)
  have HC := hid (fun w' (h : J w') => show w'.cell? ⟨pb, po + t, none⟩ = some (.slice (some ⟨rb, ro, none⟩) m rc) ∧ w'.cell? ⟨sb, so + t, none⟩ = some (.int .i64 k) ∧ w'.cell? ⟨w.heap.size, 0, none⟩ = some (.slice (some ⟨sb, so, none⟩) s.pc.length c0) ∧ (w'.cell? ⟨rb, ro + k * 4, none⟩ = some (.int .i64 op) ∧ w'.cell? ⟨rb, ro + k * 4 + 1, none⟩ = some (.int .i64 ln) ∧ w'.cell? ⟨rb, ro + k * 4 + 2, none⟩ = some (.int .i64 rn) ∧ w'.cell? ⟨rb, ro + k * 4 + 3, none⟩ = some (.int .i64 val)) from by
    rw [hJ] at h
    have hb : Below w.heap.size w w' := HD2.out.below.trans (h.mono (by omega))
    refine ⟨(hb.cell (p := ⟨pb, po + t, none⟩) hplt).trans hpc, (hb.cell (p := ⟨sb, so + t, none⟩) hslt).trans hsc, ?_, hins.below hb hrlt⟩
    rw [cell_of_row w' w.heap.size 0 _ _ _ ((h.block _ (by omega)).trans HD2.out.box)]
    rfl)
  have hJ0 : J w2.drew := HJ.out _ (below_drewN 1 (Below.refl _ _))
  clear hJ hins hpr hpc hsc hk0 hpx hrx hpl hm
  refine MJ.wp_region_mix (J := J) (by kernel_rfl) (by kernel_rfl) ?_
  repeat (first | (refine MJ.wpMix_pure rfl rfl (fun K hK => ?_); go_simp; (first | refine hK _ ?_ | refine ⟨_, fun W hW => rfl, hK _ ?_⟩ | refine ⟨_, fun W hW => ⟨rfl, rfl⟩, hK _ ?_⟩); clear hK K) | (refine MJ.wpMix_held rfl rfl (by assumption) (fun K hK => ?_); go_simp; apply Exists.intro; refine And.intro (fun W hW => ?_) (hK _ ?_); (focus (have hcs := HC.out W hW; go_simp; try rfl)); clear hK K))
  have hJ1 : J ((w2.alloc (.cells #[.int .i64 0, .int .i64 0, .int .i64 0, .int .i64 0] 79)).drew) := HJ.out _ (below_drewN 1 ((Below.refl _ _).alloc (Nat.le_refl _) _))
  (with_reducible refine MJ.wpMix_make rfl rfl (fun K hK => ?_); go_simp)
  refine hK _ _ (by assumption) ?_
  clear hK K
  (with_reducible refine MJ.wpMix_act rfl rfl rfl (fun K hK => ?_); go_simp)
  refine hK _ _ ?_
  clear hK K
  refine MJ.wpMix_nil ?_
  have hb3 : Below w2.heap.size w2 (w2.alloc (.cells #[.int .i64 op, .int .i64 ln, .int .i64 rn, .int .i64 val] 79)).drew := below_drewN 1 ((Below.refl _ _).alloc (Nat.le_refl _) _)
  have hx3 : Box (w2.alloc (.cells #[.int .i64 op, .int .i64 ln, .int .i64 rn, .int .i64 val] 79)).drew w2.heap.size ⟨op, ln, rn, val⟩ := Box.new w2 ⟨op, ln, rn, val⟩ _
  obtain ⟨w3, hw3⟩ : ∃ w3, w3 = (w2.alloc (.cells #[.int .i64 op, .int .i64 ln, .int .i64 rn, .int .i64 val] 79)).drew := ⟨_, rfl⟩
  rw [← hw3] at hb3 hx3 ⊢
  have HD3 := hid (HD2.out.later hb3)
  rw [hs2] at hx3
  have hs3 : w3.heap.size = w1.heap.size + 2 := by rw [hw3]; simp; omega
  have HX3 := hid hx3
  have HXB0 : w3.heap[w1.heap.size + 1]? = some (.cells #[.int .i64 op, .int .i64 ln, .int .i64 rn, .int .i64 val] 79 (0, 0)) := by rw [hw3, ← hs2]; exact heap_alloc_new w2 _
  clear hb3 hx3 hw3 HJ HC hJ0 hJ1
  have HXB := hid HXB0
  clear HXB0
  have x3 := Box.four HX3.out
  by_cases hw5 : op = 5
  · subst hw5
    clear HLD HST HREG0 HSEEN0 HVAL0 HPL0
    have HDO := hid (HW.out (by omega))
    go_wp2_with (first | (refine wpList_load_row rfl 44 (.tmp 5) rfl w.heap.size rfl 44 _ (0, 0) _ HD3.out.box Try.underlying44 rfl (by kernel_rfl) ?_))
    refine (HDO3.out _ (HRP.out.below HD3.out.below) (HRD.out.below HD3.out.below)).mono ?_
    rintro e w4 ⟨q4, rfl, hf4, hb4⟩
    have HD4 := hid (HD3.out.later hb4)
    have HF4 := hid hf4
    have hs4 := hb4.size
    obtain ⟨f0, m0, f1, m1, f2, m2, f3, m3⟩ := q4
    obtain ⟨s', hs'⟩ : ∃ s', s' = do3 p s t := ⟨_, rfl⟩
    rw [← hs'] at HF4 HDO ⊢
    dsimp only
    clear hf4 hb4 hs'
    go_wp2_with (first | (refine wpList_store_row rfl 44 (.tmp 8) (.tmp 70) rfl (w.heap.size + 1) _ rfl rfl 44 zSt HD4.out.res (by kernel_rfl) rfl (DoI.one ⟨f0, m0, f1, m1, f2, m2, f3, m3⟩ s') ?_))
    rw [HDO.out]
    refine bodyPost_ret (results_cell_row rfl _ _ (w.heap.size + 1) 44 _ (0, 0) _ rfl (setRow_heap _ _ _ _ _ _ HD4.out.res) Try.underlying44 rfl (by kernel_rfl)) rfl ⟨⟨f0, m0, f1, m1, f2, m2, f3, m3⟩, rfl, ?_, ?_⟩
    · exact (HF4.out.keeps (keeps_setRow _ _ _) (fun b hb e => by omega)).down (by omega)
    · exact Proofs.Ytbncmeggnhggkaa.Below.keeps HD4.out.below (keeps_setRow w4 (w.heap.size + 1) _) HD4.out.below.size (fun x e => by omega)
  by_cases hw4 : op = 4
  · subst hw4
    clear HLD HST HREG0 HSEEN0 HVAL0 HPL0 hw5
    have HDO := hid (HW.out (by omega))
    go_wp2_with (first | (refine wpList_load_row rfl 44 (.tmp 5) rfl w.heap.size rfl 44 _ (0, 0) _ HD3.out.box Try.underlying44 rfl (by kernel_rfl) ?_))
    refine (HDO3.out _ (HRP.out.below HD3.out.below) (HRD.out.below HD3.out.below)).mono ?_
    rintro e w4 ⟨q4, rfl, hf4, hb4⟩
    have HD4 := hid (HD3.out.later hb4)
    have HF4 := hid hf4
    have hs4 := hb4.size
    obtain ⟨f0, m0, f1, m1, f2, m2, f3, m3⟩ := q4
    obtain ⟨s', hs'⟩ : ∃ s', s' = do3 p s t := ⟨_, rfl⟩
    rw [← hs'] at HF4 HDO ⊢
    dsimp only
    clear hf4 hb4 hs'
    go_wp2_with (first | (refine wpList_store_row rfl 44 (.tmp 8) (.tmp 70) rfl (w.heap.size + 1) _ rfl rfl 44 zSt HD4.out.res (by kernel_rfl) rfl (DoI.one ⟨f0, m0, f1, m1, f2, m2, f3, m3⟩ s') ?_))
    rw [HDO.out]
    refine bodyPost_ret (results_cell_row rfl _ _ (w.heap.size + 1) 44 _ (0, 0) _ rfl (setRow_heap _ _ _ _ _ _ HD4.out.res) Try.underlying44 rfl (by kernel_rfl)) rfl ⟨⟨f0, m0, f1, m1, f2, m2, f3, m3⟩, rfl, ?_, ?_⟩
    · exact (HF4.out.keeps (keeps_setRow _ _ _) (fun b hb e => by omega)).down (by omega)
    · exact Proofs.Ytbncmeggnhggkaa.Below.keeps HD4.out.below (keeps_setRow w4 (w.heap.size + 1) _) HD4.out.below.size (fun x e => by omega)
  have n5 : (op == 5) = false := by simpa using hw5
  have n4 : (op == 4) = false := by simpa using hw4
  by_cases ho1 : op = 1
  · have HDO := hid (HLD.out ho1)
    subst ho1
    obtain ⟨i, hi⟩ : ∃ i, i = t * 3 + rn := ⟨_, rfl⟩
    have HREG := HREG0
    rw [← hi] at HREG HDO hreg
    have hir := hreg
    obtain ⟨sv, hsv⟩ : ∃ sv, sv = seen4 s t ln split := ⟨_, rfl⟩
    have HSEEN := HSEEN0
    rw [← hsv] at HSEEN HDO
    clear hi hsv hw5 hw4 HW HLD HST HREG0 HSEEN0 HVAL0 HPL0 HDO3
    have c3 := HD3.out.cells
    have s3 := (HD3.out.below.cell (p := ⟨sb, so + t, none⟩) hslt).trans HSC.out
    obtain ⟨z3, o3c, o3f⟩ := own_intAt HD3.out.own.pc t htq
    dsimp only at c3
    go_wp2_with fail
    refine wp_region_mix (by kernel_rfl) (by kernel_rfl) ?_
    repeat (with_reducible refine wpMix_rd rfl rfl (fun K hK => ?_); go_simp; (try go_bits); refine hK _ ?_; clear hK K)
    (with_reducible refine wpMix_act (o := ⟨_, .store _ _ _, _, _, _, _⟩) rfl rfl (fun K hK => ?_))
    go_simp
    refine hK _ _ ?_
    clear hK K
    have HD4 := hid (DoI.drew (HD3.out.set0 rfl t ((k : Int) + 1)))
    have HX4 := hid (Box.drew (HX3.out.set (g := g0) (j := t) (v := .int .i64 ((k : Int) + 1)) (by omega)))
    have HB4 := hid (show (w3.setCell ⟨g0, t, none⟩ (.int .i64 ((k : Int) + 1))).drew.heap[w1.heap.size + 1]? = some (.cells #[.int .i64 1, .int .i64 ln, .int .i64 rn, .int .i64 val] 79 (0, 0)) from heap_set HXB.out (by omega))
    obtain ⟨w4, hw4⟩ : ∃ w4, w4 = (w3.setCell ⟨g0, t, none⟩ (.int .i64 ((k : Int) + 1))).drew := ⟨_, rfl⟩
    rw [← hw4] at HD4 HX4 HB4 ⊢
    have hs4 : w4.heap.size = w1.heap.size + 2 := by rw [hw4]; simpa [World.setCell] using hs3
    clear c3 s3 o3c o3f HD3 HX3 hw4 x3
    (with_reducible refine wpMix_nil ?_)
    have x4 := Box.four HX4.out
    go_wp2_with fail
    obtain ⟨J, hJ⟩ : ∃ J : World → Prop, J = fun w' => Below w4.heap.size w4 w' := ⟨_, rfl⟩
    have HJ := hid (fun w' (h : (fun w' => Below w4.heap.size w4 w') w') => show J w' by rw [hJ]; exact h)
    have HJB := hid (fun w' (h : J w') => show (fun w' => Below w4.heap.size w4 w') w' by rw [hJ] at h; exact h)
    have HJI := hid (fun S ρ w' (h : ChI [5, 11] (ldR i sv) J S ρ w') => h.j)
    have HC := hid (fun w' (h : J w') => show (w'.cell? ⟨w1.heap.size, 1, none⟩ = some (.slice (some ⟨g1, 0, none⟩) s.regs.length d1)) ∧ (w'.cell? ⟨w.heap.size, 0, none⟩ = some (.slice (some ⟨sb, so, none⟩) s.pc.length c0) ∧ w'.cell? ⟨w.heap.size, 1, none⟩ = some (.slice a1 s.regs.length c1) ∧ w'.cell? ⟨w.heap.size, 2, none⟩ = some (.slice a2 s.mem.length c2) ∧ w'.cell? ⟨w.heap.size, 3, none⟩ = some (.slice a3 s.buf.length c3)) ∧ (w'.cell? ⟨w1.heap.size + 1, 0, none⟩ = some (.int .i64 1) ∧ w'.cell? ⟨w1.heap.size + 1, 1, none⟩ = some (.int .i64 ln) ∧ w'.cell? ⟨w1.heap.size + 1, 2, none⟩ = some (.int .i64 rn) ∧ w'.cell? ⟨w1.heap.size + 1, 3, none⟩ = some (.int .i64 val)) from by
      have h := HJB.out w' h
      have d := (HD4.out.later h).cells
      exact ⟨d.2.2.1, d.1, HX4.out.below h (by omega)⟩)
    have hJ0 : J w4.drew := HJ.out _ (below_drewN 1 (Below.refl _ _))
    clear hJ x4
    refine FR.wp_region_free 12 (ChI [5, 11] (ldR i sv) J) (by kernel_rfl) (by kernel_rfl) (by kernel_rfl) (fun _ => undef) (ChI.start hJ0 trivial) fun V => ?_
    (refine FR.frGo_pure _ rfl (fun K hK => ?_); go_simp; (first | refine hK _ ?_ | refine ⟨_, fun W hW => rfl, hK _ ?_⟩ | refine ⟨_, fun W hW => ⟨rfl, rfl⟩, hK _ ?_⟩); clear hK K)
    (refine FR.frGo_held _ rfl J (fun S ρ w' h _ => HJI.out S ρ w' h) (fun K hK => ?_); go_simp; apply Exists.intro; refine And.intro (fun W hW => ?_) (hK _ ?_); (focus (have hcs := HC.out W hW; go_simp; try rfl)); clear hK K)
    (refine FR.frGo_pure _ rfl (fun K hK => ?_); go_simp; (first | refine hK _ ?_ | refine ⟨_, fun W hW => rfl, hK _ ?_⟩ | refine ⟨_, fun W hW => ⟨rfl, rfl⟩, hK _ ?_⟩); clear hK K)
    (refine FR.frGo_pure _ rfl (fun K hK => ?_); go_simp; (first | refine hK _ ?_ | refine ⟨_, fun W hW => rfl, hK _ ?_⟩ | refine ⟨_, fun W hW => ⟨rfl, rfl⟩, hK _ ?_⟩); clear hK K)
    (refine FR.frGo_held _ rfl J (fun S ρ w' h _ => HJI.out S ρ w' h) (fun K hK => ?_); go_simp; apply Exists.intro; refine And.intro (fun W hW => ?_) (hK _ ?_); (focus (have hcs := HC.out W hW; go_simp; try rfl)); clear hK K)
    refine FR.frGo_act (k := 5) _ rfl (fun S ρ w' hI hS hp K hK => ?_) ?_
    · go_simp
      refine (HREG.out w').mono ?_
      rintro e w'' ⟨rfl, rfl⟩
      refine hK _ _ (hI.next (i := 0) (by decide) rfl hS (by simp) hI.j ?_)
      show FR.upd ρ 5 _ 5 = _
      rw [FR.upd_same]
    (refine FR.frGo_held _ rfl J (fun S ρ w' h _ => HJI.out S ρ w' h) (fun K hK => ?_); go_simp; apply Exists.intro; refine And.intro (fun W hW => ?_) (hK _ ?_); (focus (have hcs := HC.out W hW; go_simp; try rfl)); clear hK K)
    (refine FR.frGo_pure _ rfl (fun K hK => ?_); go_simp; (first | refine hK _ ?_ | refine ⟨_, fun W hW => rfl, hK _ ?_⟩ | refine ⟨_, fun W hW => ⟨rfl, rfl⟩, hK _ ?_⟩); clear hK K)
    (refine FR.frGo_pure _ rfl (fun K hK => ?_); go_simp; (first | refine hK _ ?_ | refine ⟨_, fun W hW => rfl, hK _ ?_⟩ | refine ⟨_, fun W hW => ⟨rfl, rfl⟩, hK _ ?_⟩); clear hK K)
    (refine FR.frGo_held _ rfl J (fun S ρ w' h _ => HJI.out S ρ w' h) (fun K hK => ?_); go_simp; apply Exists.intro; refine And.intro (fun W hW => ?_) (hK _ ?_); (focus (have hcs := HC.out W hW; go_simp; try rfl)); clear hK K)
    (refine FR.frGo_pure _ rfl (fun K hK => ?_); go_simp; (first | refine hK _ ?_ | refine ⟨_, fun W hW => rfl, hK _ ?_⟩ | refine ⟨_, fun W hW => ⟨rfl, rfl⟩, hK _ ?_⟩); clear hK K)
    refine FR.frGo_act (k := 11) _ rfl (fun S ρ w' hI hS hp K hK => ?_) ?_
    · have hp5 := hp 5 (by kernel_rfl)
      have hb := HJB.out w' hI.j
      have q5 : ρ 5 = .int .i64 (i : Int) := hI.at (i := 1) (by decide) rfl hS (by simpa using hp5.1)
      go_simp
      refine (HSEEN.out w' (HRD.out.below (HD4.out.below.trans (hb.mono HD4.out.below.size)))).mono ?_
      rintro e w'' ⟨rfl, hb2⟩
      refine hK _ _ (hI.next (i := 1) (by decide) rfl hS (by simpa using hp5.1) (HJ.out _ (hb.trans (hb2.mono hb.size))) ?_)
      show FR.upd ρ 11 _ 5 = _ ∧ FR.upd ρ 11 _ 11 = _
      rw [FR.upd_same, FR.upd_ne _ _ (by decide)]
      exact ⟨q5, rfl⟩
    refine FR.frGo_nil _ ?_
    intro S ρ w5 hI hS
    have z5 := hS 5 (by decide) (by kernel_rfl)
    have z11 := hS 11 (by decide) (by kernel_rfl)
    obtain ⟨e5, e11⟩ : ρ 5 = .int .i64 (i : Int) ∧ ρ 11 = .int .i64 sv := hI.done (by decide) (by simp [z5.1, z11.1])
    rw [z5.2] at e5
    rw [z11.2] at e11
    rw [e5, e11]
    have HD5 := hid (HD4.out.later (HJB.out w5 hI.j))
    obtain ⟨z5', o5c, o5f⟩ := own_intAt HD5.out.own.regs i (by have := hir; simpa using this)
    clear hI hS z5 z11 e5 e11
    refine wpMix_rd rfl rfl (fun K hK => ?_)
    go_simp
    refine hK _ ?_
    clear hK K
    refine wpMix_act rfl rfl (fun K hK => ?_)
    go_simp
    refine hK _ _ ?_
    clear hK K
    have HD9 := hid (HD5.out.set1 rfl i sv)
    obtain ⟨w9, hw9⟩ : ∃ w9, w9 = w5.setCell ⟨g1, i, none⟩ (.int .i64 sv) := ⟨_, rfl⟩
    rw [← hw9] at HD9 ⊢
    clear o5c o5f hw9
    (with_reducible refine wpMix_nil ?_)
    go_wp2_with (first | (refine wpList_load_row rfl 44 (.tmp 9) rfl w1.heap.size rfl 44 _ (0, 0) _ HD9.out.cur Try.underlying44 rfl (by kernel_rfl) ?_) | (refine wpList_store_row rfl 44 (.tmp 8) (.tmp 97) rfl (w.heap.size + 1) _ rfl rfl 44 zSt HD9.out.res (by kernel_rfl) rfl (DoI.one _ _) ?_))
    have hD := HD9.out.done (by omega) (by omega)
    rw [HDO.out]
    refine bodyPost_ret (results_cell_row rfl _ _ (w.heap.size + 1) 44 _ (0, 0) _ rfl (setRow_heap _ _ _ _ _ _ HD9.out.res) Try.underlying44 rfl (by kernel_rfl)) rfl ⟨_, ?_, hD⟩
    simp
  · have HDO := hid (HST.out (by omega) ho1)
    have n1 : (op == 1) = false := by simpa using ho1
    obtain ⟨pl, hpl0⟩ : ∃ pl, pl = place t ln split := ⟨_, rfl⟩
    have HPL := HPL0
    rw [← hpl0] at HPL HDO hpls hrow7
    have HROW := hid (row4_get hpls)
    obtain ⟨wv, hwv⟩ : ∃ wv, wv = wval s t ⟨op, ln, rn, val⟩ := ⟨_, rfl⟩
    have HVAL := HVAL0
    rw [← hwv] at HVAL HDO
    obtain ⟨rl, hrl⟩ : ∃ rl, rl = (row4 s pl).length * 2 := ⟨_, rfl⟩
    have HRL := hid hrl
    have hrl7 : rl ≤ 14 := by omega
    clear hpl0 hwv hw5 hw4 HW HLD HST HREG0 HSEEN0 HVAL0 HPL0 HDO3 hrl hrow7
    have c3 := HD3.out.cells
    have s3 := (HD3.out.below.cell (p := ⟨sb, so + t, none⟩) hslt).trans HSC.out
    obtain ⟨z3, o3c, o3f⟩ := own_intAt HD3.out.own.pc t htq
    dsimp only at c3
    go_wp2_with fail
    refine wp_region_mix (by kernel_rfl) (by kernel_rfl) ?_
    repeat (with_reducible refine wpMix_rd rfl rfl (fun K hK => ?_); go_simp; (try go_bits); refine hK _ ?_; clear hK K)
    (with_reducible refine wpMix_act (o := ⟨_, .store _ _ _, _, _, _, _⟩) rfl rfl (fun K hK => ?_))
    go_simp
    refine hK _ _ ?_
    clear hK K
    have HD4 := hid (DoI.drew (HD3.out.set0 rfl t ((k : Int) + 1)))
    have HX4 := hid (Box.drew (HX3.out.set (g := g0) (j := t) (v := .int .i64 ((k : Int) + 1)) (by omega)))
    have HB4 := hid (show (w3.setCell ⟨g0, t, none⟩ (.int .i64 ((k : Int) + 1))).drew.heap[w1.heap.size + 1]? = some (.cells #[.int .i64 op, .int .i64 ln, .int .i64 rn, .int .i64 val] 79 (0, 0)) from heap_set HXB.out (by omega))
    obtain ⟨w4, hw4⟩ : ∃ w4, w4 = (w3.setCell ⟨g0, t, none⟩ (.int .i64 ((k : Int) + 1))).drew := ⟨_, rfl⟩
    rw [← hw4] at HD4 HX4 HB4 ⊢
    have hs4 : w4.heap.size = w1.heap.size + 2 := by rw [hw4]; simpa [World.setCell] using hs3
    clear c3 s3 o3c o3f HD3 HX3 hw4 x3
    (with_reducible refine wpMix_nil ?_)
    have x4 := Box.four HX4.out
    obtain ⟨top, gb, a', c', t1, t2, hq3, hgb, hcb, hob, hty, hput⟩ := HD4.out.row HROW.out
    have hq3 : e3 = some ⟨gb, 0, none⟩ := hq3
    subst hq3
    have HPUT := hid hput
    have HOB := hid hob
    have HTY := hid hty
    have HCB := hid hcb
    clear hput hob hty hcb
    go_wp2_with fail
    refine (HPL.out _).mono ?_
    rintro e w5 ⟨rfl, rfl⟩
    go_wp2_with fail
    obtain ⟨J, hJ⟩ : ∃ J : World → Prop, J = fun w' => Keeps (fun k => blk a' = some k) w5 w' := ⟨_, rfl⟩
    have HJ := hid (fun w' (h : (fun w' => Keeps (fun k => blk a' = some k) w5 w') w') => show J w' by rw [hJ]; exact h)
    have HJB := hid (fun w' (h : J w') => show (fun w' => Keeps (fun k => blk a' = some k) w5 w') w' by rw [hJ] at h; exact h)
    have HJI := hid (fun S ρ w' (h : ChI [13, 14, 15] (stR w5 top a' c' (row4 s pl) ln wv) J S ρ w') => h.j)
    have HBW := hid (fun w' (h : Keeps (fun k => blk a' = some k) w5 w') => show Below w.heap.size w w' from Proofs.Ytbncmeggnhggkaa.Below.keeps HD4.out.below h HD4.out.below.size (fun x e => by have := (own_blk HOB.out x e).1; omega))
    have HFL := hid (show (flatB (row4 s pl)).length = rl by rw [length_flatB, ← HRL.out])
    have HFL2 := hid (show (flatB (row4 s pl ++ [((ln : Int), wv)])).length = rl + 2 by rw [flatB_append, List.length_append, HFL.out]; rfl)
    have HFE := hid (show ints (flatB (row4 s pl ++ [((ln : Int), wv)])) = ints (flatB (row4 s pl)) ++ ints [(ln : Int), wv] by rw [flatB_append]; simp [flatB])
    have HC := hid (fun w' (h : J w') => show (w'.cell? ⟨w1.heap.size, 3, none⟩ = some (.slice (some ⟨gb, 0, none⟩) s.buf.length d3) ∧ w'.cell? ⟨gb, pl, none⟩ = some (.slice a' rl c')) ∧ (w'.cell? ⟨w.heap.size, 0, none⟩ = some (.slice (some ⟨sb, so, none⟩) s.pc.length c0) ∧ w'.cell? ⟨w.heap.size, 1, none⟩ = some (.slice a1 s.regs.length c1) ∧ w'.cell? ⟨w.heap.size, 2, none⟩ = some (.slice a2 s.mem.length c2) ∧ w'.cell? ⟨w.heap.size, 3, none⟩ = some (.slice a3 s.buf.length c3)) ∧ (w'.cell? ⟨w1.heap.size + 1, 0, none⟩ = some (.int .i64 op) ∧ w'.cell? ⟨w1.heap.size + 1, 1, none⟩ = some (.int .i64 ln) ∧ w'.cell? ⟨w1.heap.size + 1, 2, none⟩ = some (.int .i64 rn) ∧ w'.cell? ⟨w1.heap.size + 1, 3, none⟩ = some (.int .i64 val)) from by
      have h := HJB.out w' h
      have lt : ∀ {k : Nat} {o : Array Value} {ty : TypeId}, ty ≠ 3 → w5.heap[k]? = some (.cells o ty (0, 0)) → w'.heap[k]? = some (.cells o ty (0, 0)) := fun {k o ty} hne hk => by
        rw [h.block k (Array.getElem?_eq_some_iff.1 hk).1 (fun e => by
          obtain ⟨_, _, arr, f, hx⟩ := HTY.out k e
          rw [hk] at hx
          simp only [Option.some.injEq, Obj.cells.injEq] at hx
          exact hne hx.2.1)]
        exact hk
      have bx := fun (j : Nat) => cell_of_row w' w.heap.size j _ _ _ (lt (by decide) HD4.out.box)
      have cu := cell_of_row w' w1.heap.size 3 _ _ _ (lt (by decide) HD4.out.cur)
      have xx := fun (j : Nat) => cell_of_row w' (w1.heap.size + 1) j _ _ _ (lt (by decide) HB4.out)
      refine ⟨⟨cu, ?_⟩, ⟨bx 0, bx 1, bx 2, bx 3⟩, ⟨xx 0, xx 1, xx 2, xx 3⟩⟩
      exact (World.cell?_of_block (h.block gb hgb (fun e => (HTY.out gb e).1 rfl))).trans (by rw [HRL.out]; exact HCB.out))
    have hJ0 : J w5.drew := HJ.out _ (keepsDrew (Keeps.refl _ _))
    clear hJ x4
    refine FR.wp_region_free 16 (ChI [13, 14, 15] (stR w5 top a' c' (row4 s pl) ln wv) J) (by kernel_rfl) (by kernel_rfl) (by kernel_rfl) (fun _ => undef) (ChI.start hJ0 HOB.out) fun V => ?_
    (refine FR.frGo_pure _ rfl (fun K hK => ?_); go_simp; (first | refine hK _ ?_ | refine ⟨_, fun W hW => rfl, hK _ ?_⟩ | refine ⟨_, fun W hW => ⟨rfl, rfl⟩, hK _ ?_⟩); clear hK K)
    (refine FR.frGo_held _ rfl J (fun S ρ w' h _ => HJI.out S ρ w' h) (fun K hK => ?_); go_simp; apply Exists.intro; refine And.intro (fun W hW => ?_) (hK _ ?_); (focus (have hcs := HC.out W hW; go_simp; try rfl)); clear hK K)
    (refine FR.frGo_pure _ rfl (fun K hK => ?_); go_simp; (first | refine hK _ ?_ | refine ⟨_, fun W hW => rfl, hK _ ?_⟩ | refine ⟨_, fun W hW => ⟨rfl, rfl⟩, hK _ ?_⟩); clear hK K)
    (refine FR.frGo_pure _ rfl (fun K hK => ?_); go_simp; (first | refine hK _ ?_ | refine ⟨_, fun W hW => rfl, hK _ ?_⟩ | refine ⟨_, fun W hW => ⟨rfl, rfl⟩, hK _ ?_⟩); clear hK K)
    (refine FR.frGo_held _ rfl J (fun S ρ w' h _ => HJI.out S ρ w' h) (fun K hK => ?_); go_simp; apply Exists.intro; refine And.intro (fun W hW => ?_) (hK _ ?_); (focus (have hcs := HC.out W hW; go_simp; try rfl)); clear hK K)
    (refine FR.frGo_pure _ rfl (fun K hK => ?_); go_simp; (first | refine hK _ ?_ | refine ⟨_, fun W hW => rfl, hK _ ?_⟩ | refine ⟨_, fun W hW => ⟨rfl, rfl⟩, hK _ ?_⟩); clear hK K)
    (refine FR.frGo_pure _ rfl (fun K hK => ?_); go_simp; (first | refine hK _ ?_ | refine ⟨_, fun W hW => rfl, hK _ ?_⟩ | refine ⟨_, fun W hW => ⟨rfl, rfl⟩, hK _ ?_⟩); clear hK K)
    (refine FR.frGo_held _ rfl J (fun S ρ w' h _ => HJI.out S ρ w' h) (fun K hK => ?_); go_simp; apply Exists.intro; refine And.intro (fun W hW => ?_) (hK _ ?_); (focus (have hcs := HC.out W hW; go_simp; try rfl)); clear hK K)
    (refine FR.frGo_pure _ rfl (fun K hK => ?_); go_simp; (first | refine hK _ ?_ | refine ⟨_, fun W hW => rfl, hK _ ?_⟩ | refine ⟨_, fun W hW => ⟨rfl, rfl⟩, hK _ ?_⟩); clear hK K)
    (refine FR.frGo_held _ rfl J (fun S ρ w' h _ => HJI.out S ρ w' h) (fun K hK => ?_); go_simp; apply Exists.intro; refine And.intro (fun W hW => ?_) (hK _ ?_); (focus (have hcs := HC.out W hW; go_simp; try rfl)); clear hK K)
    (refine FR.frGo_held _ rfl J (fun S ρ w' h _ => HJI.out S ρ w' h) (fun K hK => ?_); go_simp; apply Exists.intro; refine And.intro (fun W hW => ?_) (hK _ ?_); (focus (have hcs := HC.out W hW; go_simp; try rfl)); clear hK K)
    (refine FR.frGo_pure _ rfl (fun K hK => ?_); go_simp; (first | refine hK _ ?_ | refine ⟨_, fun W hW => rfl, hK _ ?_⟩ | refine ⟨_, fun W hW => ⟨rfl, rfl⟩, hK _ ?_⟩); clear hK K)
    (refine FR.frGo_held _ rfl J (fun S ρ w' h _ => HJI.out S ρ w' h) (fun K hK => ?_); go_simp; apply Exists.intro; refine And.intro (fun W hW => ?_) (hK _ ?_); (focus (have hcs := HC.out W hW; go_simp; try rfl)); clear hK K)
    refine FR.frGo_act (k := 13) _ rfl (fun S ρ w' hI hS hp K hK => ?_) ?_
    · have hk' := HJB.out w' hI.j
      have ho : OwI w' top a' c' (flatB (row4 s pl)) := hI.at (i := 0) (by decide) rfl hS (by simp)
      go_simp
      refine (HVAL.out w' (HRD.out.below (HBW.out w' hk'))).mono ?_
      rintro e w'' ⟨rfl, hb2⟩
      refine hK _ _ (hI.next (i := 0) (by decide) rfl hS (by simp) (HJ.out _ (hk'.trans (Keeps.of_below hb2))) ?_)
      show FR.upd ρ 13 _ 13 = _ ∧ _
      rw [FR.upd_same]
      exact ⟨rfl, own_below ho hb2⟩
    refine FR.frGo_act (k := 14) _ rfl (fun S ρ w' hI hS hp K hK => ?_) ?_
    · have hk' := HJB.out w' hI.j
      have hp13 := hp 13 (by kernel_rfl)
      obtain ⟨e13, ho⟩ : ρ 13 = .int .i64 wv ∧ OwI w' top a' c' (flatB (row4 s pl)) := hI.at (i := 1) (by decide) rfl hS (by simpa using hp13.1)
      rw [hp13.2] at e13
      rw [e13] at hK ⊢
      go_simp
      have hb2 := (Below.refl w'.heap.size w').alloc (Nat.le_refl _) (.cells #[.int .i64 (ln : Int), .int .i64 wv] 3)
      refine hK _ _ (hI.next (i := 1) (by decide) rfl hS (by simpa using hp13.1) (HJ.out _ (hk'.trans (Keeps.of_below hb2))) ?_)
      show (∃ H, FR.upd ρ 14 _ 14 = _ ∧ _) ∧ _
      rw [FR.upd_same]
      exact ⟨⟨_, rfl, rd_two w' _ _ _⟩, own_below ho hb2⟩
    refine FR.frGo_act (k := 15) _ rfl (fun S ρ w' hI hS hp K hK => ?_) ?_
    · have hk' := HJB.out w' hI.j
      have hp13 := hp 13 (by kernel_rfl)
      have hp14 := hp 14 (by kernel_rfl)
      obtain ⟨⟨H, e14, hrd⟩, ho⟩ : (∃ H, ρ 14 = .slice (some ⟨H, 0, none⟩) 2 2 ∧ Rd w' (some ⟨H, 0, none⟩) (ints [(ln : Int), wv])) ∧ OwI w' top a' c' (flatB (row4 s pl)) := hI.at (i := 2) (by decide) rfl hS (by simp [hp13.1, hp14.1])
      rw [hp14.2] at e14
      unfold OwI at ho
      rw [HFL.out] at ho
      refine oper_append_rd (.tmp 110) (.tmp 117) 23 rfl top 3 (.int .i64 0) 1 8 Try.underlying23 Try.info_int rfl (by decide) (.slice a' rl c') rl (ints (flatB (row4 s pl))) rfl ho (some ⟨H, 0, none⟩) 2 2 (ints [(ln : Int), wv]) ?_ hrd rfl (ints_one _ _) (by omega) (by decide) (by have := hk'.size; omega) ?_
      · rw [e14]; rfl
      intro a5 c5 w'' hown hg hat
      rw [ownBlock_slice] at hg hat
      refine hK _ _ (hI.next (i := 2) (by decide) rfl hS (by simp [hp13.1, hp14.1]) (HJ.out _ (hk'.trans (Keeps.of_grown hg (fun k hk => hk)))) ?_)
      show ∃ a5 c5, FR.upd ρ 15 _ 15 = _ ∧ _ ∧ _
      rw [FR.upd_same]
      refine ⟨a5, c5, by rw [HFL2.out], ?_, hat.imp id fun e x hx => ?_⟩
      · unfold OwI
        rw [HFL2.out, HFE.out]
        exact hown
      · rw [e] at hx
        have := hk'.size
        cases hx
        exact this
    refine FR.frGo_nil _ ?_
    intro S ρ w6 hI hS
    have z13 := hS 13 (by decide) (by kernel_rfl)
    have z14 := hS 14 (by decide) (by kernel_rfl)
    have z15 := hS 15 (by decide) (by kernel_rfl)
    obtain ⟨a5, c5, e15, ho5, hat5⟩ : ∃ a5 c5, ρ 15 = .slice a5 (flatB (row4 s pl ++ [((ln : Int), wv)])).length c5 ∧ OwI w6 top a5 c5 (flatB (row4 s pl ++ [((ln : Int), wv)])) ∧ (blk a5 = blk a' ∨ ∀ x, blk a5 = some x → w5.heap.size ≤ x) := hI.done (by decide) (by simp [z13.1, z14.1, z15.1])
    rw [z15.2] at e15
    rw [e15]
    have k6 := HJB.out w6 hI.j
    obtain ⟨p1, p2, p3⟩ := HPUT.out w6 (.slice a5 (flatB (row4 s pl ++ [((ln : Int), wv)])).length c5) (row4 s pl ++ [((ln : Int), wv)]) k6 ho5 (by rw [ownBlock_slice]; exact hat5)
    have HD9 := hid p3
    clear p3 ho5 hat5 k6 hI hS z13 z14 z15 e15
    refine wpMix_rd rfl rfl (fun K hK => ?_)
    go_simp
    refine hK _ ?_
    clear hK K
    refine wpMix_act rfl rfl (fun K hK => ?_)
    go_simp
    refine hK _ _ ?_
    clear hK K
    (with_reducible refine wpMix_nil ?_)
    go_wp2_with (first | (refine wpList_load_row rfl 44 (.tmp 9) rfl w1.heap.size rfl 44 _ (0, 0) _ HD9.out.cur Try.underlying44 rfl (by kernel_rfl) ?_) | (refine wpList_store_row rfl 44 (.tmp 8) (.tmp 120) rfl (w.heap.size + 1) _ rfl rfl 44 zSt HD9.out.res (by kernel_rfl) rfl (DoI.one _ _) ?_))
    have hD := HD9.out.done (by omega) (by omega)
    rw [HDO.out]
    refine bodyPost_ret (results_cell_row rfl _ _ (w.heap.size + 1) 44 _ (0, 0) _ rfl (setRow_heap _ _ _ _ _ _ HD9.out.res) Try.underlying44 rfl (by kernel_rfl)) rfl ⟨_, ?_, hD⟩
    simp
end Go.Proofs.Ytbncmeggnhggkaa
namespace Go.Proofs.Ytbncmeggnhggkaa
open Go.RowKit
set_option linter.unusedVariables false
set_option linter.unusedSimpArgs false

theorem l4Do_c (w : World) (a : Option Addr) (cap : Nat) (p : Prg) (q : Sp) (s : St) (split : Bool) (m : Nat) (hp : RdP w a p) (h : RdS w q s) (hv : Shape p) (hg : Good4 p split s) (hm : m < p.length + s.buf.length) (hc : can4 p s split m = true) :
    Calls Try.prog 72 #[.slice a p.length cap, q.v s, .bool split, .int .i64 m] w fun e w' => ∃ q' : Sp, e = .returned (q'.v (do4 p s split m)) ∧ Fresh w' w.heap.size q' (do4 p s split m) ∧ Below w.heap.size w w' := by
  unfold can4 at hc
  by_cases hlt : m < p.length
  · rw [if_pos hlt] at hc
    exact l4DoT_c w a cap p q s split m hp h hv hg hlt hc
  · rw [if_neg hlt] at hc
    obtain ⟨b, rfl⟩ : ∃ b, m = p.length + b := ⟨m - p.length, by omega⟩
    have hf : do4 p s split (p.length + b) = flush4 p s b := by
      unfold do4
      rw [if_neg hlt, Nat.add_sub_cancel_left]
    rw [Nat.add_sub_cancel_left] at hc
    cases hr : row4 s b with
    | nil => rw [hr] at hc; simp at hc
    | cons e es =>
      obtain ⟨el, ev⟩ := e
      rw [hf]
      exact l4DoF_c w a cap p q s split b el ev es hp h hv hg (by omega) hr

set_option maxRecDepth 100000 in
set_option maxHeartbeats 1600000 in
theorem l4Done_c (w : World) (a : Option Addr) (cap : Nat) (p : Prg) (q : Sp) (s : St) (split : Bool) (hp : RdP w a p) (h : RdS w q s) (hv : Shape p) (hg : Good4 p split s) :
    Calls Try.prog 48 #[.slice a p.length cap, q.v s] w fun e w' => e = .returned (.bool (done4 p s)) ∧ Below w.heap.size w w' := by
  have HDN := hid (fun w (hp : RdP w a p) (h : RdS w q s) => l3Done_c w a cap p q s hp h hv hg.toGood)
  obtain ⟨a0, c0, a1, c1, a2, c2, a3, c3⟩ := q
  have hbl := hg.blen hv
  have HROW := hid (fun b r (hr : s.buf[b]? = some r) => hg.rlen hv hr)
  obtain ⟨m, hm⟩ : ∃ m, m = s.buf.length := ⟨_, rfl⟩
  have HM := hid hm
  obtain ⟨n, hn⟩ : ∃ n, n = p.length := ⟨_, rfl⟩
  have HNO := hid (fun (b : Nat) (r : List (Int × Int)) (hr : s.buf[b]? = some r) (h : r.isEmpty = false) => show done4 p s = false from by
    unfold done4
    rw [show (s.buf.all fun x => x.isEmpty) = false from List.all_eq_false.2 ⟨r, List.mem_of_getElem? hr, by simp [h]⟩, Bool.false_and])
  have HYES := hid (fun (h : ∀ (b : Nat) (r : List (Int × Int)), s.buf[b]? = some r → r.isEmpty = true) => show done4 p s = done3 p s from by
    unfold done4
    rw [show (s.buf.all fun x => x.isEmpty) = true from List.all_eq_true.2 fun r hr => by
      obtain ⟨i, hi⟩ := List.mem_iff_getElem?.1 hr
      exact h i r hi, Bool.true_and])
  have HP := hid hp
  have HS := hid h
  unfold Sp.v at HDN ⊢
  dsimp only at HDN ⊢
  rw [← hm] at hbl HDN ⊢
  rw [← hn] at HDN ⊢
  clear hm hn hp h hg hv
  go_enter Try.func48, Try.ntmps48
  go_wp2_with fail
  obtain ⟨w1, hw1⟩ : ∃ w1, w1 = w.alloc (.cells #[.slice a0 s.pc.length c0, .slice a1 s.regs.length c1, .slice a2 s.mem.length c2, .slice a3 m c3] 44) := ⟨_, rfl⟩
  rw [← hw1]
  have hb1 : Below w.heap.size w w1 := by rw [hw1]; exact (Below.refl _ _).alloc (Nat.le_refl _) _
  have hg1 : w1.heap[w.heap.size]? = some (.cells #[.slice a0 s.pc.length c0, .slice a1 s.regs.length c1, .slice a2 s.mem.length c2, .slice a3 m c3] 44 (0, 0)) := by rw [hw1]; exact heap_alloc_new w _
  have x0 : (w1.cell? ⟨w.heap.size, 0, none⟩ = some (.slice a0 s.pc.length c0) ∧ w1.cell? ⟨w.heap.size, 1, none⟩ = some (.slice a1 s.regs.length c1) ∧ w1.cell? ⟨w.heap.size, 2, none⟩ = some (.slice a2 s.mem.length c2) ∧ w1.cell? ⟨w.heap.size, 3, none⟩ = some (.slice a3 m c3)) := by
    have e := fun (i : Nat) => cell_of_row w1 w.heap.size i _ _ _ hg1
    exact ⟨e 0, e 1, e 2, e 3⟩
  have HB1 := hid hb1
  have HD1 := hid (HDN.out w1 (HP.out.below hb1) (HS.out.below hb1))
  clear hb1 hw1 hg1
  go_loop [5] (fun i => ∃ k : Nat, k ≤ m ∧ i = .int .i64 k ∧ Hid (∀ (b : Nat) (r : List (Int × Int)), b < k → s.buf[b]? = some r → r.isEmpty = true)) (fun i => m - (intOf i).toNat)
  case atStart => exact ⟨0, Nat.zero_le _, rfl, hid (fun b r hb => by omega)⟩
  case round =>
    obtain ⟨k, hk, rfl, HK⟩ := hrel
    by_cases hlt : k < m
    · obtain ⟨g, off, r, c, hq, hgl, hcell, _, _⟩ := HS.out.bufAt (b := k) (by rw [← HM.out]; exact hlt)
      have hq : a3 = some ⟨g, off, none⟩ := hq
      subst hq
      have hcw := (HB1.out.cell (p := ⟨g, off + k, none⟩) hgl).trans hcell
      have HRW := hid (row4_get (s := s) (b := k) (by rw [← HM.out]; exact hlt))
      have hr7 := HROW.out k _ HRW.out
      obtain ⟨l, hl⟩ : ∃ l, l = (row4 s k).length := ⟨_, rfl⟩
      rw [← hl] at hcw hr7
      have HL := hid hl
      clear hcell hl hgl
      by_cases hl0 : l = 0
      · have hl1 : ¬ ((0 : Int) < (l : Int) * 2) := by omega
        have HK2 := hid (show ∀ (b : Nat) (r : List (Int × Int)), b < k + 1 → s.buf[b]? = some r → r.isEmpty = true from fun b r hb hr => by
          by_cases e : b = k
          · subst e
            rw [HRW.out] at hr
            cases hr
            rw [List.isEmpty_iff]
            exact List.eq_nil_of_length_eq_zero (by rw [← HL.out]; exact hl0)
          · exact HK.out b r (by omega) hr)
        subst hl0
        go_wp2_with fail
        go_round
        case rel => exact ⟨k + 1, by omega, by go_num, HK2⟩
        case measure => simp [intOf]; omega
      · have hl1 : (0 : Int) < (l : Int) * 2 := by omega
        have HF := hid (HNO.out k _ HRW.out (by
          cases hrr : row4 s k with
          | nil => rw [hrr] at HL; have := HL.out; simp at this; omega
          | cons _ _ => rfl))
        go_wp2
        go_ret
        exact ⟨ret_bool HF.out.symm, HB1.out⟩
    · have HF := hid (HYES.out fun b r hr => HK.out b r (by have := (List.getElem?_eq_some_iff.1 hr).1; have := HM.out; omega) hr)
      go_wp2_with fail
      refine HD1.out.mono ?_
      rintro e w2 ⟨rfl, hb2⟩
      have HB2 := hid (HB1.out.trans (hb2.mono HB1.out.size))
      clear hb2
      go_wp2
      go_ret
      exact ⟨ret_bool HF.out.symm, HB2.out⟩

set_option maxRecDepth 100000 in
set_option maxHeartbeats 1600000 in
theorem l4Start_c (w : World) (a : Option Addr) (cap : Nat) (p : Prg) (split : Bool) (hl : p.length ≤ 3) :
    Calls Try.prog 59 #[.slice a p.length cap, .bool split] w fun e w' => ∃ q : Sp, e = .returned (q.v (start4 p split)) ∧ Fresh w' w.heap.size q (start4 p split) ∧ Below w.heap.size w w' := by
  have hnb := nb_le split
  have hm9 : p.length * nb split ≤ 9 := Nat.le_trans (Nat.mul_le_mul hl hnb) (by decide)
  have HST := hid (fun w => l3Start_c w a cap p (p.length * nb split) (by omega) (by omega))
  have HNB := hid (fun w => l4Buffers_c w split)
  unfold start4
  obtain ⟨s, hs⟩ : ∃ s, s = start3 p (p.length * nb split) := ⟨_, rfl⟩
  rw [← hs] at HST ⊢
  obtain ⟨N, hN⟩ : ∃ N, N = p.length * nb split := ⟨_, rfl⟩
  have hmul : ((p.length : Nat) : Int) * ((nb split : Nat) : Int) = (N : Int) := by rw [hN]; exact (Int.natCast_mul _ _).symm
  rw [← hN] at HST hm9
  obtain ⟨n, hn⟩ : ∃ n, n = p.length := ⟨_, rfl⟩
  obtain ⟨b, hb⟩ : ∃ b, b = nb split := ⟨_, rfl⟩
  rw [← hn, ← hb] at hmul
  rw [← hn] at HST hl ⊢
  rw [← hb] at HNB hnb
  clear hs hN hn hb
  go_enter Try.func59, Try.ntmps59
  go_wp2_with fail
  refine (HNB.out _).mono ?_
  rintro e w1 ⟨rfl, rfl⟩
  have hmn : (n : Int) * (b : Int) ≤ 9 := by rw [hmul]; omega
  have hm0 : 0 ≤ (n : Int) * (b : Int) := by rw [hmul]; omega
  go_wp2_with fail
  try rw [hmul]
  refine (HST.out _).mono ?_
  rintro e w2 ⟨⟨f0, m0, f1, m1, f2, m2, f3, m3⟩, rfl, hf, hb2⟩
  have hres : w2.heap[w.heap.size]? = some (.cells zSt 44 (0, 0)) := (hb2.block _ (by simp)).trans (heap_alloc_new w _)
  have HRE := hid hres
  have HF := hid hf
  have HB2 := hid hb2
  have hs2 := hb2.size
  have hs1 : w.heap.size < w2.heap.size := by simp at hs2; omega
  unfold Sp.v
  dsimp only
  clear hf hb2 hres
  go_wp2_with (first | (refine wpList_store_row rfl 44 (.tmp 4) (.tmp 11) rfl w.heap.size _ rfl rfl 44 zSt HRE.out (by kernel_rfl) rfl (DoI.one ⟨f0, m0, f1, m1, f2, m2, f3, m3⟩ s) ?_))
  refine bodyPost_ret (results_cell_row rfl _ _ w.heap.size 44 _ (0, 0) _ rfl (setRow_heap _ _ _ _ _ _ HRE.out) Try.underlying44 rfl (by kernel_rfl)) rfl ⟨⟨f0, m0, f1, m1, f2, m2, f3, m3⟩, rfl, ?_, ?_⟩
  · refine (HF.out.keeps (keeps_setRow _ _ _) (fun x hx e => ?_)).down (by simp)
    simp at hx
    omega
  · refine Proofs.Ytbncmeggnhggkaa.Below.keeps (((Below.refl w.heap.size w).alloc (Nat.le_refl _) _).trans (HB2.out.mono (by simp))) (keeps_setRow w2 w.heap.size _) (by omega) (fun x e => by omega)
end Go.Proofs.Ytbncmeggnhggkaa
namespace Go.Proofs.Ytbncmeggnhggkaa
open Go.RowKit
set_option linter.unusedVariables false
set_option linter.unusedSimpArgs false

theorem results_cell_tmp {P : Program} {fn : Func} {p : Tmp} {ty : TypeId} {u : Tmp} (h : fn.results = #[.cell p ty, .tmp u]) (tmps : Array Value) (w : World) (g : Nat) (t : TypeId) (cs : Array Value) (fr : Nat × Nat) (d : TypeDesc)
    (hp : tmps.getD p undef = .pointer (some ⟨g, 0, none⟩)) (hg : w.heap[g]? = some (.cells cs t fr))
    (hu : P.underlying ty = some d) (hd : (match d with | .struct _ | .array _ _ => true | _ => false) = true) (hi : (P.info? ty).map (·.size) = some cs.size) :
    (results fn tmps).run P w = .ok (.tuple #[.agg cs, tmps.getD u undef]) w := by
  have hp' : tmps[p]?.getD undef = .pointer (some ⟨g, 0, none⟩) := by simpa using hp
  simp [results, h, hp', asAddr, run_loadVar_row w g t ty cs fr d hg hu hd hi]
/-- What l4After gives: the state in which the moves end, or some state and false. -/
def AftS (w : World) (p : Prg) (split : Bool) (ms : List Int) (e : Ending) (w' : World) : Prop :=
  ∃ (q : Sp) (s : St), e = .returned (.tuple #[q.v s, .bool (mRun p split ms).isSome]) ∧ Fresh w' w.heap.size q s ∧ Good4 p split s ∧ Below w.heap.size w w' ∧ ∀ s', mRun p split ms = some s' → s' = s

set_option maxRecDepth 100000 in
set_option maxHeartbeats 3200000 in
theorem l4After_c (w : World) (a : Option Addr) (cap : Nat) (p : Prg) (split : Bool) (a' : Option Addr) (cap' : Nat) (ms : List Int) (h : RdP w a p) (h' : Rd w a' (ints ms)) (hv : Shape p) (hl' : ms.length ≤ 1048576) :
    Calls Try.prog 44 #[.slice a p.length cap, .bool split, .slice a' ms.length cap'] w (AftS w p split ms) := by
  have HSTART := hid (fun w => l4Start_c w a cap p split hv.len)
  have HCAN := hid (fun w q s m (hp : RdP w a p) (h : RdS w q s) (hg : Good4 p split s) => l4Can_c w a cap p q s split m hp h hv hg)
  have HDO := hid (fun w q s m (hp : RdP w a p) (h : RdS w q s) (hg : Good4 p split s) hm hc => l4Do_c w a cap p q s split m hp h hv hg hm hc)
  have HRP := hid h
  have HRM := hid h'
  have HSH := hid hv
  obtain ⟨n, hn⟩ : ∃ n, n = p.length := ⟨_, rfl⟩
  obtain ⟨l, hll⟩ : ∃ l, l = ms.length := ⟨_, rfl⟩
  have HN := hid (And.intro hn hll)
  rw [← hn] at HSTART HCAN HDO ⊢
  rw [← hll] at hl' ⊢
  clear hv h h' hn hll
  unfold Sp.v at HDO HCAN HSTART
  go_enter Try.func44, Try.ntmps44
  go_wp2_with fail
  refine (HSTART.out _).mono ?_
  rintro e w2 ⟨q, rfl, hrd, hb2⟩
  go_wp2_with fail
  obtain ⟨w1, hw1⟩ : ∃ w1, w1 = w.alloc (.cells zSt 44) := ⟨_, rfl⟩
  have hres0 : w1.heap[w.heap.size]? = some (.cells zSt 44 (0, 0)) := by rw [hw1]; exact heap_alloc_new w _
  have hs1 : w1.heap.size = w.heap.size + 1 := by rw [hw1]; simp
  have hb1 : Below w.heap.size w w1 := by rw [hw1]; exact (Below.refl _ _).alloc (Nat.le_refl _) _
  have hb2 : Below w1.heap.size w1 w2 := by rw [hw1]; exact hb2
  have hrd : Fresh w2 w1.heap.size q (start4 p split) := by rw [hw1]; exact hrd
  have hs2 := hb2.size
  obtain ⟨w3, hw3⟩ : ∃ w3, w3 = w2.alloc (.cells (q.cs (start4 p split)) 44) := ⟨_, rfl⟩
  have hst : w3.heap[w2.heap.size]? = some (.cells (q.cs (start4 p split)) 44 (0, 0)) := by rw [hw3]; exact heap_alloc_new w2 _
  have hba : Below w2.heap.size w2 w3 := by rw [hw3]; exact (Below.refl _ _).alloc (Nat.le_refl _) _
  have hb3 : Below w.heap.size w w3 := (hb1.trans (hb2.mono (by omega))).trans (hba.mono (by omega))
  have hr3 : Fresh w3 (w.heap.size + 1) q (start4 p split) := ((hrd.keeps (S := fun _ => False) (Keeps.of_below hba) (fun _ _ e => e)).down (by omega))
  have hres3 : w3.heap[w.heap.size]? = some (.cells zSt 44 (0, 0)) := (hba.block _ (by omega)).trans ((hb2.block _ (by omega)).trans hres0)
  have hs3 : w3.heap.size = w2.heap.size + 1 := by rw [hw3]; simp
  have HREL0 := hid (show ∃ (q0 : Sp) (s0 : St), follow (fun s => moves4 p s split) (fun s m => do4 p s split m.toNat) (start4 p split) (ms.take 0) = some s0 ∧ w3.heap[w2.heap.size]? = some (.cells (q0.cs s0) 44 (0, 0)) ∧ Fresh w3 (w.heap.size + 1) q0 s0 ∧ Good4 p split s0 from ⟨q, start4 p split, by simp [Proofs.Ytbncmeggnhggkaa.follow], hst, hr3, good_start4 p split⟩)
  have HB3 := hid hb3
  have HRE3 := hid hres3
  unfold Sp.cs at hw3
  rw [← hw3]
  clear hst hrd hb2 hb3 hr3 hw3 hba hres3 hres0 hb1 hw1
  go_loopw [9] (fun i wr => ∃ k : Nat, k ≤ l ∧ i = .int .i64 k ∧ Hid (∃ (q0 : Sp) (s0 : St), follow (fun s => moves4 p s split) (fun s m => do4 p s split m.toNat) (start4 p split) (ms.take k) = some s0 ∧ wr.heap[w2.heap.size]? = some (.cells (q0.cs s0) 44 (0, 0)) ∧ Fresh wr (w.heap.size + 1) q0 s0 ∧ Good4 p split s0) ∧ Hid (Below w.heap.size w wr) ∧ Hid (wr.heap[w.heap.size]? = some (.cells zSt 44 (0, 0)))) (fun i _ => l - (intOf i).toNat)
  case atStart => exact ⟨0, Nat.zero_le _, rfl, HREL0, HB3, HRE3⟩
  case round =>
    obtain ⟨k, hk, rfl, HR, HB, HRE⟩ := hrel
    obtain ⟨⟨e0, f0, e1, f1, e2, f2, e3, f3⟩, s, hfo, hgr, hrd, hgood⟩ := HR.out
    dsimp only [Sp.cs] at hgr
    have hg6 : w2.heap.size < wr.heap.size := (Array.getElem?_eq_some_iff.1 hgr).1
    have HFO := hid hfo
    have HGR := hid hgr
    have HFR := hid hrd
    have HRD := hid hrd.rd
    have HGD := hid hgood
    clear HR hfo hgr hrd hgood
    by_cases hlt : k < l
    · have hkm : k < ms.length := by rw [← HN.out.2]; exact hlt
      obtain ⟨b, off, hab, hbl, hc⟩ := HRM.out.int k hkm
      subst hab
      obtain ⟨m, hm⟩ : ∃ m, m = ms[k] := ⟨_, rfl⟩
      rw [← hm] at hc
      have HX := hid (show ms[k]? = some m by rw [hm]; exact List.getElem?_eq_getElem hkm)
      have HCM := hid ((HB.out.cell (p := ⟨b, off + k, none⟩) hbl).trans hc)
      have HCN := hid (HCAN.out wr.drew ⟨e0, f0, e1, f1, e2, f2, e3, f3⟩ s m (HRP.out.below (below_drewN 1 HB.out)) (HRD.out.below (below_drewN 1 (Below.refl _ _))) HGD.out)
      have hbs := HB.out.size
      clear hc hm hkm
      by_cases hmem : m ∈ moves4 p s split
      · rw [decide_eq_true hmem] at HCN
        obtain ⟨t, rfl, ht1, ht2⟩ := (mem_moves4 m).1 hmem
        have HT := hid (And.intro hmem (And.intro ht1 ht2))
        clear hmem ht1 ht2
        obtain ⟨J, hJ⟩ : ∃ J : World → Prop, J = fun w' => Below wr.heap.size wr w' := ⟨_, rfl⟩
        have HJ := hid (fun w' (h : Below wr.heap.size wr w') => show J w' by rw [hJ]; exact h)
        have HC := hid (fun w' (h : J w') => show (w'.cell? ⟨w2.heap.size, 0, none⟩ = some (.slice e0 s.pc.length f0) ∧ w'.cell? ⟨w2.heap.size, 1, none⟩ = some (.slice e1 s.regs.length f1) ∧ w'.cell? ⟨w2.heap.size, 2, none⟩ = some (.slice e2 s.mem.length f2) ∧ w'.cell? ⟨w2.heap.size, 3, none⟩ = some (.slice e3 s.buf.length f3)) ∧ w'.cell? ⟨b, off + k, none⟩ = some (.int .i64 (t : Int)) from by
          rw [hJ] at h
          have e := fun (i : Nat) => cell_of_row w' w2.heap.size i _ _ _ ((h.block _ (by omega)).trans HGR.out)
          exact ⟨⟨e 0, e 1, e 2, e 3⟩, (h.cell (p := ⟨b, off + k, none⟩) (by show b < _; omega)).trans HCM.out⟩)
        have hJ0 : J wr.drew := HJ.out _ (below_drewN 1 (Below.refl _ _))
        clear hJ
        go_wp2_with fail
        refine MJ.wp_region_mix (J := J) (by kernel_rfl) (by kernel_rfl) ?_
        repeat (first | (refine MJ.wpMix_pure rfl rfl (fun K hK => ?_); go_simp; (first | refine hK _ ?_ | refine ⟨_, fun W hW => rfl, hK _ ?_⟩ | refine ⟨_, fun W hW => ⟨rfl, rfl⟩, hK _ ?_⟩); clear hK K) | (refine MJ.wpMix_held rfl rfl (by assumption) (fun K hK => ?_); go_simp; apply Exists.intro; refine And.intro (fun W hW => ?_) (hK _ ?_); (focus (have hcs := HC.out W hW; go_simp; try rfl)); clear hK K))
        (with_reducible refine MJ.wpMix_make rfl rfl (fun K hK => ?_); go_simp)
        refine HCN.out.mono ?_
        rintro e w4 ⟨rfl, hb4⟩
        have hb4' : Below wr.heap.size wr w4 := (below_drewN 1 (Below.refl wr.heap.size wr)).trans hb4
        have hJ4 : J w4 := HJ.out _ hb4'
        have HB4 := hid (HB.out.trans (hb4'.mono hbs))
        have HG4 := hid ((hb4'.block _ hg6).trans HGR.out)
        have HR4 := hid (HRD.out.below hb4')
        have HF4 := hid (HFR.out.keeps (S := fun _ => False) (Keeps.of_below hb4') (fun _ _ e => e))
        have HRE4 := hid ((hb4'.block _ (by omega)).trans HRE.out)
        have HCM4 := hid ((hb4'.cell (p := ⟨b, off + k, none⟩) (by show b < _; omega)).trans HCM.out)
        have hs4 := hb4'.size
        refine hK _ _ hJ4 ?_
        clear hK K hb4 hb4'
        repeat (first | (refine MJ.wpMix_pure rfl rfl (fun K hK => ?_); go_simp; (first | refine hK _ ?_ | refine ⟨_, fun W hW => rfl, hK _ ?_⟩ | refine ⟨_, fun W hW => ⟨rfl, rfl⟩, hK _ ?_⟩); clear hK K) | (refine MJ.wpMix_held rfl rfl (by assumption) (fun K hK => ?_); go_simp; apply Exists.intro; refine And.intro (fun W hW => ?_) (hK _ ?_); (focus (have hcs := HC.out W hW; go_simp; try rfl)); clear hK K))
        refine MJ.wpMix_nil ?_
        clear HJ HC hJ0 hJ4
        clear J
        go_wp2_with fail
        have HD := hid (HDO.out w4.drew ⟨e0, f0, e1, f1, e2, f2, e3, f3⟩ s t (HRP.out.below (below_drewN 1 HB4.out)) (HR4.out.below (below_drewN 1 (Below.refl _ _))) HGD.out (by rw [HN.out.1]; exact HT.out.2.1) HT.out.2.2)
        obtain ⟨J, hJ⟩ : ∃ J : World → Prop, J = fun w' => Below w4.heap.size w4 w' := ⟨_, rfl⟩
        have HJ := hid (fun w' (h : Below w4.heap.size w4 w') => show J w' by rw [hJ]; exact h)
        have HC := hid (fun w' (h : J w') => show (w'.cell? ⟨w2.heap.size, 0, none⟩ = some (.slice e0 s.pc.length f0) ∧ w'.cell? ⟨w2.heap.size, 1, none⟩ = some (.slice e1 s.regs.length f1) ∧ w'.cell? ⟨w2.heap.size, 2, none⟩ = some (.slice e2 s.mem.length f2) ∧ w'.cell? ⟨w2.heap.size, 3, none⟩ = some (.slice e3 s.buf.length f3)) ∧ w'.cell? ⟨b, off + k, none⟩ = some (.int .i64 (t : Int)) from by
          rw [hJ] at h
          have e := fun (i : Nat) => cell_of_row w' w2.heap.size i _ _ _ ((h.block _ (by omega)).trans HG4.out)
          exact ⟨⟨e 0, e 1, e 2, e 3⟩, (h.cell (p := ⟨b, off + k, none⟩) (by show b < _; omega)).trans HCM4.out⟩)
        have hJ0 : J w4.drew := HJ.out _ (below_drewN 1 (Below.refl _ _))
        clear hJ
        refine MJ.wp_region_mix (J := J) (by kernel_rfl) (by kernel_rfl) ?_
        repeat (first | (refine MJ.wpMix_pure rfl rfl (fun K hK => ?_); go_simp; (first | refine hK _ ?_ | refine ⟨_, fun W hW => rfl, hK _ ?_⟩ | refine ⟨_, fun W hW => ⟨rfl, rfl⟩, hK _ ?_⟩); clear hK K) | (refine MJ.wpMix_held rfl rfl (by assumption) (fun K hK => ?_); go_simp; apply Exists.intro; refine And.intro (fun W hW => ?_) (hK _ ?_); (focus (have hcs := HC.out W hW; go_simp; try rfl)); clear hK K))
        (with_reducible refine MJ.wpMix_make rfl rfl (fun K hK => ?_); go_simp)
        refine HD.out.mono ?_
        rintro e w5 ⟨q', rfl, hfr, hb5⟩
        have hb5' : Below w4.heap.size w4 w5 := (below_drewN 1 (Below.refl w4.heap.size w4)).trans hb5
        have HG5 := hid ((hb5'.block _ (by omega)).trans HG4.out)
        have HB5 := hid (HB4.out.trans (hb5'.mono (by omega)))
        have HRE5 := hid ((hb5'.block _ (by omega)).trans HRE4.out)
        have HF5 := hid hfr
        have hs5 := hb5'.size
        refine hK _ _ (HJ.out _ hb5') ?_
        clear hK K hb5 hb5' hfr
        refine MJ.wpMix_act rfl rfl rfl (fun K hK => ?_)
        refine wp_store_row 44 _ _ rfl w2.heap.size (q'.cs (do4 p s split t)) rfl rfl _ _ HG5.out (by kernel_rfl) rfl (DoI.one _ _) ?_
        refine hK _ _ ?_
        clear hK K
        refine MJ.wpMix_nil ?_
        have HR6 := hid (show ∃ (q0 : Sp) (s0 : St), follow (fun s => moves4 p s split) (fun s m => do4 p s split m.toNat) (start4 p split) (ms.take (k + 1)) = some s0 ∧ (w5.setRow w2.heap.size (q'.cs (do4 p s split t))).heap[w2.heap.size]? = some (.cells (q0.cs s0) 44 (0, 0)) ∧ Fresh (w5.setRow w2.heap.size (q'.cs (do4 p s split t))) (w.heap.size + 1) q0 s0 ∧ Good4 p split s0 from by
          refine ⟨q', do4 p s split t, by have := follow_step HFO.out HX.out HT.out.1; simpa using this, setRow_heap _ _ _ _ _ _ HG5.out, (HF5.out.keeps (keeps_setRow w5 w2.heap.size _) (fun x hx e => ?_)).down (by show _ ≤ w4.heap.size; omega), HGD.out.do4 HSH.out HT.out.2.1 HT.out.2.2⟩
          have hx : w4.heap.size ≤ x := hx
          omega)
        have HB6 := hid (show Below w.heap.size w (w5.setRow w2.heap.size (q'.cs (do4 p s split t))) from Proofs.Ytbncmeggnhggkaa.Below.keeps HB5.out (keeps_setRow w5 w2.heap.size _) HB5.out.size (fun x e => by omega))
        have HRE6 := hid (show (w5.setRow w2.heap.size (q'.cs (do4 p s split t))).heap[w.heap.size]? = some (.cells zSt 44 (0, 0)) from ((keeps_setRow w5 w2.heap.size _).block _ (by omega) (by omega)).trans HRE5.out)
        obtain ⟨w6, hw6⟩ : ∃ w6, w6 = w5.setRow w2.heap.size (q'.cs (do4 p s split t)) := ⟨_, rfl⟩
        rw [← hw6] at HR6 HB6 HRE6 ⊢
        clear hw6 HJ HC hJ0 HG5 HB5 HRE5 HF5
        go_wp2_with fail
        go_roundw
        case rel => exact ⟨k + 1, by omega, by go_num, HR6, HB6, HRE6⟩
        case measure => simp [intOf]; omega
      · rw [decide_eq_false hmem] at HCN
        have HSTOP := hid (show mRun p split ms = none from follow_stop HFO.out HX.out hmem)
        clear hmem
        obtain ⟨J, hJ⟩ : ∃ J : World → Prop, J = fun w' => Below wr.heap.size wr w' := ⟨_, rfl⟩
        have HJ := hid (fun w' (h : Below wr.heap.size wr w') => show J w' by rw [hJ]; exact h)
        have HC := hid (fun w' (h : J w') => show (w'.cell? ⟨w2.heap.size, 0, none⟩ = some (.slice e0 s.pc.length f0) ∧ w'.cell? ⟨w2.heap.size, 1, none⟩ = some (.slice e1 s.regs.length f1) ∧ w'.cell? ⟨w2.heap.size, 2, none⟩ = some (.slice e2 s.mem.length f2) ∧ w'.cell? ⟨w2.heap.size, 3, none⟩ = some (.slice e3 s.buf.length f3)) ∧ w'.cell? ⟨b, off + k, none⟩ = some (.int .i64 m) from by
          rw [hJ] at h
          have e := fun (i : Nat) => cell_of_row w' w2.heap.size i _ _ _ ((h.block _ (by omega)).trans HGR.out)
          exact ⟨⟨e 0, e 1, e 2, e 3⟩, (h.cell (p := ⟨b, off + k, none⟩) (by show b < _; omega)).trans HCM.out⟩)
        have hJ0 : J wr.drew := HJ.out _ (below_drewN 1 (Below.refl _ _))
        clear hJ
        go_wp2_with fail
        refine MJ.wp_region_mix (J := J) (by kernel_rfl) (by kernel_rfl) ?_
        repeat (first | (refine MJ.wpMix_pure rfl rfl (fun K hK => ?_); go_simp; (first | refine hK _ ?_ | refine ⟨_, fun W hW => rfl, hK _ ?_⟩ | refine ⟨_, fun W hW => ⟨rfl, rfl⟩, hK _ ?_⟩); clear hK K) | (refine MJ.wpMix_held rfl rfl (by assumption) (fun K hK => ?_); go_simp; apply Exists.intro; refine And.intro (fun W hW => ?_) (hK _ ?_); (focus (have hcs := HC.out W hW; go_simp; try rfl)); clear hK K))
        (with_reducible refine MJ.wpMix_make rfl rfl (fun K hK => ?_); go_simp)
        refine HCN.out.mono ?_
        rintro e w4 ⟨rfl, hb4⟩
        have hb4' : Below wr.heap.size wr w4 := (below_drewN 1 (Below.refl wr.heap.size wr)).trans hb4
        have hJ4 : J w4 := HJ.out _ hb4'
        have HB4 := hid (HB.out.trans (hb4'.mono hbs))
        have HG4 := hid ((hb4'.block _ hg6).trans HGR.out)
        have HR4 := hid (HRD.out.below hb4')
        have HF4 := hid (HFR.out.keeps (S := fun _ => False) (Keeps.of_below hb4') (fun _ _ e => e))
        have HRE4 := hid ((hb4'.block _ (by omega)).trans HRE.out)
        have HCM4 := hid ((hb4'.cell (p := ⟨b, off + k, none⟩) (by show b < _; omega)).trans HCM.out)
        have hs4 := hb4'.size
        refine hK _ _ hJ4 ?_
        clear hK K hb4 hb4'
        repeat (first | (refine MJ.wpMix_pure rfl rfl (fun K hK => ?_); go_simp; (first | refine hK _ ?_ | refine ⟨_, fun W hW => rfl, hK _ ?_⟩ | refine ⟨_, fun W hW => ⟨rfl, rfl⟩, hK _ ?_⟩); clear hK K) | (refine MJ.wpMix_held rfl rfl (by assumption) (fun K hK => ?_); go_simp; apply Exists.intro; refine And.intro (fun W hW => ?_) (hK _ ?_); (focus (have hcs := HC.out W hW; go_simp; try rfl)); clear hK K))
        refine MJ.wpMix_nil ?_
        clear HJ HC hJ0 hJ4
        go_wp2_with (first | (refine wpList_load_row rfl 44 (.tmp 8) rfl w2.heap.size rfl 44 _ (0, 0) _ HG4.out Try.underlying44 rfl (by kernel_rfl) ?_) | (refine wpList_store_row rfl 44 (.tmp 6) (.tmp 28) rfl w.heap.size _ rfl rfl 44 zSt HRE4.out (by kernel_rfl) rfl (DoI.one ⟨e0, f0, e1, f1, e2, f2, e3, f3⟩ s) ?_))
        refine bodyPost_ret (results_cell_tmp rfl _ _ w.heap.size 44 _ (0, 0) _ rfl (setRow_heap _ _ _ _ _ _ HRE4.out) Try.underlying44 rfl (by kernel_rfl)) rfl ⟨⟨e0, f0, e1, f1, e2, f2, e3, f3⟩, s, by rw [HSTOP.out]; rfl, ?_, HGD.out, ?_, fun s' e => by rw [HSTOP.out] at e; cases e⟩
        · exact (HF4.out.keeps (keeps_setRow w4 w.heap.size _) (fun x hx e => by omega)).down (Nat.le_succ _)
        · exact Proofs.Ytbncmeggnhggkaa.Below.keeps HB4.out (keeps_setRow w4 w.heap.size _) HB4.out.size (fun x e => by omega)
    · have HALL := hid (show mRun p split ms = some s from follow_all HFO.out (show ms.length ≤ k by have := HN.out.2; omega))
      go_wp2_with (first | (refine wpList_load_row rfl 44 (.tmp 8) rfl w2.heap.size rfl 44 _ (0, 0) _ HGR.out Try.underlying44 rfl (by kernel_rfl) ?_) | (refine wpList_store_row rfl 44 (.tmp 6) (.tmp 37) rfl w.heap.size _ rfl rfl 44 zSt HRE.out (by kernel_rfl) rfl (DoI.one ⟨e0, f0, e1, f1, e2, f2, e3, f3⟩ s) ?_))
      refine bodyPost_ret (results_cell_tmp rfl _ _ w.heap.size 44 _ (0, 0) _ rfl (setRow_heap _ _ _ _ _ _ HRE.out) Try.underlying44 rfl (by kernel_rfl)) rfl ⟨⟨e0, f0, e1, f1, e2, f2, e3, f3⟩, s, by rw [HALL.out]; rfl, ?_, HGD.out, ?_, fun s' e => by rw [HALL.out] at e; cases e; rfl⟩
      · exact (HFR.out.keeps (keeps_setRow wr w.heap.size _) (fun x hx e => by omega)).down (Nat.le_succ _)
      · exact Proofs.Ytbncmeggnhggkaa.Below.keeps HB.out (keeps_setRow wr w.heap.size _) HB.out.size (fun x e => by omega)

end Go.Proofs.Ytbncmeggnhggkaa
namespace Go.Proofs.Ytbncmeggnhggkaa
open Go.RowKit
set_option linter.unusedVariables false
set_option linter.unusedSimpArgs false

set_option maxRecDepth 100000 in
set_option maxHeartbeats 3200000 in
theorem rmS_c (w : World) (a : Option Addr) (cap : Nat) (p : Prg) (split : Bool) (a' : Option Addr) (cap' : Nat) (ms : List Int) (h : RdP w a p) (h' : Rd w a' (ints ms)) (hl : sizeP p ≤ 1048576) (hl' : ms.length ≤ 1048576) :
    Calls Try.prog 22 #[.slice a p.length cap, .bool split, .slice a' ms.length cap'] w (RetLB w (runMov p split ms)) := by
  have HV := hid (pvS_c w a cap p h hl)
  by_cases hv : progValid p = true
  · rw [hv] at HV
    have hsh := (valid_of hv).toShape
    have HRES := hid (show runMov p split ms = runRes (done4 p) out3 (mRun p split ms) by unfold runMov; rw [if_pos hv])
    have HAFT := hid (fun w (hp : RdP w a p) h' => l4After_c w a cap p split a' cap' ms hp h' hsh hl')
    have HDN := hid (fun w q s (hp : RdP w a p) (h : RdS w q s) (hg : Good4 p split s) => l4Done_c w a cap p q s split hp h hsh hg)
    have HOUT := hid (fun w q s (h : RdS w q s) (hg : Good4 p split s) => l3Outcome_c w q s h (by have := (good_small hg.toGood hsh).2.1; omega) (by have := (good_small hg.toGood hsh).2.2; omega))
    have HRP := hid h
    have HRM := hid h'
    obtain ⟨n, hn⟩ : ∃ n, n = p.length := ⟨_, rfl⟩
    obtain ⟨l, hll⟩ : ∃ l, l = ms.length := ⟨_, rfl⟩
    rw [HRES.out]
    rw [← hn] at HV HAFT HDN ⊢
    rw [← hll] at HAFT ⊢
    clear hv hsh h h' hl hl' hn hll HRES
    unfold Sp.v at HDN HOUT
    go_enter Try.func22, Try.ntmps22
    go_wp2_with fail
    refine HV.out.mono ?_
    rintro e w1 ⟨rfl, hb1⟩
    have HB1 := hid hb1
    clear hb1
    go_wp2_with fail
    refine (HAFT.out _ (HRP.out.below HB1.out) (HRM.out.below HB1.out)).mono ?_
    rintro e w2 ⟨⟨e0, f0, e1, f1, e2, f2, e3, f3⟩, s, rfl, hfr, hgd, hb2, hsome⟩
    have hrd := hfr.rd
    clear hfr
    have HRD := hid hrd
    have HGD := hid hgd
    have HB2 := hid (HB1.out.trans (hb2.mono HB1.out.size))
    unfold Sp.v
    dsimp only
    have hst : (w2.alloc (.cells #[.slice e0 s.pc.length f0, .slice e1 s.regs.length f1, .slice e2 s.mem.length f2, .slice e3 s.buf.length f3] 44)).heap[w2.heap.size]? = some (.cells #[.slice e0 s.pc.length f0, .slice e1 s.regs.length f1, .slice e2 s.mem.length f2, .slice e3 s.buf.length f3] 44 (0, 0)) := heap_alloc_new w2 _
    have hba := (Below.refl w2.heap.size w2).alloc (Nat.le_refl _) (.cells #[.slice e0 s.pc.length f0, .slice e1 s.regs.length f1, .slice e2 s.mem.length f2, .slice e3 s.buf.length f3] 44)
    obtain ⟨w3, hw3⟩ : ∃ w3, w3 = w2.alloc (.cells #[.slice e0 s.pc.length f0, .slice e1 s.regs.length f1, .slice e2 s.mem.length f2, .slice e3 s.buf.length f3] 44) := ⟨_, rfl⟩
    rw [← hw3] at hst hba
    have x3 : (w3.cell? ⟨w2.heap.size, 0, none⟩ = some (.slice e0 s.pc.length f0) ∧ w3.cell? ⟨w2.heap.size, 1, none⟩ = some (.slice e1 s.regs.length f1) ∧ w3.cell? ⟨w2.heap.size, 2, none⟩ = some (.slice e2 s.mem.length f2) ∧ w3.cell? ⟨w2.heap.size, 3, none⟩ = some (.slice e3 s.buf.length f3)) := by
      have e := fun (i : Nat) => cell_of_row w3 w2.heap.size i _ _ _ hst
      exact ⟨e 0, e 1, e 2, e 3⟩
    have HST := hid hst
    have HB3 := hid (HB2.out.trans (hba.mono HB2.out.size))
    have hs3 : w3.heap.size = w2.heap.size + 1 := by rw [hw3]; simp
    have HD3 := hid (HDN.out w3 ⟨e0, f0, e1, f1, e2, f2, e3, f3⟩ s (HRP.out.below HB3.out) (hrd.below hba) hgd)
    have HR3 := hid (hrd.below hba)
    clear hrd hgd hb2 hba hst
    rw [hw3] at x3
    have HRU := hid (show (mRun p split ms = none ∧ (mRun p split ms).isSome = false) ∨ (mRun p split ms = some s ∧ (mRun p split ms).isSome = true) from by
      cases hm : mRun p split ms with
      | none => exact .inl ⟨rfl, rfl⟩
      | some s' => obtain rfl := hsome s' hm; exact .inr ⟨rfl, rfl⟩)
    obtain ⟨B, hB⟩ : ∃ B, B = (mRun p split ms).isSome := ⟨_, rfl⟩
    rw [← hB] at HRU ⊢
    clear hsome hB
    cases B
    · have HFIN := hid (show runRes (done4 p) out3 (mRun p split ms) = ([], false) from by
        rcases HRU.out with h | h
        · rw [h.1]; rfl
        · exact absurd h.2 (by decide))
      go_wp2
      go_ret2
      rw [HFIN.out]
      rw [← hw3, ← hs3]
      exact ⟨_, 0, rfl, own_lit0 w3 _ _ 1 HB3.out.size, HB3.out.alloc HB3.out.size _⟩
    · have HFIN := hid (show runRes (done4 p) out3 (mRun p split ms) = if done4 p s then (out3 s, true) else ([], false) from by
        rcases HRU.out with h | h
        · exact absurd h.2 (by decide)
        · rw [h.1]; rfl)
      go_wp2_with fail
      rw [← hw3]
      obtain ⟨D, hD⟩ : ∃ D, D = done4 p s := ⟨_, rfl⟩
      rw [← hD] at HD3 HFIN
      clear hD
      refine HD3.out.mono ?_
      rintro e w4 ⟨rfl, hb4⟩
      have hg4 := (hb4.block w2.heap.size (by omega)).trans HST.out
      have c4 : (w4.cell? ⟨w2.heap.size, 0, none⟩ = some (.slice e0 s.pc.length f0) ∧ w4.cell? ⟨w2.heap.size, 1, none⟩ = some (.slice e1 s.regs.length f1) ∧ w4.cell? ⟨w2.heap.size, 2, none⟩ = some (.slice e2 s.mem.length f2) ∧ w4.cell? ⟨w2.heap.size, 3, none⟩ = some (.slice e3 s.buf.length f3)) := by
        have e := fun (i : Nat) => cell_of_row w4 w2.heap.size i _ _ _ hg4
        exact ⟨e 0, e 1, e 2, e 3⟩
      have HRD4 := hid (HR3.out.below hb4)
      have HB4 := hid (HB3.out.trans (hb4.mono HB3.out.size))
      clear hb4 hg4 x3
      cases D
      · go_wp2
        go_ret2
        rw [HFIN.out]
        exact retLB_lit HB4.out
      · go_wp2_with fail
        refine (HOUT.out _ ⟨e0, f0, e1, f1, e2, f2, e3, f3⟩ s HRD4.out HGD.out).mono ?_
        rintro e w5 ⟨a5, c5, rfl, hown5, hb5⟩
        have HO5 := hid hown5
        have HB5 := hid hb5
        clear hown5 hb5 c4
        go_wp2
        go_ret2
        rw [HFIN.out]
        exact ⟨a5, c5, rfl, own_base HO5.out HB4.out.size, HB4.out.trans (HB5.out.mono HB4.out.size)⟩
  · have hv : progValid p = false := by simpa using hv
    rw [hv] at HV
    have HRES := hid (show runMov p split ms = ([], false) by unfold runMov; rw [hv]; rfl)
    rw [HRES.out]
    clear hv h h' hl hl' HRES
    go_enter Try.func22, Try.ntmps22
    go_wp2_with fail
    refine HV.out.mono ?_
    rintro e w1 ⟨rfl, hb1⟩
    have HB1 := hid hb1
    clear hb1
    go_wp2
    go_ret2
    exact retLB_lit HB1.out
theorem moves4_take {p : Prg} {s : St} {split : Bool} : moves4 p s split = ((List.range (p.length + s.buf.length)).filter (can4 p s split)).map fun (m : Nat) => (m : Int) := rfl
theorem rd_one (w : World) (x : Int) (e : TypeId) : Rd (w.alloc (.cells #[.int .i64 x] e)) (some ⟨w.heap.size, 0, none⟩) [.int .i64 x] :=
  .inr ⟨_, 0, rfl, by simp, fun j u hj => by
    rw [Nat.zero_add, cell_of_row _ _ j _ _ _ (heap_alloc_new w _)]
    match j, hj with
    | 0, hj => simpa using hj
    | k + 1, hj => simp at hj⟩
/-- The moves below k. -/
def movTo (p : Prg) (s : St) (split : Bool) (k : Nat) : List Int := ((List.range k).filter (can4 p s split)).map fun (m : Nat) => (m : Int)
theorem movTo_succ (p : Prg) (s : St) (split : Bool) (k : Nat) : movTo p s split (k + 1) = movTo p s split k ++ if can4 p s split k then [(k : Int)] else [] := by
  unfold movTo
  rw [List.range_succ, List.filter_append, List.map_append]
  congr 1
  cases h : can4 p s split k <;> simp [h]
theorem movTo_len (p : Prg) (s : St) (split : Bool) (k : Nat) : (movTo p s split k).length ≤ k := by
  unfold movTo
  rw [List.length_map]
  have := List.length_filter_le (can4 p s split) (List.range k)
  simpa using this

set_option maxRecDepth 100000 in
set_option maxHeartbeats 3200000 in
theorem maS_c (w : World) (a : Option Addr) (cap : Nat) (p : Prg) (split : Bool) (a' : Option Addr) (cap' : Nat) (ms : List Int) (h : RdP w a p) (h' : Rd w a' (ints ms)) (hl : sizeP p ≤ 1048576) (hl' : ms.length ≤ 1048576) :
    Calls Try.prog 20 #[.slice a p.length cap, .bool split, .slice a' ms.length cap'] w (RetL w (movAft p split ms)) := by
  have HV := hid (fun w (h : RdP w a p) => pvS_c w a cap p h hl)
  have HO0 := hid (own_lit0 w w.heap.size 3 1 (Nat.le_refl _))
  have HB0 := hid ((Below.refl w.heap.size w).alloc (Nat.le_refl _) (.cells #[] 3))
  by_cases hv : progValid p = true
  · rw [hv] at HV
    have hsh := (valid_of hv).toShape
    have HRES := hid (show movAft p split ms = (match mRun p split ms with | some s => moves4 p s split | none => []) by unfold movAft; rw [if_pos hv]; rfl)
    have HAFT := hid (fun w (hp : RdP w a p) h' => l4After_c w a cap p split a' cap' ms hp h' hsh hl')
    have HCAN := hid (fun w q s m (hp : RdP w a p) (h : RdS w q s) (hg : Good4 p split s) => l4Can_c w a cap p q s split m hp h hsh hg)
    have HRP := hid h
    have HRM := hid h'
    have HBL := hid (fun s (hg : Good4 p split s) => hg.blen hsh)
    obtain ⟨n, hn⟩ : ∃ n, n = p.length := ⟨_, rfl⟩
    have HN := hid hn
    obtain ⟨l, hll⟩ : ∃ l, l = ms.length := ⟨_, rfl⟩
    have hn3 : n ≤ 3 := by rw [hn]; exact hsh.len
    have hn1 : 1 ≤ n := by rw [hn]; exact (valid_of hv).pos
    rw [← hn] at HV HAFT HCAN ⊢
    rw [← hll] at HAFT ⊢
    clear hv hsh h h' hl hl' hn hll
    unfold Sp.v at HCAN
    go_enter Try.func20, Try.ntmps20
    go_wp2_with fail
    refine (HV.out _ (HRP.out.below HB0.out)).mono ?_
    rintro e w1 ⟨rfl, hb1⟩
    have HB1 := hid (HB0.out.trans (hb1.mono HB0.out.size))
    have HO1 := hid (own_below HO0.out hb1)
    have HSZ1 := hid hb1.size
    clear hb1
    go_wp2_with fail
    refine (HAFT.out _ (HRP.out.below HB1.out) (HRM.out.below HB1.out)).mono ?_
    rintro e w2 ⟨⟨e0, f0, e1, f1, e2, f2, e3, f3⟩, s, rfl, hrd, hgd, hb2, hsome⟩
    have HGD := hid hgd
    have HFR := hid hrd
    have hbl9 := HBL.out s hgd
    have HB2 := hid (HB1.out.trans (hb2.mono HB1.out.size))
    unfold Sp.v
    dsimp only
    have hst : (w2.alloc (.cells #[.slice e0 s.pc.length f0, .slice e1 s.regs.length f1, .slice e2 s.mem.length f2, .slice e3 s.buf.length f3] 44)).heap[w2.heap.size]? = some (.cells #[.slice e0 s.pc.length f0, .slice e1 s.regs.length f1, .slice e2 s.mem.length f2, .slice e3 s.buf.length f3] 44 (0, 0)) := heap_alloc_new w2 _
    have hba := (Below.refl w2.heap.size w2).alloc (Nat.le_refl _) (.cells #[.slice e0 s.pc.length f0, .slice e1 s.regs.length f1, .slice e2 s.mem.length f2, .slice e3 s.buf.length f3] 44)
    have HOA := hid (own_below (own_below HO1.out hb2) hba)
    obtain ⟨w3, hw3⟩ : ∃ w3, w3 = w2.alloc (.cells #[.slice e0 s.pc.length f0, .slice e1 s.regs.length f1, .slice e2 s.mem.length f2, .slice e3 s.buf.length f3] 44) := ⟨_, rfl⟩
    rw [← hw3] at hst hba HOA
    have HST := hid hst
    have HB3 := hid (HB2.out.trans (hba.mono HB2.out.size))
    have hs3 : w3.heap.size = w2.heap.size + 1 := by rw [hw3]; simp
    have HF3 := hid (hrd.keeps (S := fun _ => False) (Keeps.of_below hba) (fun _ _ e => e))
    have hs1 : w.heap.size + 1 ≤ w1.heap.size := by have := HSZ1.out; simp at this; omega
    have HRU := hid (show (mRun p split ms = none ∧ (mRun p split ms).isSome = false) ∨ (mRun p split ms = some s ∧ (mRun p split ms).isSome = true) from by
      cases hm : mRun p split ms with
      | none => exact .inl ⟨rfl, rfl⟩
      | some s' => obtain rfl := hsome s' hm; exact .inr ⟨rfl, rfl⟩)
    obtain ⟨B, hB⟩ : ∃ B, B = (mRun p split ms).isSome := ⟨_, rfl⟩
    rw [← hB] at HRU ⊢
    obtain ⟨bl, hbl⟩ : ∃ bl, bl = s.buf.length := ⟨_, rfl⟩
    have HBB := hid hbl
    rw [← hbl] at hbl9 HST
    have HS12 := hid hb2.size
    clear hrd hgd hb2 hba hst hsome hB
    rw [← hbl] at hw3 ⊢
    clear hbl
    go_wp2_with fail
    rw [← hw3]
    clear hw3
    have hss := HB2.out.size
    have hs12 : w1.heap.size ≤ w2.heap.size := HS12.out
    go_loopw [7, 10] (fun v i wr => ∃ k : Nat, k ≤ n + bl ∧ (B = false → k = 0) ∧ i = .int .i64 k ∧ Hid (wr.ownsRow w.heap.size 3 1 v (movTo p s split k).length (ints (movTo p s split k))) ∧ Hid (Keeps (· = w.heap.size) w3 wr) ∧ Hid (∀ x, v.ownBlock = some x → x = w.heap.size ∨ w3.heap.size ≤ x)) (fun _ i _ => n + bl - (intOf i).toNat)
    case atStart => exact ⟨0, Nat.zero_le _, fun _ => rfl, rfl, hid (by simpa [movTo] using HOA.out), hid (Keeps.refl _ _), hid (fun x hx => .inl (by simp [Value.ownBlock] at hx; exact hx.symm))⟩
    case round =>
      obtain ⟨k, hk, hB0, rfl, HO, HK, HV7⟩ := hrel
      have HG := hid ((HK.out.block w2.heap.size (by omega) (by omega)).trans HST.out)
      have HR := hid (HF3.out.keeps HK.out (fun x hx e => by have : w1.heap.size ≤ x := hx; omega)).rd
      have HB := hid (Proofs.Ytbncmeggnhggkaa.Below.keeps HB3.out HK.out HB3.out.size (fun x e => by omega))
      obtain ⟨av, cv, rfl, hvb⟩ := own_shape HO.out
      have HVB := hid hvb
      have cs : (wr.cell? ⟨w2.heap.size, 0, none⟩ = some (.slice e0 s.pc.length f0) ∧ wr.cell? ⟨w2.heap.size, 1, none⟩ = some (.slice e1 s.regs.length f1) ∧ wr.cell? ⟨w2.heap.size, 2, none⟩ = some (.slice e2 s.mem.length f2) ∧ wr.cell? ⟨w2.heap.size, 3, none⟩ = some (.slice e3 bl f3)) := by
        have e := fun (i : Nat) => cell_of_row wr w2.heap.size i _ _ _ HG.out
        exact ⟨e 0, e 1, e 2, e 3⟩
      have hg6 : w2.heap.size < wr.heap.size := (Array.getElem?_eq_some_iff.1 HG.out).1
      have hml := movTo_len p s split k
      clear hvb
      cases B
      · have hk0 := hB0 rfl
        subst hk0
        have HF := hid (show movAft p split ms = movTo p s split 0 from by
          rw [HRES.out]
          rcases HRU.out with h | h
          · rw [h.1]; rfl
          · exact absurd h.2 (by decide))
        have d1 : (0 : Int) < (n : Int) + (bl : Int) := by omega
        clear hB0
        go_wp2
        go_ret
        rw [HF.out]
        exact ⟨_, _, rfl, HO.out, HB.out⟩
      · clear hB0
        by_cases hlt : k < n + bl
        · have d1 : (k : Int) < (n : Int) + (bl : Int) := by omega
          have HC1 := hid (HCAN.out wr ⟨e0, f0, e1, f1, e2, f2, e3, f3⟩ s (k : Int) (HRP.out.below HB.out) HR HGD.out)
          rw [in_moves4, ← HN.out, ← HBB.out, decide_eq_true hlt, Bool.true_and] at HC1
          have HSU := hid (movTo_succ p s split k)
          obtain ⟨C, hC⟩ : ∃ C, C = can4 p s split k := ⟨_, rfl⟩
          rw [← hC] at HC1 HSU
          clear hC
          obtain ⟨L, hL⟩ : ∃ L, L = (movTo p s split k).length := ⟨_, rfl⟩
          have HL := hid hL
          rw [← hL] at HO hml HV7 ⊢
          clear hL
          go_wp2_with fail
          refine HC1.out.mono ?_
          rintro e w4 ⟨rfl, hb4⟩
          have HK4 := hid (HK.out.trans (Keeps.of_below hb4))
          have HB4 := hid (HB.out.trans (hb4.mono HB.out.size))
          have HO4 := hid (own_below HO.out hb4)
          have hs4 := hb4.size
          have hbs := HB.out.size
          clear hb4 cs
          cases C
          · have HO5 := hid (show w4.ownsRow w.heap.size 3 1 (.slice av L cv) (movTo p s split (k + 1)).length (ints (movTo p s split (k + 1))) from by
              rw [HSU.out]
              simp only [Bool.false_eq_true, if_false, List.append_nil]
              rw [← HL.out]
              exact HO4.out)
            go_wp2_with fail
            go_roundw
            case rel => exact ⟨k + 1, by omega, fun e => (by cases e), by go_num, HO5, HK4, HV7⟩
            case measure => simp [intOf]; omega
          · go_wp2_with (at_builtin; refine wpList_append_rd rfl (.tmp 41) (.tmp 43) 23 rfl w.heap.size 3 (.int .i64 0) 1 8 Try.underlying23 Try.info_int rfl (by decide) _ _ _ rfl (HO4.out.alloc _) _ 1 1 [.int .i64 (k : Int)] rfl (rd_one w4 (k : Int) _) rfl (by simp [Value.oneCell']) (by omega) (by decide) (by simp; omega) ?_)
            intro v5 w5 hown5 hgrow5 hat5
            rw [ownBlock_slice] at hgrow5 hat5
            have hs5 := hgrow5.size
            simp only [World.size_alloc] at hs5
            have HO5 := hid (show w5.ownsRow w.heap.size 3 1 v5 (movTo p s split (k + 1)).length (ints (movTo p s split (k + 1))) from by
              rw [HSU.out]
              simp only [if_true, List.length_append, List.length_singleton]
              rw [← HL.out]
              have e : ints (movTo p s split k ++ [(k : Int)]) = ints (movTo p s split k) ++ [.int .i64 (k : Int)] := by simp
              rw [e]
              exact hown5)
            have HK5 := hid (show Keeps (· = w.heap.size) w3 w5 from by
              have h4 := HK4.out
              have h5 := hgrow5
              refine ⟨h5.os.trans h4.os, h5.tape.trans h4.tape, h5.output.trans h4.output, by have := h4.size; omega, fun x hx hne => ?_⟩
              have h4s := h4.size
              rw [h5.block x (by simp; omega) (fun e => by
                rcases HV7.out x (by rw [ownBlock_slice]; exact e.symm) with h | h
                · exact hne h
                · omega), heap_alloc_old _ _ (by omega)]
              exact h4.block x hx hne)
            have HV5 := hid (show ∀ x, v5.ownBlock = some x → x = w.heap.size ∨ w3.heap.size ≤ x from fun x hx => by
              rcases hat5 with h | h
              · exact HV7.out x (by rw [ownBlock_slice, ← h]; exact hx)
              · rw [h] at hx
                have h4s := HK4.out.size
                simp at hx
                omega)
            clear hown5 hgrow5 hat5
            go_wp2_with fail
            go_roundw
            case rel => exact ⟨k + 1, by omega, fun e => (by cases e), by go_num, HO5, HK5, HV5⟩
            case measure => simp [intOf]; omega
        · have HF := hid (show movAft p split ms = movTo p s split k from by
            rw [HRES.out]
            rcases HRU.out with h | h
            · exact absurd h.2 (by decide)
            · rw [h.1]
              have : k = p.length + s.buf.length := by rw [← HN.out, ← HBB.out]; omega
              rw [this]; rfl)
          have d1 : ¬ ((k : Int) < (n : Int) + (bl : Int)) := by omega
          go_wp2
          go_ret
          rw [HF.out]
          exact ⟨_, _, rfl, HO.out, HB.out⟩
  · have hv : progValid p = false := by simpa using hv
    rw [hv] at HV
    have HRES := hid (show movAft p split ms = [] by unfold movAft; rw [hv]; rfl)
    rw [HRES.out]
    have HRP := hid h
    clear hv h h' hl hl' HRES
    go_enter Try.func20, Try.ntmps20
    go_wp2_with fail
    refine (HV.out _ (HRP.out.below HB0.out)).mono ?_
    rintro e w1 ⟨rfl, hb1⟩
    have HB1 := hid (HB0.out.trans (hb1.mono HB0.out.size))
    have HO1 := hid (own_below HO0.out hb1)
    clear hb1
    go_wp2
    go_ret
    exact ⟨_, _, rfl, HO1.out, HB1.out⟩
end Go.Proofs.Ytbncmeggnhggkaa
