/-
  PROVED HERE: what spec.l4Do does where a write leaves a buffer. CONDITIONS: as each theorem states.
-/
import Derived.Test.YtloghcfkjcbjlaaSqb
import Derived.Test.YtloghcfkjcbjlaaChn
import Derived.Test.YtloghcfkjcbjlaaSpe
namespace Go.Proofs.Ytloghcfkjcbjlaa
open Go.RowKit
set_option linter.unusedVariables false
set_option linter.unusedSimpArgs false

def flR (w1 : World) (es : List (Int × Int)) (m : Nat) (ρ : Nat → Value) (w : World) : Prop :=
  if m = 1 then IsLit w1 w 3 (ρ 6) else if m = 2 then IsOwn w1.heap.size (flatB es) w (ρ 9) else True
theorem keepsDrew {S : Nat → Prop} {w w' : World} (h : Keeps S w w') : Keeps S w w'.drew := ⟨h.os, h.tape, h.output, h.size, h.block⟩
theorem rd_two (w : World) (x y : Int) (e : TypeId) : Rd (w.alloc (.cells #[.int .i64 x, .int .i64 y] e)) (some ⟨w.heap.size, 0, none⟩) (ints [x, y]) :=
  .inr ⟨_, 0, rfl, by simp, fun j u hj => by
    rw [Nat.zero_add, cell_of_row _ _ j _ _ _ (heap_alloc_new w _)]
    match j, hj with
    | 0, hj => simpa using hj
    | 1, hj => simpa using hj
    | k + 2, hj => simp at hj⟩
theorem good4_small {p : Prg} {split : Bool} {s : St} (hg : Good4 p split s) (hv : Shape p) : Small s :=
  ⟨by have := hg.blen hv; omega, fun xs hx => by
    obtain ⟨i, hi⟩ := List.mem_iff_getElem?.1 hx
    have := hg.rlen hv hi
    omega⟩
/-- One buffer of the copy: what is read of it, and what a store to it turns. -/
theorem DoI.row {w wk : World} {h4 h6 g7 base : Nat} {q q' : Sp} {s sk : St} (h : DoI w h4 h6 g7 base q q' s sk wk) {b : Nat} {r : List (Int × Int)} (hr : sk.buf[b]? = some r) :
    ∃ top gb a' c', base ≤ top ∧ top ≤ wk.heap.size ∧ q'.a3 = some ⟨gb, 0, none⟩ ∧ gb < wk.heap.size ∧ wk.cell? ⟨gb, b, none⟩ = some (.slice a' (r.length * 2) c') ∧ OwI wk top a' c' (flatB r) ∧ (∀ x, blk a' = some x → x ≠ gb ∧ x < wk.heap.size ∧ ∃ arr f, wk.heap[x]? = some (.cells arr 3 f)) ∧
      ∀ (w' : World) (v' : Value) (ys : List (Int × Int)), Keeps (fun k => blk a' = some k) wk w' → w'.ownsRow top 3 1 v' (flatB ys).length (ints (flatB ys)) → (v'.ownBlock = blk a' ∨ ∀ x, v'.ownBlock = some x → wk.heap.size ≤ x) →
        w'.cell? ⟨gb, b, none⟩ = some (.slice a' (r.length * 2) c') ∧ w'.frozen? ⟨gb, b, none⟩ = false ∧ DoI w h4 h6 g7 base q q' s { sk with buf := sk.buf.set b ys } (w'.setCell ⟨gb, b, none⟩ v') := by
  obtain ⟨top, b1, b2, b3, b4, b5⟩ := h.own.buf
  have hx : (sk.buf.map flatB)[b]? = some (flatB r) := by rw [List.getElem?_map, hr]; rfl
  obtain ⟨gb, a', c', e3, r1, r2, r3, r4, r5, r6⟩ := b5.row hx
  have b5' := b5
  obtain ⟨rs, hl, ho, hi, _⟩ := b5
  have htop : top ≤ wk.heap.size := by omega
  rw [length_flatB] at r3
  have hty : ∀ x, blk a' = some x → ∃ arr f, wk.heap[x]? = some (.cells arr 3 f) := fun x hx => by
    rcases r4.2 with ⟨hv, _⟩ | ⟨g', c, cur, hv, _, hg', _⟩
    · simp only [Value.slice.injEq] at hv
      rw [hv.1] at hx
      cases hx
    · simp only [Value.slice.injEq, Option.some.injEq] at hv
      rw [hv.1] at hx
      simp only [blk, Option.some.injEq] at hx
      subst hx
      exact ⟨_, _, hg'⟩
  refine ⟨top, gb, a', c', b1, htop, e3, r2, r3, r4, fun x hx => ⟨(r5 x hx).2, (own_blk r4 x hx).2, hty x hx⟩, ?_⟩
  intro w' v' ys hk hown hblk
  obtain ⟨s1, s2, s3⟩ := r6 (fun k => blk a' = some k) w' v' (flatB ys) hk (fun _ _ _ h => h) hown hblk
  rw [length_flatB] at s1
  have hrt : ∀ x, blk a' = some x → top ≤ x ∧ x < wk.heap.size := fun x hx => own_blk r4 x hx
  have hsz := hk.size
  have hss : (w'.setCell ⟨gb, b, none⟩ v').heap.size = w'.heap.size := by simp [World.setCell]
  have ne : ∀ {k : Nat} {o : Array Value}, wk.heap[k]? = some (.cells o 53 (0, 0)) → (w'.setCell ⟨gb, b, none⟩ v').heap[k]? = some (.cells o 53 (0, 0)) := by
    intro k o hko
    have n1 : k ≠ gb := fun e => by
      subst e
      rw [e3] at ho
      exact absurd (own_type ho hko) (by decide)
    have n2 : blk a' ≠ some k := fun e => by
      cases a' with
      | none => cases e
      | some ad =>
        obtain ⟨a2, c2, hv2, _⟩ := own_shape r4
        have hlt := (hrt k e).2
        rcases r4.2 with ⟨hv, _⟩ | ⟨g', c, cur, hv, _, hg', _⟩
        · simp at hv
        · simp only [Value.slice.injEq, Option.some.injEq] at hv
          rw [hv.1] at e
          simp only [blk, Option.some.injEq] at e
          obtain rfl : k = g' := e.symm
          rw [hko] at hg'
          simp only [Option.some.injEq, Obj.cells.injEq] at hg'
          exact absurd hg'.2.1 (by decide)
    exact heap_set ((hk.block k (Array.getElem?_eq_some_iff.1 hko).1 n2).trans hko) n1
  have k2 := Keeps.setCell w' ⟨gb, b, none⟩ v'
  have keep : ∀ {x : Option Addr} {c : Nat} {xs : List Int}, OwI wk base x c xs → (∀ k, blk x = some k → k < top) → OwI (w'.setCell ⟨gb, b, none⟩ v') base x c xs := by
    intro x c xs ho hx
    refine own_keeps (own_keeps ho hk fun k hk' e => ?_) k2 fun k hk' e => ?_
    · have := (hrt k e).1; have := hx k hk'; omega
    · have := hx k hk'; simp at e; omega
  have o := h.own
  refine ⟨s1, s2, ne h.box, ne h.res, ne h.cur, ⟨keep o.pc b2, keep o.regs b3, keep o.mem b4, o.d01, o.d02, o.d12, top, b1, b2, b3, b4, ?_⟩, ?_, h.wb, by rw [hss]; have := h.bw; omega⟩
  · rw [hss]
    rw [List.map_set]
    simpa using s3
  · exact (Proofs.Ytloghcfkjcbjlaa.Below.keeps h.below hk h.below.size (fun x e => by have := (hrt x e).1; have := h.wb; omega)).setCell (show w.heap.size ≤ gb by have := h.wb; omega) _
theorem rd_drop2 {w : World} {G o : Nat} {x y : Int} {os : List Int} (h : Rd w (some ⟨G, o, none⟩) (ints (x :: y :: os))) : Rd w (some ⟨G, o + 2, none⟩) (ints os) := by
  rcases h with h | ⟨b, off, e, hlt, hc⟩
  · cases h
  · right
    simp only [Option.some.injEq, Addr.mk.injEq, and_true] at e
    obtain ⟨rfl, rfl⟩ := e
    refine ⟨G, o + 2, rfl, hlt, fun j u hj => ?_⟩
    have := hc (j + 2) u (by simpa using hj)
    rw [show o + 2 + j = o + (j + 2) by omega]
    exact this
/-- 'append([]int{}, x...)' at a step of a region that draws its order. -/
theorem wpMixJ_append_lit {J : World → Prop} {ops : Array Oper} {rest : List Oper} {o : Oper} {a : Act} {w : World} {Q : Act → World → Prop} (hgd : o.guard = none) (w0 : World) (s x : Operand)
    (ho : o.op = .call { callee := .builtin .append, args := #[s, x], argTypes := #[24, 24] })
    (v : Value) (hs : a.eval s = v) (hg : IsLit w0 w 3 v) (src : Option Addr) (m c : Nat) (xs : List Int) (hx : a.eval x = .slice src m c) (hrd : Rd w src (ints xs)) (hl : xs.length = m) (h63 : m ≤ 1000000000)
    (h : ∀ a' c' w', w'.ownsRow w0.heap.size 3 1 (.slice a' m c') m (ints xs) → Below w.heap.size w w' → (∀ b, blk a' = some b → vblk v = some b ∨ (w.heap.size ≤ b ∧ b < w'.heap.size)) → MJ.wpMix J Try.prog ops Q rest (a.put o.dst (.slice a' m c')) w') : MJ.wpMix J Try.prog ops Q (o :: rest) a w := by
  refine MJ.wpMix_act hgd (by simp [MJ.actsB, actsB, ho]) (by simp [MJ.makesB, ho]) fun K hK => ?_
  exact oper_append_lit w0 s x 24 ho 3 (.int .i64 0) 1 8 Try.underlying24 Try.info_int rfl (by decide) v hs hg src m c (ints xs) hx hrd (by simp [hl]) (ints_one _ _) h63 (by decide) (fun a' c' w' h1 h2 h3 => hK _ _ (h a' c' w' h1 h2 h3))

set_option maxRecDepth 100000 in
set_option maxHeartbeats 3200000 in
theorem l4DoF_c (w : World) (a : Option Addr) (cap : Nat) (p : Prg) (q : Sp) (s : St) (split : Bool) (b : Nat) (el ev : Int) (es : List (Int × Int)) (hp : RdP w a p) (h : RdS w q s) (hv : Shape p) (hg : Good4 p split s) (hb : b < s.buf.length) (hrow : row4 s b = (el, ev) :: es) :
    Calls Try.prog 51 #[.slice a p.length cap, q.v s, .bool split, .int .i64 ((p.length + b : Nat) : Int)] w fun e w' => ∃ q' : Sp, e = .returned (q'.v (flush4 p s b)) ∧ Fresh w' w.heap.size q' (flush4 p s b) ∧ Below w.heap.size w w' := by
  have hn0 : 0 < p.length := by
    have := hg.bufl
    cases hz : p.length with
    | zero => rw [hz, Nat.zero_mul] at this; omega
    | succ k => omega
  obtain ⟨z0, z1, z2⟩ := good_small hg.toGood hv
  have hsm := good4_small hg hv
  have HCOPY := hid (fun w (h : RdS w q s) => l3Copy_c w q s h (by omega) (by omega) (by omega) hsm.n hsm.len)
  have HRD := hid h
  have HRP := hid hp
  have HGD := hid hg
  have HSH := hid hv
  obtain ⟨a0, c0, a1, c1, a2, c2, a3, c3⟩ := q
  obtain ⟨n, hn⟩ : ∃ n, n = p.length := ⟨_, rfl⟩
  have hpc : s.pc.length = n := by rw [hn]; exact hg.pcl
  have HE := hid (And.intro hn hpc)
  obtain ⟨g, off, r, c, hq, hgl, hcell, hrd, hrc⟩ := h.bufAt hb
  have hq : a3 = some ⟨g, off, none⟩ := hq
  subst hq
  have hlen7 := hg.rlen hv (row4_get hb)
  have hbl9 := hg.blen hv
  obtain ⟨hl, hvb⟩ := hg.ent b _ (row4_get hb) (el, ev) (by rw [hrow]; exact List.mem_cons_self)
  obtain ⟨ln, rfl⟩ : ∃ ln : Nat, el = ln := ⟨el.toNat, by have := hl.1; simp only at this; omega⟩
  have hl2 : ln ≤ 2 := by have := hl.2; simp only at this; omega
  have hlm : ln < s.mem.length := by rw [hg.meml]; omega
  have HDO := hid (show flush4 p s b = { pc := s.pc, regs := s.regs, mem := s.mem.set ln ev, buf := s.buf.set b es } from by unfold flush4; rw [hrow]; rfl)
  have HROW := hid (show s.buf[b]? = some (((ln : Int), ev) :: es) from by rw [← hrow]; exact row4_get hb)
  obtain ⟨l, hl'⟩ : ∃ l, l = es.length := ⟨_, rfl⟩
  rw [hrow, List.length_cons, ← hl'] at hcell hrc hlen7
  rw [hrow] at hrd
  have HL := hid hl'
  have HCELL := hid (And.intro hgl hcell)
  have HRR := hid hrd
  clear hl hvb hrow hcell hrd hl' hg hv hgl
  rw [← hn] at hn0 ⊢
  have HZ := hid (And.intro z0 (And.intro z1 z2))
  clear hn hpc z0 z1 z2 hsm
  unfold Sp.v at HCOPY ⊢
  dsimp only at HCOPY ⊢
  clear h hp
  go_enter Try.func51, Try.ntmps51
  go_wp2_with fail
  refine (HCOPY.out _ ?_).mono ?_
  · exact HRD.out.below (((Below.refl w.heap.size w).alloc (Nat.le_refl _) _).alloc (by simp) _)
  rintro e w1 ⟨q', rfl, hown, hb1⟩
  obtain ⟨g0, hg0, _, l0⟩ := own_some hown.pc (by rw [HE.out.2]; omega)
  obtain ⟨g1, hg1, _, l1⟩ := own_some hown.regs (by rw [HGD.out.regl]; have := HE.out.1; omega)
  obtain ⟨g2, hg2, _, l2⟩ := own_some hown.mem (by rw [HGD.out.meml]; omega)
  obtain ⟨e0, d0, e1, d1, e2, d2, e3, d3⟩ := q'
  have hg0 : e0 = some ⟨g0, 0, none⟩ := hg0
  have hg1 : e1 = some ⟨g1, 0, none⟩ := hg1
  have hg2 : e2 = some ⟨g2, 0, none⟩ := hg2
  subst hg0
  subst hg1
  subst hg2
  obtain ⟨w0, hw0⟩ : ∃ w0, w0 = (w.alloc (.cells #[.slice a0 s.pc.length c0, .slice a1 s.regs.length c1, .slice a2 s.mem.length c2, .slice (some ⟨g, off, none⟩) s.buf.length c3] 53)).alloc (.cells zSt 53) := ⟨_, rfl⟩
  rw [← hw0] at hown hb1
  have HOWN := hid hown
  have HB1 := hid hb1
  clear hown hb1
  have hs0 : w0.heap.size = w.heap.size + 2 := by rw [hw0]; simp
  have hb0 : Below w.heap.size w w0 := by rw [hw0]; exact ((Below.refl _ _).alloc (Nat.le_refl _) _).alloc (by simp) _
  have hbox0 : w0.heap[w.heap.size]? = some (.cells #[.slice a0 s.pc.length c0, .slice a1 s.regs.length c1, .slice a2 s.mem.length c2, .slice (some ⟨g, off, none⟩) s.buf.length c3] 53 (0, 0)) := by
    rw [hw0, heap_alloc_old _ _ (by simp)]
    exact heap_alloc_new w _
  have hres0 : w0.heap[w.heap.size + 1]? = some (.cells zSt 53 (0, 0)) := by
    rw [hw0]
    have := heap_alloc_new (w.alloc (.cells #[.slice a0 s.pc.length c0, .slice a1 s.regs.length c1, .slice a2 s.mem.length c2, .slice (some ⟨g, off, none⟩) s.buf.length c3] 53)) (.cells zSt 53)
    simpa using this
  have hs1 := HB1.out.size
  have hba := (Below.refl w1.heap.size w1).alloc (Nat.le_refl _) (.cells #[.slice (some ⟨g0, 0, none⟩) s.pc.length d0, .slice (some ⟨g1, 0, none⟩) s.regs.length d1, .slice (some ⟨g2, 0, none⟩) s.mem.length d2, .slice e3 s.buf.length d3] 53)
  have D2 : DoI w w.heap.size (w.heap.size + 1) w1.heap.size w0.heap.size ⟨a0, c0, a1, c1, a2, c2, some ⟨g, off, none⟩, c3⟩ ⟨some ⟨g0, 0, none⟩, d0, some ⟨g1, 0, none⟩, d1, some ⟨g2, 0, none⟩, d2, e3, d3⟩ s s (w1.alloc (.cells #[.slice (some ⟨g0, 0, none⟩) s.pc.length d0, .slice (some ⟨g1, 0, none⟩) s.regs.length d1, .slice (some ⟨g2, 0, none⟩) s.mem.length d2, .slice e3 s.buf.length d3] 53)) :=
    ⟨(hba.block _ (by omega)).trans ((HB1.out.block _ (by omega)).trans hbox0), (hba.block _ (by omega)).trans ((HB1.out.block _ (by omega)).trans hres0), heap_alloc_new w1 _, HOWN.out.below hba, (hb0.trans (HB1.out.mono (by omega))).trans (hba.mono (by omega)), by omega, by simp; omega⟩
  obtain ⟨w2, hw2⟩ : ∃ w2, w2 = w1.alloc (.cells #[.slice (some ⟨g0, 0, none⟩) s.pc.length d0, .slice (some ⟨g1, 0, none⟩) s.regs.length d1, .slice (some ⟨g2, 0, none⟩) s.mem.length d2, .slice e3 s.buf.length d3] 53) := ⟨_, rfl⟩
  rw [← hw2] at D2
  have HD2 := hid D2
  have hs2 : w2.heap.size = w1.heap.size + 1 := by rw [hw2]; simp
  clear D2 hba hbox0 hres0 hb0 HOWN HB1 hw0
  have hcw := (HD2.out.below.cell (p := ⟨g, off + b, none⟩) HCELL.out.1).trans HCELL.out.2
  obtain ⟨⟨_, _, _, x3⟩, ⟨_, _, y2, _⟩⟩ := HD2.out.cells
  dsimp only at x3 y2
  obtain ⟨rb, ro, hr0, hrl, hc0⟩ := HRR.out.int 0 (by rw [length_flatB]; simp)
  subst hr0
  obtain ⟨rb', ro', hr1, _, hc1⟩ := HRR.out.int 1 (by rw [length_flatB, List.length_cons]; omega)
  simp only [Option.some.injEq, Addr.mk.injEq] at hr1
  obtain ⟨rfl, rfl, _⟩ := hr1
  have hw0 : w2.cell? ⟨rb, ro, none⟩ = some (.int .i64 (ln : Int)) := (HD2.out.below.cell (p := ⟨rb, ro, none⟩) hrl).trans hc0
  have hw1 : w2.cell? ⟨rb, ro + 1, none⟩ = some (.int .i64 ev) := (HD2.out.below.cell (p := ⟨rb, ro + 1, none⟩) hrl).trans hc1
  have e1 : (n : Int) + (b : Int) - (n : Int) = (b : Int) := by omega
  have e2 : decide ((n : Int) ≤ (n : Int) + (b : Int)) = true := decide_eq_true (by omega)
  have e3' : (n : Int) ≤ (n : Int) + (b : Int) := by omega
  have hbb : (b : Int) < (s.buf.length : Int) := by omega
  obtain ⟨z3, o3c, o3f⟩ := own_intAt HD2.out.own.mem ln (by have := hlm; simpa using this)
  have hl20 : (0 : Int) < ((l : Int) + 1) * 2 := by omega
  have hl21 : (1 : Int) < ((l : Int) + 1) * 2 := by omega
  clear hc0 hc1
  rw [hw2] at x3 hcw
  go_wp2_with fail
  rw [← hw2]
  clear hw2
  refine wp_region_mix (by kernel_rfl) (by kernel_rfl) ?_
  repeat (with_reducible refine wpMix_rd rfl rfl (fun K hK => ?_); go_simp; (try go_bits); refine hK _ ?_; clear hK K)
  (with_reducible refine wpMix_act (o := ⟨_, .store _ _ _, _, _, _, _⟩) rfl rfl (fun K hK => ?_))
  go_simp
  refine hK _ _ ?_
  clear hK K
  have HD4 := hid (DoI.drew (HD2.out.set2 rfl ln ev))
  obtain ⟨w4, hw4⟩ : ∃ w4, w4 = (w2.setCell ⟨g2, ln, none⟩ (.int .i64 ev)).drew := ⟨_, rfl⟩
  rw [← hw4] at HD4 ⊢
  have hs4 : w4.heap.size = w1.heap.size + 1 := by rw [hw4]; simpa [World.setCell] using hs2
  clear x3 y2 o3c o3f HD2 hw4 hw0 hw1 hcw
  (with_reducible refine wpMix_nil ?_)
  obtain ⟨top, gb, a', c', t1, t2, hq3, hgb, hcb, hob, _, hput⟩ := HD4.out.row HROW.out
  have hq3 : e3 = some ⟨gb, 0, none⟩ := hq3
  subst hq3
  have HPUT := hid hput
  obtain ⟨_, ⟨_, _, _, y3⟩⟩ := HD4.out.cells
  dsimp only at y3
  have hlt7 := (Array.getElem?_eq_some_iff.1 HD4.out.cur).1
  obtain ⟨J, hJ⟩ : ∃ J : World → Prop, J = fun w' => Below w4.heap.size w4 w' := ⟨_, rfl⟩
  have HJ := hid (fun w' (h : Below w4.heap.size w4 w') => show J w' by rw [hJ]; exact h)
  have HC := hid (fun w' (h : J w') => show w'.cell? ⟨w1.heap.size, 3, none⟩ = some (.slice (some ⟨gb, 0, none⟩) s.buf.length d3) from by
    rw [hJ] at h
    exact (h.cell (p := ⟨w1.heap.size, 3, none⟩) hlt7).trans y3)
  have hJ0 : J w4.drew := HJ.out _ (below_drewN 1 (Below.refl _ _))
  have HJB := hid (fun w' (h : J w') => show Below w4.heap.size w4 w' by rw [hJ] at h; exact h)
  have HJI := hid (fun S ρ w' (h : ChI [6, 9] (flR w4 es) J S ρ w') => h.j)
  have HRL := hid (HRR.out.below HD4.out.below)
  have hrc1 : (2 : Int) ≤ (c : Int) := by omega
  have hl22 : (2 : Int) ≤ ((l : Int) + 1) * 2 := by omega
  have hl23 : ((l : Int) + 1) * 2 ≤ (c : Int) := by omega
  have HLB := hid (show (flatB es).length = l * 2 by rw [length_flatB, ← HL.out])
  have hwrap : IntKind.i64.wrap (b : Int) = (b : Int) := IntWalk.i64_in _ (by omega)
  clear hJ hput y3 hcb
  by_cases hc2 : c = 2
  · have hes : es = [] := List.eq_nil_of_length_eq_zero (by rw [← HL.out]; omega)
    have hl0 : l = 0 := by omega
    have HES := hid hes
    subst hl0
    subst hc2
    clear hes
    have HRS := hid (show Rd w4 (some ⟨rb, ro, none⟩) (ints (flatB es)) from (.inl (by rw [HES.out]; rfl)))
    go_wp2_with fail
    refine FR.wp_region_free 10 (ChI [6, 9] (flR w4 es) J) (by kernel_rfl) (by kernel_rfl) (by kernel_rfl) (fun _ => undef) (ChI.start hJ0 trivial) fun V => ?_
    (refine FR.frGo_pure _ rfl (fun K hK => ?_); go_simp; (first | refine hK _ ?_ | refine ⟨_, fun W hW => rfl, hK _ ?_⟩ | refine ⟨_, fun W hW => ⟨rfl, rfl⟩, hK _ ?_⟩); clear hK K)
    (refine FR.frGo_held _ rfl J (fun S ρ w' h _ => HJI.out S ρ w' h) (fun K hK => ?_); go_simp; apply Exists.intro; refine And.intro (fun W hW => ?_) (hK _ ?_); (focus (have hcs := HC.out W hW; go_simp; try rfl)); clear hK K)
    (refine FR.frGo_pure _ rfl (fun K hK => ?_); go_simp; (first | refine hK _ ?_ | refine ⟨_, fun W hW => rfl, hK _ ?_⟩ | refine ⟨_, fun W hW => ⟨rfl, rfl⟩, hK _ ?_⟩); clear hK K)
    (refine FR.frGo_pure _ rfl (fun K hK => ?_); go_simp; (first | refine hK _ ?_ | refine ⟨_, fun W hW => rfl, hK _ ?_⟩ | refine ⟨_, fun W hW => ⟨rfl, rfl⟩, hK _ ?_⟩); clear hK K)
    (refine FR.frGo_pure _ rfl (fun K hK => ?_); go_simp; (first | refine hK _ ?_ | refine ⟨_, fun W hW => rfl, hK _ ?_⟩ | refine ⟨_, fun W hW => ⟨rfl, rfl⟩, hK _ ?_⟩); clear hK K)
    (refine FR.frGo_pure _ rfl (fun K hK => ?_); go_simp; (first | refine hK _ ?_ | refine ⟨_, fun W hW => rfl, hK _ ?_⟩ | refine ⟨_, fun W hW => ⟨rfl, rfl⟩, hK _ ?_⟩); clear hK K)
    refine FR.frGo_act (k := 6) _ rfl (fun S ρ w' hI hS hp K hK => ?_) ?_
    · go_simp
      have hb := HJB.out w' hI.j
      refine hK _ _ (hI.next (i := 0) (by decide) rfl hS (by simp) (HJ.out _ (hb.alloc hb.size _)) ?_)
      show IsLit w4 _ 3 (FR.upd ρ 6 _ 6)
      rw [FR.upd_same]
      exact IsLit.new w4 w' _ hb.size
    (refine FR.frGo_pure _ rfl (fun K hK => ?_); go_simp; (first | refine hK _ ?_ | refine ⟨_, fun W hW => rfl, hK _ ?_⟩ | refine ⟨_, fun W hW => ⟨rfl, rfl⟩, hK _ ?_⟩); clear hK K)
    (refine FR.frGo_pure _ rfl (fun K hK => ?_); go_simp; (first | refine hK _ ?_ | refine ⟨_, fun W hW => rfl, hK _ ?_⟩ | refine ⟨_, fun W hW => ⟨rfl, rfl⟩, hK _ ?_⟩); clear hK K)
    refine FR.frGo_act (k := 9) _ rfl (fun S ρ w' hI hS hp K hK => ?_) ?_
    · have hp6 := hp 6 (by kernel_rfl)
      have hb := HJB.out w' hI.j
      have q6 : IsLit w4 w' 3 (ρ 6) := hI.at (i := 1) (by decide) rfl hS (by simpa using hp6.1)
      rw [hp6.2] at q6
      refine oper_append_lit w4 _ _ 24 rfl 3 (.int .i64 0) 1 8 Try.underlying24 Try.info_int rfl (by decide) (V 6) rfl q6 (some ⟨rb, ro, none⟩) (0) _ (ints (flatB es)) rfl (HRS.out.below hb) (by rw [List.length_map]; exact HLB.out.trans (by omega)) (ints_one _ _) (by omega) (by decide) ?_
      intro a5 c5 w'' hown hb2 hat
      have em : (0) = (flatB es).length := by have := HLB.out; omega
      refine hK _ _ (hI.next (i := 1) (by decide) rfl hS (by simpa using hp6.1) (HJ.out _ (hb.trans (hb2.mono hb.size))) ?_)
      show IsOwn w4.heap.size (flatB es) _ (FR.upd ρ 9 _ 9)
      rw [FR.upd_same]
      exact ⟨a5, c5, by rw [em], by rw [← em]; exact hown⟩
    refine FR.frGo_nil _ ?_
    intro S ρ w5 hI hS
    have z6 := hS 6 (by decide) (by kernel_rfl)
    have z9 := hS 9 (by decide) (by kernel_rfl)
    obtain ⟨a5, c5, e9, hown5⟩ : IsOwn w4.heap.size (flatB es) w5 (ρ 9) := hI.done (by decide) (by simp [z6.1, z9.1])
    rw [e9] at hown5
    rw [z9.2] at e9
    rw [e9]
    have hb5 := HJB.out w5 hI.j
    have k5 : Keeps (fun k => blk a' = some k) w4 w5 := Keeps.of_below hb5
    obtain ⟨p1, p2, p3⟩ := HPUT.out w5 (.slice a5 (flatB es).length c5) es k5 (own_base hown5 t2) (.inr fun x hx => (own_blk hown5 x (by rw [ownBlock_slice] at hx; exact hx)).1)
    have HD9 := hid p3
    clear p3 hown5 k5 hI hS z6 z9 e9
    refine wpMix_rd rfl rfl (fun K hK => ?_)
    go_simp
    refine hK _ ?_
    clear hK K
    refine wpMix_act rfl rfl (fun K hK => ?_)
    go_simp
    refine hK _ _ ?_
    clear hK K
    (with_reducible refine wpMix_nil ?_)
    go_wp2_with (first | (refine wpList_load_row rfl 53 (.tmp 9) rfl w1.heap.size rfl 53 _ (0, 0) _ HD9.out.cur Try.underlying53 rfl (by kernel_rfl) ?_) | (refine wpList_store_row rfl 53 (.tmp 8) (.tmp 47) rfl (w.heap.size + 1) _ rfl rfl 53 zSt HD9.out.res (by kernel_rfl) rfl (DoI.one _ _) ?_))
    have hD := HD9.out.done (by omega) (by omega)
    rw [HDO.out]
    refine bodyPost_ret (results_cell_row rfl _ _ (w.heap.size + 1) 53 _ (0, 0) _ rfl (setRow_heap _ _ _ _ _ _ HD9.out.res) Try.underlying53 rfl (by kernel_rfl)) rfl ⟨_, ?_, hD⟩
    simp
  · have hc3 : (2 : Int) < (c : Int) := by omega
    have HRS := hid (show Rd w4 (some ⟨rb, ro + 2, none⟩) (ints (flatB es)) from rd_drop2 HRL.out)
    go_wp2_with fail
    refine FR.wp_region_free 10 (ChI [6, 9] (flR w4 es) J) (by kernel_rfl) (by kernel_rfl) (by kernel_rfl) (fun _ => undef) (ChI.start hJ0 trivial) fun V => ?_
    (refine FR.frGo_pure _ rfl (fun K hK => ?_); go_simp; (first | refine hK _ ?_ | refine ⟨_, fun W hW => rfl, hK _ ?_⟩ | refine ⟨_, fun W hW => ⟨rfl, rfl⟩, hK _ ?_⟩); clear hK K)
    (refine FR.frGo_held _ rfl J (fun S ρ w' h _ => HJI.out S ρ w' h) (fun K hK => ?_); go_simp; apply Exists.intro; refine And.intro (fun W hW => ?_) (hK _ ?_); (focus (have hcs := HC.out W hW; go_simp; try rfl)); clear hK K)
    (refine FR.frGo_pure _ rfl (fun K hK => ?_); go_simp; (first | refine hK _ ?_ | refine ⟨_, fun W hW => rfl, hK _ ?_⟩ | refine ⟨_, fun W hW => ⟨rfl, rfl⟩, hK _ ?_⟩); clear hK K)
    (refine FR.frGo_pure _ rfl (fun K hK => ?_); go_simp; (first | refine hK _ ?_ | refine ⟨_, fun W hW => rfl, hK _ ?_⟩ | refine ⟨_, fun W hW => ⟨rfl, rfl⟩, hK _ ?_⟩); clear hK K)
    (refine FR.frGo_pure _ rfl (fun K hK => ?_); go_simp; (first | refine hK _ ?_ | refine ⟨_, fun W hW => rfl, hK _ ?_⟩ | refine ⟨_, fun W hW => ⟨rfl, rfl⟩, hK _ ?_⟩); clear hK K)
    (refine FR.frGo_pure _ rfl (fun K hK => ?_); go_simp; (first | refine hK _ ?_ | refine ⟨_, fun W hW => rfl, hK _ ?_⟩ | refine ⟨_, fun W hW => ⟨rfl, rfl⟩, hK _ ?_⟩); clear hK K)
    refine FR.frGo_act (k := 6) _ rfl (fun S ρ w' hI hS hp K hK => ?_) ?_
    · go_simp
      have hb := HJB.out w' hI.j
      refine hK _ _ (hI.next (i := 0) (by decide) rfl hS (by simp) (HJ.out _ (hb.alloc hb.size _)) ?_)
      show IsLit w4 _ 3 (FR.upd ρ 6 _ 6)
      rw [FR.upd_same]
      exact IsLit.new w4 w' _ hb.size
    (refine FR.frGo_pure _ rfl (fun K hK => ?_); go_simp; (first | refine hK _ ?_ | refine ⟨_, fun W hW => rfl, hK _ ?_⟩ | refine ⟨_, fun W hW => ⟨rfl, rfl⟩, hK _ ?_⟩); clear hK K)
    (refine FR.frGo_pure _ rfl (fun K hK => ?_); go_simp; (first | refine hK _ ?_ | refine ⟨_, fun W hW => rfl, hK _ ?_⟩ | refine ⟨_, fun W hW => ⟨rfl, rfl⟩, hK _ ?_⟩); clear hK K)
    refine FR.frGo_act (k := 9) _ rfl (fun S ρ w' hI hS hp K hK => ?_) ?_
    · have hp6 := hp 6 (by kernel_rfl)
      have hb := HJB.out w' hI.j
      have q6 : IsLit w4 w' 3 (ρ 6) := hI.at (i := 1) (by decide) rfl hS (by simpa using hp6.1)
      rw [hp6.2] at q6
      refine oper_append_lit w4 _ _ 24 rfl 3 (.int .i64 0) 1 8 Try.underlying24 Try.info_int rfl (by decide) (V 6) rfl q6 (some ⟨rb, ro + 2, none⟩) ((l + 1) * 2 - 2) _ (ints (flatB es)) rfl (HRS.out.below hb) (by rw [List.length_map]; exact HLB.out.trans (by omega)) (ints_one _ _) (by omega) (by decide) ?_
      intro a5 c5 w'' hown hb2 hat
      have em : ((l + 1) * 2 - 2) = (flatB es).length := by have := HLB.out; omega
      refine hK _ _ (hI.next (i := 1) (by decide) rfl hS (by simpa using hp6.1) (HJ.out _ (hb.trans (hb2.mono hb.size))) ?_)
      show IsOwn w4.heap.size (flatB es) _ (FR.upd ρ 9 _ 9)
      rw [FR.upd_same]
      exact ⟨a5, c5, by rw [em], by rw [← em]; exact hown⟩
    refine FR.frGo_nil _ ?_
    intro S ρ w5 hI hS
    have z6 := hS 6 (by decide) (by kernel_rfl)
    have z9 := hS 9 (by decide) (by kernel_rfl)
    obtain ⟨a5, c5, e9, hown5⟩ : IsOwn w4.heap.size (flatB es) w5 (ρ 9) := hI.done (by decide) (by simp [z6.1, z9.1])
    rw [e9] at hown5
    rw [z9.2] at e9
    rw [e9]
    have hb5 := HJB.out w5 hI.j
    have k5 : Keeps (fun k => blk a' = some k) w4 w5 := Keeps.of_below hb5
    obtain ⟨p1, p2, p3⟩ := HPUT.out w5 (.slice a5 (flatB es).length c5) es k5 (own_base hown5 t2) (.inr fun x hx => (own_blk hown5 x (by rw [ownBlock_slice] at hx; exact hx)).1)
    have HD9 := hid p3
    clear p3 hown5 k5 hI hS z6 z9 e9
    refine wpMix_rd rfl rfl (fun K hK => ?_)
    go_simp
    refine hK _ ?_
    clear hK K
    refine wpMix_act rfl rfl (fun K hK => ?_)
    go_simp
    refine hK _ _ ?_
    clear hK K
    (with_reducible refine wpMix_nil ?_)
    go_wp2_with (first | (refine wpList_load_row rfl 53 (.tmp 9) rfl w1.heap.size rfl 53 _ (0, 0) _ HD9.out.cur Try.underlying53 rfl (by kernel_rfl) ?_) | (refine wpList_store_row rfl 53 (.tmp 8) (.tmp 47) rfl (w.heap.size + 1) _ rfl rfl 53 zSt HD9.out.res (by kernel_rfl) rfl (DoI.one _ _) ?_))
    have hD := HD9.out.done (by omega) (by omega)
    rw [HDO.out]
    refine bodyPost_ret (results_cell_row rfl _ _ (w.heap.size + 1) 53 _ (0, 0) _ rfl (setRow_heap _ _ _ _ _ _ HD9.out.res) Try.underlying53 rfl (by kernel_rfl)) rfl ⟨_, ?_, hD⟩
    simp
end Go.Proofs.Ytloghcfkjcbjlaa
