/-
  PROVED HERE: plain facts on the rows of a state in the middle of a step. what spec.l5Do does. CONDITIONS: as each theorem states.
-/
import Derived.Test.YthlmfjoiicnomaaVi
import Derived.Test.YthlmfjoiicnomaaVc
import Derived.Test.YthlmfjoiicnomaaVq
namespace Go.Proofs.Ythlmfjoiicnomaa
open Go.RowKit
set_option linter.unusedVariables false
set_option linter.unusedSimpArgs false

theorem up5_ct {s : Vs} {t j : Nat} (hj : s.st.pc[t]? = some (j : Int)) : CtEq ((ct s).setX (0, 0) (s.st.pc.set t ((j : Int) + 1))) (ct (up5 s t)) := by
  refine ⟨rfl, rfl, fun l hl => rfl, fun ix hx => ?_, fun l k hl hk => ⟨rfl, rfl⟩⟩
  by_cases h : ix = (0, 0)
  · subst h
    rw [setX_get]
    show s.st.pc.set t (s.st.pc.getD t 0 + 1) = _
    rw [List.getD_eq_getElem?_getD, hj]
    rfl
  · rw [setX_ne _ _ _ h]
    match ix, h with
    | (0, 0), h => exact absurd rfl h
    | (0, b + 1), _ => rfl
    | (1, b), _ => rfl
    | (a + 2, b), _ => rfl
theorem read5_ct {s : Vs} {t r i : Nat} {m : Ms} (hi : i = t * 3 + r) (ht : t < s.view.length) : CtEq (((ct s).setX (0, 1) (s.st.regs.set i m.val)).setX (1, t) (join5 (vw s t) m.view)) (ct (read5 s t r m)) := by
  subst hi
  refine ⟨by show (s.view.set t _).length = s.view.length; simp, rfl, fun l hl => rfl, fun ix hx => ?_, fun l k hl hk => ⟨rfl, rfl⟩⟩
  by_cases h : ix = (1, t)
  · subst h
    rw [setX_get]
    show vw (read5 s t r m) t = _
    refine vw_of ?_
    show (s.view.set t _)[t]? = _
    rw [List.getElem?_set_self ht]
  · rw [setX_ne _ _ _ h]
    by_cases h' : ix = (0, 1)
    · subst h'
      rw [setX_get]
      rfl
    · rw [setX_ne _ _ _ h']
      match ix, h, h', hx with
      | (0, 0), _, _, _ => rfl
      | (0, 1), _, h', _ => exact absurd rfl h'
      | (0, b + 2), _, _, hx =>
        rcases hx with ⟨_, h2⟩ | ⟨h1, _⟩ | ⟨h1, _⟩
        · exact absurd h2 (by simp)
        · exact absurd h1 (by simp)
        · exact absurd h1 (by simp)
      | (1, b), h, _, _ =>
        have hb : t ≠ b := fun e => h (by rw [e])
        show vw (read5 s t r m) b = vw s b
        unfold vw
        show (s.view.set t _).getD b [] = _
        rw [List.getD_eq_getElem?_getD, List.getElem?_set_ne hb, List.getD_eq_getElem?_getD]
      | (a + 2, b), _, _, _ => rfl
theorem lock5_get {s : Vs} {l k : Nat} (hl : l < s.list.length) (hk : k < (row5 s l).length) (l' k' : Nat) : (row5 (lock5 s l k) l').getD k' msZ = if l' = l ∧ k' = k then { (row5 s l).getD k msZ with lock := true } else (row5 s l').getD k' msZ := by
  unfold lock5
  rw [row5_set hl]
  by_cases e : l = l'
  · subst e
    rw [if_pos rfl]
    by_cases e' : k' = k
    · subst e'
      rw [if_pos ⟨rfl, rfl⟩, List.getD_eq_getElem?_getD, List.getElem?_set_self hk]
      rfl
    · rw [if_neg (fun h => e' h.2), List.getD_eq_getElem?_getD, List.getElem?_set_ne (fun h => e' h.symm), List.getD_eq_getElem?_getD]
  · rw [if_neg e, if_neg (fun h => e h.1.symm)]
theorem lock5_row {s : Vs} {l k : Nat} (hl : l < s.list.length) (l' : Nat) : (row5 (lock5 s l k) l').length = (row5 s l').length := by
  unfold lock5
  rw [row5_set hl]
  split
  · rename_i e
    subst e
    rw [List.length_set]
  · rfl
theorem lock5_ct {s : Vs} {l k : Nat} (hl : l < s.list.length) (hk : k < (row5 s l).length) : CtEq ((ct s).setLK l k) (ct (lock5 s l k)) := by
  refine ⟨rfl, by show (s.list.set l _).length = s.list.length; simp, fun l' hl' => lock5_row hl l', fun ix hx => ?_, fun l' k' hl' hk' => ⟨?_, ?_⟩⟩
  · match ix, hx with
    | (0, 0), _ => rfl
    | (0, b + 1), _ => rfl
    | (1, b), _ => rfl
    | (a + 2, b), _ =>
      show ((row5 (lock5 s l k) a).getD b msZ).view = ((row5 s a).getD b msZ).view
      rw [lock5_get hl hk]
      split
      · rename_i e
        rw [e.1, e.2]
      · rfl
  · show ((row5 (lock5 s l k) l').getD k' msZ).val = ((row5 s l').getD k' msZ).val
    rw [lock5_get hl hk]
    split
    · rename_i e
      rw [e.1, e.2]
    · rfl
  · show ((row5 (lock5 s l k) l').getD k' msZ).lock = if l' = l ∧ k' = k then true else ((row5 s l').getD k' msZ).lock
    rw [lock5_get hl hk]
    split
    · rfl
    · rfl
theorem VwOk.at' {s : Vs} {v : List Int} (h : VwOk s v) {l : Nat} (hl : l < 3) (hr : (row5 s l).length ≤ 1000) : ∃ x, v[l]? = some x ∧ 0 ≤ x ∧ x ≤ 1000 := by
  obtain ⟨k, h1, h2⟩ := h.2 l hl
  exact ⟨k, h1, by omega, by omega⟩
theorem Pre5.insOk {p : Prg} {s : Vs} {loc k t : Nat} (h : Pre5 p s loc k) (hv : Shape p) (ht : t < p.length) (hl : loc < 3) (hk : k ≤ (row5 s loc).length) : InsOk s t loc k := by
  have hrow : ∀ l, l < 3 → s.list[l]? = some (row5 s l) := fun l hl3 => by
    have : l < s.list.length := by rw [h.ll]; exact hl3
    rw [List.getElem?_eq_getElem this, row5_of (List.getElem?_eq_getElem this)]
  have hlen : ∀ l, l < 3 → (row5 s l).length ≤ 24 := fun l hl3 => by
    have h1 := sum_mem_le (List.mem_map.2 ⟨_, List.mem_of_getElem? (hrow l hl3), rfl⟩ : (row5 s l).length ∈ s.list.map List.length)
    have h2 := h.cnt
    have h3 := pcsum_le h.good hv
    omega
  refine ⟨h.ll, by rw [h.vl]; exact ht, by rw [h.vl]; exact hv.len, hl, hk, fun l hl3 => ⟨(h.lst l hl3).1, by have := hlen l hl3; omega⟩, fun i hi => ?_, fun l j hl3 hj => ?_⟩
  · refine VwOk.at' (h.vok _ ?_) hl (by have := hlen loc hl; omega)
    rw [vw_of (List.getElem?_eq_getElem hi)]
    exact List.getElem_mem _
  · refine VwOk.at' (h.mok _ (List.mem_of_getElem? (hrow l hl3)) _ ?_).2 hl (by have := hlen loc hl; omega)
    rw [List.getD_eq_getElem?_getD, List.getElem?_eq_getElem hj]
    exact List.getElem_mem _
end Go.Proofs.Ythlmfjoiicnomaa
namespace Go.Proofs.Ythlmfjoiicnomaa
open Go.RowKit
set_option linter.unusedVariables false
set_option linter.unusedSimpArgs false

/-- The rows that the state's owner may turn. -/
def OwS5 (q : Sp) (y : Ly) (c : Ct) (b : Nat) : Prop := (∃ ix, c.dom ix ∧ blk (y.I ix).1 = some b) ∨ blk q.a3 = some b ∨ ∃ l, l < c.nl ∧ blk (y.L l).1 = some b
abbrev Blk5 := Nat × Array Value × TypeId
/-- In the middle of a step: the copy is the call's own; the blocks of hs hold what they did. -/
structure DoV (w wk : World) (hs : List Blk5) (q : Sp) (y : Ly) (c : Ct) : Prop where
  own : OwC wk (w.heap.size + 2) q y c 3
  below : Below w.heap.size w wk
  bl : ∀ e ∈ hs, wk.heap[e.1]? = some (.cells e.2.1 e.2.2 (0, 0)) ∧ e.2.2 ≠ 3 ∧ e.2.2 ≠ 118 ∧ e.2.2 ≠ 117
section
variable {w wk wk' : World} {hs : List Blk5} {q : Sp} {y : Ly} {c c' : Ct}
theorem DoV.later (h : DoV w wk hs q y c) (hb : Below wk.heap.size wk wk') : DoV w wk' hs q y c :=
  ⟨h.own.below hb, h.below.trans (hb.mono h.below.size), fun e he => ⟨(hb.block _ (Array.getElem?_eq_some_iff.1 (h.bl e he).1).1).trans (h.bl e he).1, (h.bl e he).2⟩⟩
theorem DoV.b0 {e : Blk5} (h : DoV w wk (e :: hs) q y c) : wk.heap[e.1]? = some (.cells e.2.1 e.2.2 (0, 0)) := (h.bl e List.mem_cons_self).1
theorem DoV.b1 {e0 e : Blk5} (h : DoV w wk (e0 :: e :: hs) q y c) : wk.heap[e.1]? = some (.cells e.2.1 e.2.2 (0, 0)) := (h.bl e (.tail _ (.head _))).1
theorem DoV.b2 {e0 e1 e : Blk5} (h : DoV w wk (e0 :: e1 :: e :: hs) q y c) : wk.heap[e.1]? = some (.cells e.2.1 e.2.2 (0, 0)) := (h.bl e (.tail _ (.tail _ (.head _)))).1
theorem DoV.b3 {e0 e1 e2 e : Blk5} (h : DoV w wk (e0 :: e1 :: e2 :: e :: hs) q y c) : wk.heap[e.1]? = some (.cells e.2.1 e.2.2 (0, 0)) := (h.bl e (.tail _ (.tail _ (.tail _ (.head _))))).1
theorem DoV.drew (h : DoV w wk hs q y c) : DoV w wk.drew hs q y c := h.later (below_drewN 1 (Below.refl _ _))
theorem DoV.notS (h : DoV w wk hs q y c) {e : Blk5} (he : e ∈ hs) : ¬ OwS5 q y c e.1 := by
  obtain ⟨h1, h2, h3, h4⟩ := h.bl e he
  obtain ⟨k1, _, k3, k4⟩ := h.own.kind h1
  rintro (⟨ix, hx, e'⟩ | e' | ⟨l, hl, e'⟩)
  · exact k1 h2 ix hx e'
  · exact k3 h3 e'
  · exact k4 h4 l hl e'
theorem OwS5.ge (h : DoV w wk hs q y c) {b : Nat} (hb : OwS5 q y c b) : w.heap.size ≤ b := by
  rcases hb with ⟨ix, hx, e⟩ | e | ⟨l, hl, e⟩
  · have := (own_blk (h.own.int ix hx) b e).1; omega
  · have := (own_blk h.own.lo b e).1; omega
  · have := (own_blk (h.own.row l hl) b e).1; omega
theorem DoV.turn (h : DoV w wk hs q y c) (hk : Keeps (OwS5 q y c) wk wk') (ho : OwC wk' (w.heap.size + 2) q y c' 3) : DoV w wk' hs q y c' :=
  ⟨ho, Proofs.Ythlmfjoiicnomaa.Below.keeps h.below hk h.below.size (fun b hb => OwS5.ge h hb), fun e he => ⟨(hk.block _ (Array.getElem?_eq_some_iff.1 (h.bl e he).1).1 (h.notS he)).trans (h.bl e he).1, (h.bl e he).2⟩⟩
theorem DoV.set (h : DoV w wk hs q y c) {ix : Ix} (hx : c.dom ix) {g : Nat} (hg : (y.I ix).1 = some ⟨g, 0, none⟩) (j : Nat) (v : Int) : DoV w (wk.setCell ⟨g, j, none⟩ (.int .i64 v)) hs q y (c.setX ix ((c.X ix).set j v)) :=
  h.turn ((Keeps.setCell wk ⟨g, j, none⟩ _).mono fun b (e : b = g) => .inl ⟨ix, hx, by rw [hg, e]; rfl⟩) (h.own.set hx hg j v)
theorem DoV.lock (h : DoV w wk hs q y c) {l k : Nat} (hl : l < c.nl) (hk : k < c.N l) {g : Nat} (hg : (y.L l).1 = some ⟨g, 0, none⟩) : DoV w (wk.setCell ⟨g, k * 3 + 1, none⟩ (.bool true)) hs q y (c.setLK l k) :=
  h.turn ((Keeps.setCell wk ⟨g, k * 3 + 1, none⟩ _).mono fun b (e : b = g) => .inr (.inr ⟨l, hl, by rw [hg, e]; rfl⟩)) (h.own.lock hl hk hg)
theorem DoV.congr (h : DoV w wk hs q y c) (e : CtEq c c') : DoV w wk hs q y c' := ⟨h.own.congr e, h.below, h.bl⟩
theorem DoV.add (h : DoV w wk hs q y c) {b : Nat} {cs : Array Value} {T : TypeId} (hb : wk.heap[b]? = some (.cells cs T (0, 0))) (h1 : T ≠ 3) (h2 : T ≠ 118) (h3 : T ≠ 117) : DoV w wk (hs ++ [(b, cs, T)]) q y c :=
  ⟨h.own, h.below, fun e he => by
    rcases List.mem_append.1 he with he | he
    · exact h.bl e he
    · rw [List.mem_singleton] at he
      subst he
      exact ⟨hb, h1, h2, h3⟩⟩
theorem InS.own {q : Sp} {y : Ly} {c : Ct} {b : Nat} (h : InS q y c b) : OwS5 q y c b := by
  rcases h with h | h
  · exact .inl h
  · exact .inr (.inl h)
theorem DoV.after (h : DoV w wk hs q y c) (hk : Keeps (InS q y c) wk wk') : Below w.heap.size w wk' ∧ ∀ e ∈ hs, wk'.heap[e.1]? = some (.cells e.2.1 e.2.2 (0, 0)) :=
  ⟨Proofs.Ythlmfjoiicnomaa.Below.keeps h.below hk h.below.size (fun b hb => OwS5.ge h hb.own), fun e he => (hk.block _ (Array.getElem?_eq_some_iff.1 (h.bl e he).1).1 (fun hb => h.notS he hb.own)).trans (h.bl e he).1⟩
theorem fin5 (h : FrC wk (w.heap.size + 2) q c) (hb : Below w.heap.size w wk) (cs : Array Value) : FrC (wk.setRow (w.heap.size + 1) cs) w.heap.size q c ∧ Below w.heap.size w (wk.setRow (w.heap.size + 1) cs) :=
  ⟨(h.keeps (keeps_setRow wk _ cs) (fun b hb e => by omega)).down (by omega), Proofs.Ythlmfjoiicnomaa.Below.keeps hb (keeps_setRow wk _ cs) hb.size (fun x e => by omega)⟩
end
set_option maxRecDepth 100000 in
set_option maxHeartbeats 6400000 in
theorem l5Do_c (w : World) (a : Option Addr) (cap : Nat) (p : Prg) (q : Sp) (s : Vs) (t k : Nat) (hp : RdP w a p) (h : RdV w q s) (hv : Shape p) (hg : Good5 p s) (hc : can5 p s t k = true) :
    Calls Try.prog 63 #[.slice a p.length cap, q.v5 s, .int .i64 t, .int .i64 k] w fun e w' => ∃ q' : Sp, e = .returned (q'.v5 (do5 p s t k)) ∧ FrC w' w.heap.size q' (ct (do5 p s t k)) ∧ Below w.heap.size w w' := by
  obtain ⟨y0, h⟩ := h
  obtain ⟨xs, j, x, ln, rn, hxs, hj, hx, hiv, hnx, hj7, htp, hln, hl3, hrn, hr3, hgo, hft⟩ := hg.next hv hc
  obtain ⟨hk1, hk2, hk3, hk4⟩ := fits_lt hg hln hl3 hft
  have HCOPY := hid (fun w' (hb : Below w.heap.size w w') => l5Copy_c w' q y0 s (h.below hb) (by rw [hg.good.pcl]; have := hv.len; omega) (by rw [hg.good.regl]; have := hv.len; omega) (by rw [hg.vl]; have := hv.len; omega) hg.ll (fun l hl => by have := hg.rowlen hv hl; omega))
  obtain ⟨n, hn⟩ : ∃ n, n = p.length := ⟨_, rfl⟩
  have HN := hid hn
  have hn3 : n ≤ 3 := by rw [hn]; exact hv.len
  obtain ⟨sb, so, j', hsa, hsl, hj', hjl, hsc⟩ := h.pcAt hg.good hxs
  obtain rfl : j = j' := by rw [hj] at hj'; have := Option.some.inj hj'; omega
  obtain ⟨pb, po, rb, ro, rc, hpa, hpl', hrl, hpc, hins⟩ := hp.ins5At hxs hx
  have HDO := hid (show do5 p s t k = do5x s t x k (wval s.st t x) from by unfold do5; rw [hnx])
  obtain ⟨wv, hwv⟩ : ∃ wv, wv = wval s.st t x := ⟨_, rfl⟩
  rw [← hwv] at HDO
  have HG := hid hg
  have HCAN := hid hc
  have HV := hid hv
  have HS := hid h
  obtain ⟨a0, c0, a1, c1, a2, c2, a3, c3⟩ := q
  have hsa : a0 = some ⟨sb, so, none⟩ := hsa
  subst hsa
  subst hpa
  have hvl : s.view.length = n := by rw [hn]; exact hg.vl
  have hll := hg.ll
  have hpl : s.st.pc.length = n := by rw [hn]; exact hg.good.pcl
  unfold Sp.v5 Sp.hd5 at HCOPY ⊢
  dsimp only at HCOPY ⊢
  rw [hvl, hll, hpl] at HCOPY
  rw [← hn, hpl, hvl, hll]
  have HLS := hid (And.intro hvl (And.intro hll hpl))
  obtain ⟨n1, hn1⟩ : ∃ n1, n1 = s.st.regs.length := ⟨_, rfl⟩
  rw [← hn1] at HCOPY ⊢
  have HN1 := hid hn1
  obtain ⟨z, hz⟩ : ∃ z, z = xs.length := ⟨_, rfl⟩
  have hjz : j < z := by rw [hz]; exact (List.getElem?_eq_some_iff.1 hx).1
  rw [← hz] at hpc
  have HPC := hid (show w.cell? ⟨pb, po + t, none⟩ = some (.slice (some ⟨rb, ro, none⟩) z rc) ∧ pb < w.heap.size from ⟨hpc, hpl'⟩)
  have HSC := hid (And.intro hsc hsl)
  have HINS := hid (And.intro hins hrl)
  have htn : t < n := by rw [hn]; exact htp
  have HX := hid (And.intro hxs (And.intro hj hx))
  obtain ⟨op, loc, reg, val⟩ := x
  have hln : loc = (ln : Int) := hln
  subst hln
  have hrn : reg = (rn : Int) := hrn
  subst hrn
  have hop := valid_op hiv
  have hop : 1 ≤ op ∧ op ≤ 5 := hop
  have HK := hid (And.intro hk1 (And.intro hk2 (And.intro hk3 hk4)))
  have HIV := hid hiv
  clear hk1 hk2 hk3 hk4 hiv
  obtain ⟨w1, hw1⟩ : ∃ w1, w1 = (w.alloc (.cells #[.slice (some ⟨sb, so, none⟩) n c0, .slice a1 n1 c1, .slice a2 n c2, .slice a3 3 c3] 59)).alloc (.cells zSt 59) := ⟨_, rfl⟩
  have hs1 : w1.heap.size = w.heap.size + 2 := by rw [hw1]; simp
  have hb1 : Below w.heap.size w w1 := by rw [hw1]; exact ((Below.refl _ _).alloc (Nat.le_refl _) _).alloc (by simp) _
  have hbox : w1.heap[w.heap.size]? = some (.cells #[.slice (some ⟨sb, so, none⟩) n c0, .slice a1 n1 c1, .slice a2 n c2, .slice a3 3 c3] 59 (0, 0)) := by
    rw [hw1, heap_alloc_old _ _ (by simp)]
    exact heap_alloc_new w _
  have hres : w1.heap[w.heap.size + 1]? = some (.cells zSt 59 (0, 0)) := by
    rw [hw1]
    have := heap_alloc_new (w.alloc (.cells #[.slice (some ⟨sb, so, none⟩) n c0, .slice a1 n1 c1, .slice a2 n c2, .slice a3 3 c3] 59)) (.cells zSt 59)
    simpa using this
  have x0 := cell_of_row w1 w.heap.size 0 _ _ _ hbox
  have x1 := cell_of_row w1 w.heap.size 1 _ _ _ hbox
  have x2 := cell_of_row w1 w.heap.size 2 _ _ _ hbox
  have x3 := cell_of_row w1 w.heap.size 3 _ _ _ hbox
  have HB1 := hid hb1
  have HBR := hid (And.intro hbox hres)
  rw [hw1] at x0 x1 x2 x3
  have HW1 := hid hw1
  clear hb1 hbox hres hw1 hp h hv hg hc hxs hj hx hnx hgo hft hn hj' hjl hsc hsl hins hpc hpl' hrl hvl hll hpl hn1 hz htp
  go_enter Try.func63, Try.ntmps63
  go_wp2_with fail
  refine (HCOPY.out _ (by rw [← HW1.out]; exact HB1.out)).mono ?_
  rw [← HW1.out]
  rintro e w2 ⟨⟨e0, f0, e1, f1, e2, f2, e3, f3⟩, y, rfl, how, hb2⟩
  obtain ⟨g0, hg0, _, _⟩ := how.iaddr (dom0 _) (by show 0 < s.st.pc.length; rw [HLS.out.2.2]; omega)
  obtain ⟨g1, hg1, _, _⟩ := how.iaddr (dom1 _) (by show 0 < s.st.regs.length; have := HG.out.good.regl; have := HN.out; omega)
  obtain ⟨lb, hlb, _, _⟩ := how.laddr (by decide)
  have hh0 := hg0
  rw [how.h0] at hh0
  have hh0 : e0 = some ⟨g0, 0, none⟩ := hh0
  subst hh0
  have hh1 := hg1
  rw [how.h1] at hh1
  have hh1 : e1 = some ⟨g1, 0, none⟩ := hh1
  subst hh1
  have hlb : e3 = some ⟨lb, 0, none⟩ := hlb
  subst hlb
  have HY := hid (And.intro hg0 hg1)
  clear hg0 hg1
  dsimp only
  clear x0 x1 x2 x3
  obtain ⟨w3, hw3⟩ : ∃ w3, w3 = w2.alloc (.cells #[.slice (some ⟨g0, 0, none⟩) n f0, .slice (some ⟨g1, 0, none⟩) n1 f1, .slice e2 n f2, .slice (some ⟨lb, 0, none⟩) 3 f3] 59) := ⟨_, rfl⟩
  have hb3 : Below w2.heap.size w2 w3 := by rw [hw3]; exact (Below.refl _ _).alloc (Nat.le_refl _) _
  have hD3 : DoV w w3 [(w.heap.size, #[.slice (some ⟨sb, so, none⟩) n c0, .slice a1 n1 c1, .slice a2 n c2, .slice a3 3 c3], 59), (w.heap.size + 1, zSt, 59), (w2.heap.size, #[.slice (some ⟨g0, 0, none⟩) n f0, .slice (some ⟨g1, 0, none⟩) n1 f1, .slice e2 n f2, .slice (some ⟨lb, 0, none⟩) 3 f3], 59)] ⟨some ⟨g0, 0, none⟩, f0, some ⟨g1, 0, none⟩, f1, e2, f2, some ⟨lb, 0, none⟩, f3⟩ y (ct s) := by
    have hz2 := hb2.size
    refine ⟨by rw [← hs1]; exact how.below hb3, (HB1.out.trans (hb2.mono (by omega))).trans (hb3.mono (by omega)), fun e he => ?_⟩
    simp only [List.mem_cons, List.mem_nil_iff, or_false] at he
    rcases he with rfl | rfl | rfl
    · exact ⟨((hb3.block _ (by show w.heap.size < _; omega)).trans (hb2.block _ (by show w.heap.size < _; omega))).trans HBR.out.1, by show 59 ≠ _; decide, by show 59 ≠ _; decide, by show 59 ≠ _; decide⟩
    · exact ⟨((hb3.block _ (by show w.heap.size + 1 < _; omega)).trans (hb2.block _ (by show w.heap.size + 1 < _; omega))).trans HBR.out.2, by show 59 ≠ _; decide, by show 59 ≠ _; decide, by show 59 ≠ _; decide⟩
    · exact ⟨by show w3.heap[w2.heap.size]? = _; rw [hw3]; exact heap_alloc_new w2 _, by show 59 ≠ _; decide, by show 59 ≠ _; decide, by show 59 ≠ _; decide⟩
  have HD3 := hid hD3
  have hs3 : w3.heap.size = w2.heap.size + 1 := by rw [hw3]; simp
  have hz12 := hb2.size
  clear hD3 how hb2 hb3
  go_wp2_with fail
  rw [← hw3]
  clear hw3
  -- the instruction is read
  have HALL := hid (fun w' (h : Below w3.heap.size w3 w') => show w'.cell? ⟨w.heap.size, 0, none⟩ = some (.slice (some ⟨sb, so, none⟩) n c0) ∧ w'.cell? ⟨pb, po + t, none⟩ = some (.slice (some ⟨rb, ro, none⟩) z rc) ∧ w'.cell? ⟨sb, so + t, none⟩ = some (.int .i64 j) ∧ (w'.cell? ⟨rb, ro + j * 4, none⟩ = some (.int .i64 op) ∧ w'.cell? ⟨rb, ro + j * 4 + 1, none⟩ = some (.int .i64 ln) ∧ w'.cell? ⟨rb, ro + j * 4 + 2, none⟩ = some (.int .i64 rn) ∧ w'.cell? ⟨rb, ro + j * 4 + 3, none⟩ = some (.int .i64 val)) from by
    have hD := HD3.out.later h
    have hb : Below w.heap.size w w' := hD.below
    exact ⟨cell_of_row w' w.heap.size 0 _ _ _ hD.b0, (hb.cell (p := ⟨pb, po + t, none⟩) HPC.out.2).trans HPC.out.1, (hb.cell (p := ⟨sb, so + t, none⟩) HSC.out.2).trans HSC.out.1, HINS.out.1.below hb HINS.out.2⟩)
  obtain ⟨J, hJ⟩ : ∃ J : World → Prop, J = fun w' => Below w3.heap.size w3 w' := ⟨_, rfl⟩
  have HJ := hid (fun w' (h : Below w3.heap.size w3 w') => show J w' by rw [hJ]; exact h)
  have HC := hid (fun w' (h : J w') => show w'.cell? ⟨w.heap.size, 0, none⟩ = some (.slice (some ⟨sb, so, none⟩) n c0) ∧ w'.cell? ⟨pb, po + t, none⟩ = some (.slice (some ⟨rb, ro, none⟩) z rc) ∧ w'.cell? ⟨sb, so + t, none⟩ = some (.int .i64 j) ∧ (w'.cell? ⟨rb, ro + j * 4, none⟩ = some (.int .i64 op) ∧ w'.cell? ⟨rb, ro + j * 4 + 1, none⟩ = some (.int .i64 ln) ∧ w'.cell? ⟨rb, ro + j * 4 + 2, none⟩ = some (.int .i64 rn) ∧ w'.cell? ⟨rb, ro + j * 4 + 3, none⟩ = some (.int .i64 val)) from by rw [hJ] at h; exact HALL.out w' h)
  clear hJ
  have hJ0 : J w3.drew := HJ.out _ (below_drewN 1 (Below.refl _ _))
  have hJ1 : J ((w3.alloc (.cells #[.int .i64 0, .int .i64 0, .int .i64 0, .int .i64 0] 70)).drew) := HJ.out _ (below_drewN 1 ((Below.refl _ _).alloc (Nat.le_refl _) _))
  refine MJ.wp_region_mix (J := J) (by kernel_rfl) (by kernel_rfl) ?_
  repeat (first | (refine MJ.wpMix_pure rfl rfl (fun K hK => ?_); go_simp; (first | refine hK _ ?_ | refine ⟨_, fun W hW => rfl, hK _ ?_⟩ | refine ⟨_, fun W hW => ⟨rfl, rfl⟩, hK _ ?_⟩); clear hK K) | (refine MJ.wpMix_held rfl rfl (by assumption) (fun K hK => ?_); go_simp; apply Exists.intro; refine And.intro (fun W hW => ?_) (hK _ ?_); (focus (have hcs := HC.out W hW; go_simp; try rfl)); clear hK K))
  (with_reducible refine MJ.wpMix_make rfl rfl (fun K hK => ?_); go_simp)
  refine hK _ _ (by assumption) ?_
  clear hK K
  (with_reducible refine MJ.wpMix_act rfl rfl rfl (fun K hK => ?_); go_simp)
  refine hK _ _ ?_
  clear hK K
  refine MJ.wpMix_nil ?_
  have hb4 : Below w3.heap.size w3 (w3.alloc (.cells #[.int .i64 op, .int .i64 ln, .int .i64 rn, .int .i64 val] 70)).drew := below_drewN 1 ((Below.refl _ _).alloc (Nat.le_refl _) _)
  have hx4 : (w3.alloc (.cells #[.int .i64 op, .int .i64 ln, .int .i64 rn, .int .i64 val] 70)).drew.heap[w3.heap.size]? = some (.cells #[.int .i64 op, .int .i64 ln, .int .i64 rn, .int .i64 val] 70 (0, 0)) := heap_alloc_new w3 _
  have HD4 := hid ((HD3.out.later hb4).add hx4 (by decide) (by decide) (by decide))
  have HA4 := hid (HALL.out _ hb4)
  obtain ⟨w4, hw4⟩ : ∃ w4, w4 = (w3.alloc (.cells #[.int .i64 op, .int .i64 ln, .int .i64 rn, .int .i64 val] 70)).drew := ⟨_, rfl⟩
  rw [← hw4] at HD4 HA4 ⊢
  have hs4 : w4.heap.size = w2.heap.size + 2 := by rw [hw4]; simp [World.drew]; omega
  clear hb4 hx4 hw4 HJ HC hJ0 hJ1 HALL HD3
  -- 'out.at[t] = s.at[t] + 1'
  have x0 := cell_of_row w4 w.heap.size 0 _ _ _ HD4.out.b0
  have x1 := cell_of_row w4 w2.heap.size 0 _ _ _ HD4.out.b2
  have x2 := HA4.out.2.2.1
  obtain ⟨x3, x4⟩ := HD4.out.own.icell (dom0 _) HY.out.1 (j := t) (x := (j : Int)) HX.out.2.1
  go_wp2_with fail
  refine wp_region_mix (by kernel_rfl) (by kernel_rfl) ?_
  repeat (with_reducible refine wpMix_rd rfl rfl (fun K hK => ?_); go_simp; (try go_bits); refine hK _ ?_; clear hK K)
  (with_reducible refine wpMix_act (o := ⟨_, .store _ _ _, _, _, _, _⟩) rfl rfl (fun K hK => ?_))
  go_simp
  refine hK _ _ ?_
  clear hK K
  have HD5 := hid (((HD4.out.set (dom0 _) HY.out.1 t ((j : Int) + 1)).congr (up5_ct HX.out.2.1)).drew)
  obtain ⟨w5, hw5⟩ : ∃ w5, w5 = (w4.setCell ⟨g0, t, none⟩ (.int .i64 ((j : Int) + 1))).drew := ⟨_, rfl⟩
  rw [← hw5] at HD5 ⊢
  have hs5 : w5.heap.size = w2.heap.size + 2 := by rw [hw5]; simpa [World.setCell] using hs4
  (with_reducible refine wpMix_nil ?_)
  clear x0 x1 x2 x3 x4 HD4 HA4 hw5
  -- the five kinds of instruction
  have HQV := hid (show Sp.v5 ⟨some ⟨g0, 0, none⟩, f0, some ⟨g1, 0, none⟩, f1, e2, f2, some ⟨lb, 0, none⟩, f3⟩ (do5 p s t k) = .agg #[.slice (some ⟨g0, 0, none⟩) n f0, .slice (some ⟨g1, 0, none⟩) n1 f1, .slice e2 n f2, .slice (some ⟨lb, 0, none⟩) 3 f3] from by
    have hg' := HG.out.step HV.out HCAN.out
    have e1 := hg'.good.pcl
    have e2' : (do5 p s t k).st.regs.length = n1 := by have h1 := hg'.good.regl; have h2 := HG.out.good.regl; have h3 := HN1.out; omega
    have e3 := hg'.vl
    have e4 := hg'.ll
    unfold Sp.v5 Sp.hd5
    dsimp only
    rw [e1, e2', e3, e4, ← HN.out])
  have HONE := hid (show (#[.slice (some ⟨g0, 0, none⟩) n f0, .slice (some ⟨g1, 0, none⟩) n1 f1, .slice e2 n f2, .slice (some ⟨lb, 0, none⟩) 3 f3] : Array Value).all (·.oneCell') = true from by simp [Value.oneCell'])
  have HMID := hid (HG.out.up HX.out.1 HX.out.2.1 HX.out.2.2)
  have htp : t < p.length := by rw [← HN.out]; exact htn
  have HTP := hid htp
  have HUP := hid (show (up5 s t).st.pc.length = n ∧ (up5 s t).st.regs.length = n1 ∧ (up5 s t).view.length = n ∧ (up5 s t).list.length = 3 from
    ⟨by show (s.st.pc.set t _).length = n; rw [List.length_set]; exact HLS.out.2.2, HN1.out.symm, HLS.out.1, HLS.out.2.1⟩)
  have HIN := hid (fun (s' : Vs) (kk : Nat) (h1 : s'.st.pc.length = n) (h2 : s'.st.regs.length = n1) (h3 : s'.view.length = n) (h4 : s'.list.length = 3) wr (ho : OwC wr (w.heap.size + 2) ⟨some ⟨g0, 0, none⟩, f0, some ⟨g1, 0, none⟩, f1, e2, f2, some ⟨lb, 0, none⟩, f3⟩ y (ct s') 3) (hi : InsOk s' t ln kk) (hs : w.heap.size + 2 ≤ wr.heap.size) =>
    show Calls Try.prog 89 #[.agg #[.slice (some ⟨g0, 0, none⟩) n f0, .slice (some ⟨g1, 0, none⟩) n1 f1, .slice e2 n f2, .slice (some ⟨lb, 0, none⟩) 3 f3], .int .i64 t, .int .i64 ln, .int .i64 kk, .int .i64 wv] wr (fun e w' => e = .returned (.tuple #[]) ∧ FrC w' (w.heap.size + 2) ⟨some ⟨g0, 0, none⟩, f0, some ⟨g1, 0, none⟩, f1, e2, f2, some ⟨lb, 0, none⟩, f3⟩ (ct (ins5 s' t ln kk wv)) ∧ Keeps (InS ⟨some ⟨g0, 0, none⟩, f0, some ⟨g1, 0, none⟩, f1, e2, f2, some ⟨lb, 0, none⟩, f3⟩ y (ct s')) wr w') from by
      have := l5Insert_c wr (w.heap.size + 2) ⟨some ⟨g0, 0, none⟩, f0, some ⟨g1, 0, none⟩, f1, e2, f2, some ⟨lb, 0, none⟩, f3⟩ y s' t ln kk wv (by rw [show (ct s').nl = 3 from h4]; exact ho) hi hs
      unfold Sp.v5 Sp.hd5 at this
      rw [h1, h2, h3, h4] at this
      exact this)
  have HXC := hid (fun wk (h : wk.heap[w2.heap.size + 1]? = some (.cells #[.int .i64 op, .int .i64 ln, .int .i64 rn, .int .i64 val] 70 (0, 0))) => show wk.cell? ⟨w2.heap.size + 1, 0, none⟩ = some (.int .i64 op) ∧ wk.cell? ⟨w2.heap.size + 1, 1, none⟩ = some (.int .i64 ln) ∧ wk.cell? ⟨w2.heap.size + 1, 2, none⟩ = some (.int .i64 rn) ∧ wk.cell? ⟨w2.heap.size + 1, 3, none⟩ = some (.int .i64 val) from
    ⟨cell_of_row wk _ 0 _ _ _ h, cell_of_row wk _ 1 _ _ _ h, cell_of_row wk _ 2 _ _ _ h, cell_of_row wk _ 3 _ _ _ h⟩)
  rw [hs3] at HD5
  obtain ⟨z0, z1, z2, z3⟩ := HXC.out w5 HD5.out.b3
  clear htp
  have hcase : op = 4 ∨ op = 2 ∨ op = 3 ∨ op = 1 ∨ op = 5 := by omega
  rcases hcase with rfl | rfl | rfl | rfl | rfl
  · have HO5 := hid (show w5.heap[w2.heap.size]? = some (.cells #[.slice (some ⟨g0, 0, none⟩) n f0, .slice (some ⟨g1, 0, none⟩) n1 f1, .slice e2 n f2, .slice (some ⟨lb, 0, none⟩) 3 f3] 59 (0, 0)) from HD5.out.b2)
    have HR5 := hid (show w5.heap[w.heap.size + 1]? = some (.cells zSt 59 (0, 0)) from HD5.out.b1)
    replace HDO := hid (show do5 p s t k = up5 s t from HDO.out.trans (by simp [do5x]))
    have HFR := hid (show FrC w5 (w.heap.size + 2) ⟨some ⟨g0, 0, none⟩, f0, some ⟨g1, 0, none⟩, f1, e2, f2, some ⟨lb, 0, none⟩, f3⟩ (ct (up5 s t)) from HD5.out.own.fr HLS.out.2.1.symm)
    go_wp2_with (first | (refine wpList_load_row rfl 59 (.tmp 9) rfl w2.heap.size rfl 59 _ (0, 0) _ HO5.out Try.underlying59 rfl (by kernel_rfl) ?_) | (refine wpList_store_row rfl 59 (.tmp 8) (.tmp 53) rfl (w.heap.size + 1) #[.slice (some ⟨g0, 0, none⟩) n f0, .slice (some ⟨g1, 0, none⟩) n1 f1, .slice e2 n f2, .slice (some ⟨lb, 0, none⟩) 3 f3] rfl rfl 59 zSt HR5.out (by kernel_rfl) rfl HONE.out ?_))
    refine bodyPost_ret (results_cell_row rfl _ _ (w.heap.size + 1) 59 _ (0, 0) _ rfl (setRow_heap _ _ _ _ _ _ HR5.out) Try.underlying59 rfl (by kernel_rfl)) rfl ⟨⟨some ⟨g0, 0, none⟩, f0, some ⟨g1, 0, none⟩, f1, e2, f2, some ⟨lb, 0, none⟩, f3⟩, ?_, ?_⟩
    · exact congrArg Ending.returned HQV.out.symm
    · rw [HDO.out]
      exact fin5 HFR.out HD5.out.below _
  · have hwv2 : wv = val := by rw [hwv]; simp [wval]
    subst hwv2
    replace HDO := hid (show do5 p s t k = ins5 (up5 s t) t ln k wv from HDO.out.trans (by simp [do5x]))
    have HOK := hid (show InsOk (up5 s t) t ln k from (HMID.out.pre ln k).insOk HV.out HTP.out hl3 HK.out.1)
    have HB5 := hid (show w5.heap[w2.heap.size]? = some (.cells #[.slice (some ⟨g0, 0, none⟩) n f0, .slice (some ⟨g1, 0, none⟩) n1 f1, .slice e2 n f2, .slice (some ⟨lb, 0, none⟩) 3 f3] 59 (0, 0)) from HD5.out.b2)
    clear hwv
    go_wp2_with (refine wpList_load_row rfl 59 (.tmp 9) rfl w2.heap.size rfl 59 _ (0, 0) _ HB5.out Try.underlying59 rfl (by kernel_rfl) ?_)
    refine (HIN.out (up5 s t) k HUP.out.1 HUP.out.2.1 HUP.out.2.2.1 HUP.out.2.2.2 w5 HD5.out.own HOK.out (by omega)).mono ?_
    rintro e w6 ⟨rfl, hfr, hk⟩
    obtain ⟨hb6, hbl⟩ := HD5.out.after hk
    have HFR := hid hfr
    have HB6 := hid hb6
    have HO6 := hid (show w6.heap[w2.heap.size]? = some (.cells #[.slice (some ⟨g0, 0, none⟩) n f0, .slice (some ⟨g1, 0, none⟩) n1 f1, .slice e2 n f2, .slice (some ⟨lb, 0, none⟩) 3 f3] 59 (0, 0)) from hbl (w2.heap.size, _, _) (.tail _ (.tail _ (.head _))))
    have HR6 := hid (show w6.heap[w.heap.size + 1]? = some (.cells zSt 59 (0, 0)) from hbl (w.heap.size + 1, _, _) (.tail _ (.head _)))
    clear z0 z1 z2 z3 hfr hb6 hbl hk
    go_wp2_with (first | (refine wpList_load_row rfl 59 (.tmp 9) rfl w2.heap.size rfl 59 _ (0, 0) _ HO6.out Try.underlying59 rfl (by kernel_rfl) ?_) | (refine wpList_store_row rfl 59 (.tmp 8) (.tmp 111) rfl (w.heap.size + 1) #[.slice (some ⟨g0, 0, none⟩) n f0, .slice (some ⟨g1, 0, none⟩) n1 f1, .slice e2 n f2, .slice (some ⟨lb, 0, none⟩) 3 f3] rfl rfl 59 zSt HR6.out (by kernel_rfl) rfl HONE.out ?_))
    refine bodyPost_ret (results_cell_row rfl _ _ (w.heap.size + 1) 59 _ (0, 0) _ rfl (setRow_heap _ _ _ _ _ _ HR6.out) Try.underlying59 rfl (by kernel_rfl)) rfl ⟨⟨some ⟨g0, 0, none⟩, f0, some ⟨g1, 0, none⟩, f1, e2, f2, some ⟨lb, 0, none⟩, f3⟩, ?_, ?_⟩
    · exact congrArg Ending.returned HQV.out.symm
    · rw [HDO.out]
      exact fin5 HFR.out HB6.out _
  · obtain ⟨i, hi⟩ : ∃ i, i = t * 3 + rn := ⟨_, rfl⟩
    have hil : i < s.st.regs.length := by have := HG.out.good.regl; have := HTP.out; omega
    have hin1 : (i : Int) < (n1 : Int) := by rw [HN1.out]; omega
    obtain ⟨rv, hrv⟩ : ∃ rv, s.st.regs[i]? = some rv := ⟨_, List.getElem?_eq_getElem hil⟩
    have hwv2 : wv = rv := by rw [hwv]; unfold wval; rw [if_pos rfl, Int.toNat_natCast, ← hi, List.getD_eq_getElem?_getD, hrv]; rfl
    subst hwv2
    obtain ⟨rb1, ro1, hra, hrl1, hrc⟩ := HS.out.intAt (dom1 _) (by show 0 < s.st.regs.length; omega)
    rw [HS.out.h1] at hra
    have hra : a1 = some ⟨rb1, ro1, none⟩ := hra
    subst hra
    have y1 := (HD5.out.below.cell (p := ⟨rb1, ro1 + i, none⟩) hrl1).trans (hrc i _ hrv)
    have y2 := cell_of_row w5 w.heap.size 1 _ _ _ HD5.out.b0
    have HREG := hid (fun w (h1 : t ≤ 1000000) (h2 : rn ≤ 1000000) => l3Reg_c w t rn i hi h1 h2)
    replace HDO := hid (show do5 p s t k = ins5 (up5 s t) t ln k wv from HDO.out.trans (by simp [do5x]))
    have HOK := hid (show InsOk (up5 s t) t ln k from (HMID.out.pre ln k).insOk HV.out HTP.out hl3 HK.out.1)
    clear hwv hrc hrv hil hi
    go_wp2_with fail
    refine MQ.wp_region_mix (q := [87]) (by kernel_rfl) (by kernel_rfl) ?_
    go_wp2_with (first | (with_reducible refine MQ.wpMix_nil ?_) | (with_reducible refine MQ.wpMix_rd rfl rfl rfl (fun K hK => ?_); go_simp; (try go_bits); refine hK _ ?_; clear hK K))
    refine MQ.wpMix_call rfl 87 _ _ rfl rfl #[.int .i64 t, .int .i64 rn] (by simp [Act.eval]) (callReg _ _) _ (HREG.out _ (by omega) (by omega)) ?_
    have HD6 := hid HD5.out.drew
    have hs6 : w5.drew.heap.size = w2.heap.size + 2 := hs5
    obtain ⟨u0, u1, u2, u3⟩ := HXC.out _ HD6.out.b3
    have HB6 := hid (show w5.drew.heap[w2.heap.size]? = some (.cells #[.slice (some ⟨g0, 0, none⟩) n f0, .slice (some ⟨g1, 0, none⟩) n1 f1, .slice e2 n f2, .slice (some ⟨lb, 0, none⟩) 3 f3] 59 (0, 0)) from HD6.out.b2)
    go_wp2_with (first | (with_reducible refine MQ.wpMix_nil ?_) | (with_reducible refine MQ.wpMix_rd rfl rfl rfl (fun K hK => ?_); go_simp; (try go_bits); refine hK _ ?_; clear hK K) | (refine wpList_load_row rfl 59 (.tmp 9) rfl w2.heap.size rfl 59 _ (0, 0) _ HB6.out Try.underlying59 rfl (by kernel_rfl) ?_))
    refine (HIN.out (up5 s t) k HUP.out.1 HUP.out.2.1 HUP.out.2.2.1 HUP.out.2.2.2 w5.drew HD6.out.own HOK.out (by omega)).mono ?_
    rintro e w6 ⟨rfl, hfr, hk⟩
    obtain ⟨hb6, hbl⟩ := HD6.out.after hk
    have HFR := hid hfr
    have HBE := hid hb6
    have HO6 := hid (show w6.heap[w2.heap.size]? = some (.cells #[.slice (some ⟨g0, 0, none⟩) n f0, .slice (some ⟨g1, 0, none⟩) n1 f1, .slice e2 n f2, .slice (some ⟨lb, 0, none⟩) 3 f3] 59 (0, 0)) from hbl (w2.heap.size, _, _) (.tail _ (.tail _ (.head _))))
    have HR6 := hid (show w6.heap[w.heap.size + 1]? = some (.cells zSt 59 (0, 0)) from hbl (w.heap.size + 1, _, _) (.tail _ (.head _)))
    clear z0 z1 z2 z3 hfr hb6 hbl hk u0 u1 u2 u3 y1 y2
    go_wp2_with (first | (refine wpList_load_row rfl 59 (.tmp 9) rfl w2.heap.size rfl 59 _ (0, 0) _ HO6.out Try.underlying59 rfl (by kernel_rfl) ?_) | (refine wpList_store_row rfl 59 (.tmp 8) (.tmp 111) rfl (w.heap.size + 1) #[.slice (some ⟨g0, 0, none⟩) n f0, .slice (some ⟨g1, 0, none⟩) n1 f1, .slice e2 n f2, .slice (some ⟨lb, 0, none⟩) 3 f3] rfl rfl 59 zSt HR6.out (by kernel_rfl) rfl HONE.out ?_))
    refine bodyPost_ret (results_cell_row rfl _ _ (w.heap.size + 1) 59 _ (0, 0) _ rfl (setRow_heap _ _ _ _ _ _ HR6.out) Try.underlying59 rfl (by kernel_rfl)) rfl ⟨⟨some ⟨g0, 0, none⟩, f0, some ⟨g1, 0, none⟩, f1, e2, f2, some ⟨lb, 0, none⟩, f3⟩, ?_, ?_⟩
    · exact congrArg Ending.returned HQV.out.symm
    · rw [HDO.out]
      exact fin5 HFR.out HBE.out _
  · have HM := hid (show k < (row5 s ln).length from HK.out.2.1 (by decide) (by decide))
    have HM3 := hid hl3
    obtain ⟨i, hi⟩ : ∃ i, i = t * 3 + rn := ⟨_, rfl⟩
    have hil : i < s.st.regs.length := by have := HG.out.good.regl; have := HTP.out; omega
    have hin1 : (i : Int) < (n1 : Int) := by rw [HN1.out]; omega
    have HI := hid hi
    have HREG := hid (fun w (h1 : t ≤ 1000000) (h2 : rn ≤ 1000000) => l3Reg_c w t rn i hi h1 h2)
    obtain ⟨M, hM⟩ : ∃ M, M = (row5 s ln).getD k msZ := ⟨_, rfl⟩
    obtain ⟨mv, hmv⟩ : ∃ mv, mv = M.val := ⟨_, rfl⟩
    obtain ⟨lk, hlk⟩ : ∃ lk, lk = M.lock := ⟨_, rfl⟩
    obtain ⟨N, hN⟩ : ∃ N, N = (row5 s ln).length := ⟨_, rfl⟩
    have HN5 := hid hN
    have hkN : (k : Int) < (N : Int) := by have := HM.out; omega
    have HMO := hid (show ((∀ ix, ix = (ln + 2, k) → (ct (up5 s t)).X ix = M.view) ∧ (ct (up5 s t)).MV ln k = mv ∧ (ct (up5 s t)).LK ln k = lk ∧ (ct (up5 s t)).N ln = N ∧ (ct (up5 s t)).nl = 3) from
      ⟨fun ix e => by subst e; rw [hM]; rfl, by rw [hmv, hM]; rfl, by rw [hlk, hM]; rfl, hN.symm, HLS.out.2.1⟩)
    have hdm : (ct (up5 s t)).dom (ln + 2, k) := domM (by rw [HMO.out.2.2.2.2]; exact hl3) (by rw [HMO.out.2.2.2.1]; omega)
    obtain ⟨gr, hgr, _, _⟩ := HD5.out.own.raddr (l := ln) (by rw [HMO.out.2.2.2.2]; exact hl3) (by rw [HMO.out.2.2.2.1]; omega)
    obtain ⟨gm, hgm, _, _⟩ := HD5.out.own.iaddr hdm (by rw [HD5.out.own.len _ hdm (by simp)]; decide)
    have v1 := (HD5.out.own.lcell (l := ln) hl3 rfl).1
    obtain ⟨v2, v3, v4, v5⟩ := HD5.out.own.mcell (l := ln) (k := k) (by rw [HMO.out.2.2.2.2]; exact hl3) (by rw [HMO.out.2.2.2.1]; omega) hgr
    rw [hgr, HMO.out.2.2.2.1] at v1
    rw [HMO.out.2.1] at v2
    rw [HMO.out.2.2.1] at v3
    rw [hgm] at v4
    obtain ⟨rcap, hrcap⟩ : ∃ c, c = (y.L ln).2 := ⟨_, rfl⟩
    obtain ⟨mcap, hmcap⟩ : ∃ c, c = (y.I (ln + 2, k)).2 := ⟨_, rfl⟩
    rw [← hrcap] at v1
    rw [← hmcap] at v4
    have v6 := cell_of_row w5 w2.heap.size 3 _ _ _ HD5.out.b2
    have v7 := cell_of_row w5 w2.heap.size 1 _ _ _ HD5.out.b2
    have HMV := hid (And.intro hM (And.intro hmv hlk))
    have HGR := hid (And.intro hgr (And.intro hgm hdm))
    have hln3 : (ln : Int) < 3 := by omega
    clear hwv hM hmv hlk hN hgr hgm hdm hrcap hmcap hi
    obtain ⟨w6, hw6⟩ : ∃ w6, w6 = w5.alloc (.cells #[.int .i64 mv, .bool lk, .slice (some ⟨gm, 0, none⟩) 3 mcap] 117) := ⟨_, rfl⟩
    have hb6 : Below w5.heap.size w5 w6 := by rw [hw6]; exact (Below.refl _ _).alloc (Nat.le_refl _) _
    have HD6 := hid (HD5.out.later hb6)
    have HM6 := hid (show w6.heap[w5.heap.size]? = some (.cells #[.int .i64 mv, .bool lk, .slice (some ⟨gm, 0, none⟩) 3 mcap] 117 (0, 0)) by rw [hw6]; exact heap_alloc_new w5 _)
    have hs6 : w6.heap.size = w2.heap.size + 3 := by rw [hw6]; simp; omega
    clear hb6
    go_wp2_with fail
    rw [← hw6]
    clear hw6 z0 z1 z2 z3 v1 v2 v3 v4 v5 v6 v7
    -- 'out.regs[..] = m.val'
    obtain ⟨z0, z1, z2, z3⟩ := HXC.out w6 HD6.out.b3
    rw [hs5] at HM6
    have v1 := cell_of_row w6 (w2.heap.size + 2) 0 _ _ _ HM6.out
    have v2 := cell_of_row w6 w2.heap.size 1 _ _ _ HD6.out.b2
    obtain ⟨ov, hov⟩ : ∃ ov, s.st.regs[i]? = some ov := ⟨_, List.getElem?_eq_getElem hil⟩
    obtain ⟨v3, v4⟩ := HD6.out.own.icell (dom1 _) HY.out.2 (j := i) (x := ov) hov
    refine MQ.wp_region_mix (q := [87]) (by kernel_rfl) (by kernel_rfl) ?_
    repeat (with_reducible refine MQ.wpMix_rd rfl rfl rfl (fun K hK => ?_); go_simp; (try go_bits); refine hK _ ?_; clear hK K)
    refine MQ.wpMix_call rfl 87 _ _ rfl rfl #[.int .i64 t, .int .i64 rn] (by simp [Act.eval]) (callReg _ _) _ (HREG.out _ (by omega) (by omega)) ?_
    repeat (with_reducible refine MQ.wpMix_rd rfl rfl rfl (fun K hK => ?_); go_simp; (try go_bits); refine hK _ ?_; clear hK K)
    (with_reducible refine MQ.wpMix_act (o := ⟨_, .store _ _ _, _, _, _, _⟩) rfl rfl (fun K hK => ?_))
    go_simp
    refine hK _ _ ?_
    clear hK K
    (with_reducible refine MQ.wpMix_nil ?_)
    have hgm0 : ∀ (b : Nat), b = gm → b < w5.heap.size := fun b e => by
      obtain ⟨g, e1, _, h2⟩ := HD5.out.own.iaddr HGR.out.2.2 (by rw [HD5.out.own.len _ HGR.out.2.2 (by simp)]; decide)
      rw [HGR.out.2.1] at e1
      have := congrArg Addr.block (Option.some.inj e1)
      have : gm = g := this
      omega
    have HD7 := hid ((HD6.out.set (dom1 _) HY.out.2 i mv)).drew
    have HM7 := hid (show (w6.setCell ⟨g1, i, none⟩ (.int .i64 mv)).drew.heap[w2.heap.size + 2]? = some (.cells #[.int .i64 mv, .bool lk, .slice (some ⟨gm, 0, none⟩) 3 mcap] 117 (0, 0)) from by
      have hne : w2.heap.size + 2 ≠ g1 := fun e => (HD6.out.own.kind HM6.out).1 (by decide) _ (dom1 _) (by rw [HY.out.2, e]; rfl)
      exact (heap_setCell_other w6 ⟨g1, i, none⟩ _ _ hne).trans HM6.out)
    obtain ⟨w7, hw7⟩ : ∃ w7, w7 = (w6.setCell ⟨g1, i, none⟩ (.int .i64 mv)).drew := ⟨_, rfl⟩
    rw [← hw7] at HD7 HM7 ⊢
    have hs7 : w7.heap.size = w2.heap.size + 3 := by rw [hw7]; simpa [World.setCell] using hs6
    clear hw7 z0 z1 z2 z3 v1 v2 v3 v4 hov HM6 HD6
    -- 'l5Join(out, t, m.view)'
    obtain ⟨C7, hC7⟩ : ∃ C7, C7 = (ct (up5 s t)).setX (0, 1) (((ct (up5 s t)).X (0, 1)).set i mv) := ⟨_, rfl⟩
    rw [← hC7] at HD7
    have hx1 : C7.X (ln + 2, k) = M.view := by rw [hC7, setX_ne _ _ _ (by simp)]; exact HMO.out.1 _ rfl
    have hx2 : C7.X (1, t) = vw s t := by rw [hC7, setX_ne _ _ _ (by simp)]; rfl
    have hx3 : C7.nl = 3 := by rw [hC7]; exact HMO.out.2.2.2.2
    have hx4 : C7.nv = n := by rw [hC7]; exact HLS.out.1
    have hx5 : (C7.X (0, 0)).length = n := by rw [hC7, setX_ne _ _ _ (by simp)]; exact HUP.out.1
    have hx6 : (C7.X (0, 1)).length = n1 := by rw [hC7, setX_get, List.length_set]; exact HUP.out.2.1
    have hdm7 : C7.dom (ln + 2, k) := by rw [hC7]; exact HGR.out.2.2
    have hdv7 : C7.dom (1, t) := domV (by rw [hx4]; exact htn)
    have hl7 := HD7.out.own.len _ hdm7 (by simp)
    rw [hx1] at hl7
    have hr7 := Rd.own (HD7.out.own.int _ hdm7)
    rw [hx1, HGR.out.2.1] at hr7
    have hne7 : blk (y.I (1, t)).1 ≠ some gm := fun e => by
      have := HD7.out.own.dis (1, t) (ln + 2, k) gm hdv7 hdm7 e (by rw [HGR.out.2.1]; rfl)
      simp at this
    have hjn := l5Join_c w7 (w.heap.size + 2) ⟨some ⟨g0, 0, none⟩, f0, some ⟨g1, 0, none⟩, f1, e2, f2, some ⟨lb, 0, none⟩, f3⟩ y C7 t gm 0 mcap M.view (by rw [hx3]; exact HD7.out.own) (by rw [hx4]; exact htn) hl7 hr7 hne7
    unfold Ct.hd at hjn
    rw [hx5, hx6, hx4, hx3, hx2] at hjn
    have HJN := hid hjn
    have HDV7 := hid hdv7
    have HC7 := hid hC7
    clear hjn hl7 hr7 hdm7 hdv7 hx1 hx2 hx3 hx4 hx5 hx6 hne7 hC7
    have YYZ : True := trivial
    have v1 := cell_of_row w7 (w2.heap.size + 2) 2 _ _ _ HM7.out
    have HB7 := hid (show w7.heap[w2.heap.size]? = some (.cells #[.slice (some ⟨g0, 0, none⟩) n f0, .slice (some ⟨g1, 0, none⟩) n1 f1, .slice e2 n f2, .slice (some ⟨lb, 0, none⟩) 3 f3] 59 (0, 0)) from HD7.out.b2)
    go_wp2_with (refine wpList_load_row rfl 59 (.tmp 9) rfl w2.heap.size rfl 59 _ (0, 0) _ HB7.out Try.underlying59 rfl (by kernel_rfl) ?_)
    refine HJN.out.mono ?_
    rintro e w8 ⟨rfl, how8, hk8⟩
    have HD8a := HD7.out.turn (hk8.mono fun b hb => .inl ⟨(1, t), HDV7.out, hb⟩) how8
    have WWW : True := trivial
    have he8 : CtEq (C7.setX (1, t) (join5 (vw s t) M.view)) (ct (read5 (up5 s t) t rn M)) := by
      rw [HC7.out, HMV.out.2.1]
      exact read5_ct (s := up5 s t) (m := M) HI.out (by show t < s.view.length; rw [HLS.out.1]; exact htn)
    have HD8 := hid (HD8a.congr he8)
    clear v1 HB7 how8 hk8 HD7 HM7 HJN HD8a he8
    obtain ⟨z0, z1, z2, z3⟩ := HXC.out w8 HD8.out.b3
    have HB8 := hid (show w8.heap[w2.heap.size]? = some (.cells #[.slice (some ⟨g0, 0, none⟩) n f0, .slice (some ⟨g1, 0, none⟩) n1 f1, .slice e2 n f2, .slice (some ⟨lb, 0, none⟩) 3 f3] 59 (0, 0)) from HD8.out.b2)
    have HR8 := hid (show w8.heap[w.heap.size + 1]? = some (.cells zSt 59 (0, 0)) from HD8.out.b1)
    replace HDO := hid (show do5 p s t k = read5 (up5 s t) t rn M from HDO.out.trans (by rw [HMV.out.1]; simp [do5x]))
    have HFR := hid (show FrC w8 (w.heap.size + 2) ⟨some ⟨g0, 0, none⟩, f0, some ⟨g1, 0, none⟩, f1, e2, f2, some ⟨lb, 0, none⟩, f3⟩ (ct (read5 (up5 s t) t rn M)) from HD8.out.own.fr HLS.out.2.1.symm)
    go_wp2_with (first | (refine wpList_load_row rfl 59 (.tmp 9) rfl w2.heap.size rfl 59 _ (0, 0) _ HB8.out Try.underlying59 rfl (by kernel_rfl) ?_) | (refine wpList_store_row rfl 59 (.tmp 8) (.tmp 111) rfl (w.heap.size + 1) #[.slice (some ⟨g0, 0, none⟩) n f0, .slice (some ⟨g1, 0, none⟩) n1 f1, .slice e2 n f2, .slice (some ⟨lb, 0, none⟩) 3 f3] rfl rfl 59 zSt HR8.out (by kernel_rfl) rfl HONE.out ?_))
    refine bodyPost_ret (results_cell_row rfl _ _ (w.heap.size + 1) 59 _ (0, 0) _ rfl (setRow_heap _ _ _ _ _ _ HR8.out) Try.underlying59 rfl (by kernel_rfl)) rfl ⟨⟨some ⟨g0, 0, none⟩, f0, some ⟨g1, 0, none⟩, f1, e2, f2, some ⟨lb, 0, none⟩, f3⟩, ?_, ?_⟩
    · exact congrArg Ending.returned HQV.out.symm
    · rw [HDO.out]
      exact fin5 HFR.out HD8.out.below _
  · have hwv2 : wv = val := by rw [hwv]; simp [wval]
    subst hwv2
    have HM := hid (show k < (row5 s ln).length from HK.out.2.1 (by decide) (by decide))
    have HM3 := hid hl3
    obtain ⟨i, hi⟩ : ∃ i, i = t * 3 + rn := ⟨_, rfl⟩
    have hil : i < s.st.regs.length := by have := HG.out.good.regl; have := HTP.out; omega
    have hin1 : (i : Int) < (n1 : Int) := by rw [HN1.out]; omega
    have HI := hid hi
    have HREG := hid (fun w (h1 : t ≤ 1000000) (h2 : rn ≤ 1000000) => l3Reg_c w t rn i hi h1 h2)
    obtain ⟨M, hM⟩ : ∃ M, M = (row5 s ln).getD k msZ := ⟨_, rfl⟩
    obtain ⟨mv, hmv⟩ : ∃ mv, mv = M.val := ⟨_, rfl⟩
    obtain ⟨lk, hlk⟩ : ∃ lk, lk = M.lock := ⟨_, rfl⟩
    obtain ⟨N, hN⟩ : ∃ N, N = (row5 s ln).length := ⟨_, rfl⟩
    have HN5 := hid hN
    have hkN : (k : Int) < (N : Int) := by have := HM.out; omega
    have HMO := hid (show ((∀ ix, ix = (ln + 2, k) → (ct (up5 s t)).X ix = M.view) ∧ (ct (up5 s t)).MV ln k = mv ∧ (ct (up5 s t)).LK ln k = lk ∧ (ct (up5 s t)).N ln = N ∧ (ct (up5 s t)).nl = 3) from
      ⟨fun ix e => by subst e; rw [hM]; rfl, by rw [hmv, hM]; rfl, by rw [hlk, hM]; rfl, hN.symm, HLS.out.2.1⟩)
    have hdm : (ct (up5 s t)).dom (ln + 2, k) := domM (by rw [HMO.out.2.2.2.2]; exact hl3) (by rw [HMO.out.2.2.2.1]; omega)
    obtain ⟨gr, hgr, _, _⟩ := HD5.out.own.raddr (l := ln) (by rw [HMO.out.2.2.2.2]; exact hl3) (by rw [HMO.out.2.2.2.1]; omega)
    obtain ⟨gm, hgm, _, _⟩ := HD5.out.own.iaddr hdm (by rw [HD5.out.own.len _ hdm (by simp)]; decide)
    have v1 := (HD5.out.own.lcell (l := ln) hl3 rfl).1
    obtain ⟨v2, v3, v4, v5⟩ := HD5.out.own.mcell (l := ln) (k := k) (by rw [HMO.out.2.2.2.2]; exact hl3) (by rw [HMO.out.2.2.2.1]; omega) hgr
    rw [hgr, HMO.out.2.2.2.1] at v1
    rw [HMO.out.2.1] at v2
    rw [HMO.out.2.2.1] at v3
    rw [hgm] at v4
    obtain ⟨rcap, hrcap⟩ : ∃ c, c = (y.L ln).2 := ⟨_, rfl⟩
    obtain ⟨mcap, hmcap⟩ : ∃ c, c = (y.I (ln + 2, k)).2 := ⟨_, rfl⟩
    rw [← hrcap] at v1
    rw [← hmcap] at v4
    have v6 := cell_of_row w5 w2.heap.size 3 _ _ _ HD5.out.b2
    have v7 := cell_of_row w5 w2.heap.size 1 _ _ _ HD5.out.b2
    have HMV := hid (And.intro hM (And.intro hmv hlk))
    have HGR := hid (And.intro hgr (And.intro hgm hdm))
    have hln3 : (ln : Int) < 3 := by omega
    clear hwv hM hmv hlk hN hgr hgm hdm hrcap hmcap hi
    obtain ⟨w6, hw6⟩ : ∃ w6, w6 = w5.alloc (.cells #[.int .i64 mv, .bool lk, .slice (some ⟨gm, 0, none⟩) 3 mcap] 117) := ⟨_, rfl⟩
    have hb6 : Below w5.heap.size w5 w6 := by rw [hw6]; exact (Below.refl _ _).alloc (Nat.le_refl _) _
    have HD6 := hid (HD5.out.later hb6)
    have HM6 := hid (show w6.heap[w5.heap.size]? = some (.cells #[.int .i64 mv, .bool lk, .slice (some ⟨gm, 0, none⟩) 3 mcap] 117 (0, 0)) by rw [hw6]; exact heap_alloc_new w5 _)
    have hs6 : w6.heap.size = w2.heap.size + 3 := by rw [hw6]; simp; omega
    clear hb6
    go_wp2_with fail
    rw [← hw6]
    clear hw6 z0 z1 z2 z3 v1 v2 v3 v4 v5 v6 v7
    -- 'out.regs[..] = m.val'
    obtain ⟨z0, z1, z2, z3⟩ := HXC.out w6 HD6.out.b3
    rw [hs5] at HM6
    have v1 := cell_of_row w6 (w2.heap.size + 2) 0 _ _ _ HM6.out
    have v2 := cell_of_row w6 w2.heap.size 1 _ _ _ HD6.out.b2
    obtain ⟨ov, hov⟩ : ∃ ov, s.st.regs[i]? = some ov := ⟨_, List.getElem?_eq_getElem hil⟩
    obtain ⟨v3, v4⟩ := HD6.out.own.icell (dom1 _) HY.out.2 (j := i) (x := ov) hov
    refine MQ.wp_region_mix (q := [87]) (by kernel_rfl) (by kernel_rfl) ?_
    repeat (with_reducible refine MQ.wpMix_rd rfl rfl rfl (fun K hK => ?_); go_simp; (try go_bits); refine hK _ ?_; clear hK K)
    refine MQ.wpMix_call rfl 87 _ _ rfl rfl #[.int .i64 t, .int .i64 rn] (by simp [Act.eval]) (callReg _ _) _ (HREG.out _ (by omega) (by omega)) ?_
    repeat (with_reducible refine MQ.wpMix_rd rfl rfl rfl (fun K hK => ?_); go_simp; (try go_bits); refine hK _ ?_; clear hK K)
    (with_reducible refine MQ.wpMix_act (o := ⟨_, .store _ _ _, _, _, _, _⟩) rfl rfl (fun K hK => ?_))
    go_simp
    refine hK _ _ ?_
    clear hK K
    (with_reducible refine MQ.wpMix_nil ?_)
    have hgm0 : ∀ (b : Nat), b = gm → b < w5.heap.size := fun b e => by
      obtain ⟨g, e1, _, h2⟩ := HD5.out.own.iaddr HGR.out.2.2 (by rw [HD5.out.own.len _ HGR.out.2.2 (by simp)]; decide)
      rw [HGR.out.2.1] at e1
      have := congrArg Addr.block (Option.some.inj e1)
      have : gm = g := this
      omega
    have HD7 := hid ((HD6.out.set (dom1 _) HY.out.2 i mv)).drew
    have HM7 := hid (show (w6.setCell ⟨g1, i, none⟩ (.int .i64 mv)).drew.heap[w2.heap.size + 2]? = some (.cells #[.int .i64 mv, .bool lk, .slice (some ⟨gm, 0, none⟩) 3 mcap] 117 (0, 0)) from by
      have hne : w2.heap.size + 2 ≠ g1 := fun e => (HD6.out.own.kind HM6.out).1 (by decide) _ (dom1 _) (by rw [HY.out.2, e]; rfl)
      exact (heap_setCell_other w6 ⟨g1, i, none⟩ _ _ hne).trans HM6.out)
    obtain ⟨w7, hw7⟩ : ∃ w7, w7 = (w6.setCell ⟨g1, i, none⟩ (.int .i64 mv)).drew := ⟨_, rfl⟩
    rw [← hw7] at HD7 HM7 ⊢
    have hs7 : w7.heap.size = w2.heap.size + 3 := by rw [hw7]; simpa [World.setCell] using hs6
    clear hw7 z0 z1 z2 z3 v1 v2 v3 v4 hov HM6 HD6
    -- 'l5Join(out, t, m.view)'
    obtain ⟨C7, hC7⟩ : ∃ C7, C7 = (ct (up5 s t)).setX (0, 1) (((ct (up5 s t)).X (0, 1)).set i mv) := ⟨_, rfl⟩
    rw [← hC7] at HD7
    have hx1 : C7.X (ln + 2, k) = M.view := by rw [hC7, setX_ne _ _ _ (by simp)]; exact HMO.out.1 _ rfl
    have hx2 : C7.X (1, t) = vw s t := by rw [hC7, setX_ne _ _ _ (by simp)]; rfl
    have hx3 : C7.nl = 3 := by rw [hC7]; exact HMO.out.2.2.2.2
    have hx4 : C7.nv = n := by rw [hC7]; exact HLS.out.1
    have hx5 : (C7.X (0, 0)).length = n := by rw [hC7, setX_ne _ _ _ (by simp)]; exact HUP.out.1
    have hx6 : (C7.X (0, 1)).length = n1 := by rw [hC7, setX_get, List.length_set]; exact HUP.out.2.1
    have hdm7 : C7.dom (ln + 2, k) := by rw [hC7]; exact HGR.out.2.2
    have hdv7 : C7.dom (1, t) := domV (by rw [hx4]; exact htn)
    have hl7 := HD7.out.own.len _ hdm7 (by simp)
    rw [hx1] at hl7
    have hr7 := Rd.own (HD7.out.own.int _ hdm7)
    rw [hx1, HGR.out.2.1] at hr7
    have hne7 : blk (y.I (1, t)).1 ≠ some gm := fun e => by
      have := HD7.out.own.dis (1, t) (ln + 2, k) gm hdv7 hdm7 e (by rw [HGR.out.2.1]; rfl)
      simp at this
    have hjn := l5Join_c w7 (w.heap.size + 2) ⟨some ⟨g0, 0, none⟩, f0, some ⟨g1, 0, none⟩, f1, e2, f2, some ⟨lb, 0, none⟩, f3⟩ y C7 t gm 0 mcap M.view (by rw [hx3]; exact HD7.out.own) (by rw [hx4]; exact htn) hl7 hr7 hne7
    unfold Ct.hd at hjn
    rw [hx5, hx6, hx4, hx3, hx2] at hjn
    have HJN := hid hjn
    have HDV7 := hid hdv7
    have HC7 := hid hC7
    clear hjn hl7 hr7 hdm7 hdv7 hx1 hx2 hx3 hx4 hx5 hx6 hne7 hC7
    have YYZ : True := trivial
    have v1 := cell_of_row w7 (w2.heap.size + 2) 2 _ _ _ HM7.out
    have HB7 := hid (show w7.heap[w2.heap.size]? = some (.cells #[.slice (some ⟨g0, 0, none⟩) n f0, .slice (some ⟨g1, 0, none⟩) n1 f1, .slice e2 n f2, .slice (some ⟨lb, 0, none⟩) 3 f3] 59 (0, 0)) from HD7.out.b2)
    go_wp2_with (refine wpList_load_row rfl 59 (.tmp 9) rfl w2.heap.size rfl 59 _ (0, 0) _ HB7.out Try.underlying59 rfl (by kernel_rfl) ?_)
    refine HJN.out.mono ?_
    rintro e w8 ⟨rfl, how8, hk8⟩
    have HD8a := HD7.out.turn (hk8.mono fun b hb => .inl ⟨(1, t), HDV7.out, hb⟩) how8
    have WWW : True := trivial
    have he8 : CtEq (C7.setX (1, t) (join5 (vw s t) M.view)) (ct (read5 (up5 s t) t rn M)) := by
      rw [HC7.out, HMV.out.2.1]
      exact read5_ct (s := up5 s t) (m := M) HI.out (by show t < s.view.length; rw [HLS.out.1]; exact htn)
    have HD8 := hid (HD8a.congr he8)
    clear v1 HB7 how8 hk8 HD7 HM7 HJN HD8a he8
    obtain ⟨z0, z1, z2, z3⟩ := HXC.out w8 HD8.out.b3
    have hl8 : ln < (ct (read5 (up5 s t) t rn M)).nl := by rw [show (ct (read5 (up5 s t) t rn M)).nl = 3 from HLS.out.2.1]; exact HM3.out
    have hk8 : k < (ct (read5 (up5 s t) t rn M)).N ln := HM.out
    have v1 := (HD8.out.own.lcell (l := ln) HM3.out rfl).1
    rw [HGR.out.1, show (ct (read5 (up5 s t) t rn M)).N ln = N from HN5.out.symm] at v1
    obtain ⟨_, v2, _, v3⟩ := HD8.out.own.mcell (l := ln) (k := k) hl8 hk8 HGR.out.1
    have v4 := cell_of_row w8 w2.heap.size 3 _ _ _ HD8.out.b2
    have HD9 := hid ((HD8.out.lock hl8 hk8 HGR.out.1).congr (lock5_ct (s := read5 (up5 s t) t rn M) hl8 HM.out))
    have HB9 := hid (show (w8.setCell ⟨gr, k * 3 + 1, none⟩ (.bool true)).heap[w2.heap.size]? = some (.cells #[.slice (some ⟨g0, 0, none⟩) n f0, .slice (some ⟨g1, 0, none⟩) n1 f1, .slice e2 n f2, .slice (some ⟨lb, 0, none⟩) 3 f3] 59 (0, 0)) from HD9.out.b2)
    obtain ⟨u0, u1, u2, u3⟩ := HXC.out _ HD9.out.b3
    have hs8 : w.heap.size ≤ w8.heap.size := HD8.out.below.size
    have hs9 : w2.heap.size + 2 ≤ (w8.setCell ⟨gr, k * 3 + 1, none⟩ (.bool true)).heap.size := by have := (Array.getElem?_eq_some_iff.1 HD9.out.b3).1; omega
    have hs10 : w.heap.size + 2 ≤ (w8.setCell ⟨gr, k * 3 + 1, none⟩ (.bool true)).heap.size := by have h1 := HD9.out.below.size; omega
    have hmem : (0 ≤ M.val ∧ M.val ≤ 3) ∧ VwOk (up5 s t) M.view := by
      refine HG.out.mok _ (List.mem_of_getElem? (HG.out.row HM3.out)) _ ?_
      rw [HMV.out.1, List.getD_eq_getElem?_getD, List.getElem?_eq_getElem HM.out]
      exact List.getElem_mem _
    have HOK := hid (show InsOk (lock5 (read5 (up5 s t) t rn M) ln k) t ln (k + 1) from ((HMID.out.read hmem HTP.out).preLock HM3.out HM.out).insOk HV.out HTP.out HM3.out (by rw [lock5_row hl8]; exact HM.out))
    have HLN := hid (show (lock5 (read5 (up5 s t) t rn M) ln k).st.pc.length = n ∧ (lock5 (read5 (up5 s t) t rn M) ln k).st.regs.length = n1 ∧ (lock5 (read5 (up5 s t) t rn M) ln k).view.length = n ∧ (lock5 (read5 (up5 s t) t rn M) ln k).list.length = 3 from
      ⟨HUP.out.1, by show (s.st.regs.set _ _).length = n1; rw [List.length_set]; exact HN1.out.symm, by show (s.view.set _ _).length = n; rw [List.length_set]; exact HLS.out.1, by show (s.list.set _ _).length = 3; rw [List.length_set]; exact HLS.out.2.1⟩)
    replace HDO := hid (show do5 p s t k = ins5 (lock5 (read5 (up5 s t) t rn M) ln k) t ln (k + 1) wv from HDO.out.trans (by rw [HMV.out.1]; simp [do5x]))
    have hk24 : k < 24 := by have h1 := HM.out; have h2 := HG.out.rowlen HV.out HM3.out; omega
    clear hmem hl8 hk8
    go_wp2_with (refine wpList_load_row rfl 59 (.tmp 9) rfl w2.heap.size rfl 59 _ (0, 0) _ HB9.out Try.underlying59 rfl (by kernel_rfl) ?_)
    have hown9 := HD9.out.own
    have hok9 := HOK.out
    have hcall := HIN.out (lock5 (read5 (up5 s t) t rn M) ln k) (k + 1) HLN.out.1 HLN.out.2.1 HLN.out.2.2.1 HLN.out.2.2.2 (w8.setCell ⟨gr, k * 3 + 1, none⟩ (.bool true)) hown9 hok9 hs10
    rw [show ((k + 1 : Nat) : Int) = (k : Int) + 1 from by omega] at hcall
    refine hcall.mono ?_
    rintro e w10 ⟨rfl, hfr, hk⟩
    obtain ⟨hb6, hbl⟩ := HD9.out.after hk
    have HFR := hid hfr
    have HBE := hid hb6
    have HO6 := hid (show w10.heap[w2.heap.size]? = some (.cells #[.slice (some ⟨g0, 0, none⟩) n f0, .slice (some ⟨g1, 0, none⟩) n1 f1, .slice e2 n f2, .slice (some ⟨lb, 0, none⟩) 3 f3] 59 (0, 0)) from hbl (w2.heap.size, _, _) (.tail _ (.tail _ (.head _))))
    have HR6 := hid (show w10.heap[w.heap.size + 1]? = some (.cells zSt 59 (0, 0)) from hbl (w.heap.size + 1, _, _) (.tail _ (.head _)))
    clear z0 z1 z2 z3 hfr hb6 hbl hk u0 u1 u2 u3 v1 v2 v3 v4
    go_wp2_with (first | (refine wpList_load_row rfl 59 (.tmp 9) rfl w2.heap.size rfl 59 _ (0, 0) _ HO6.out Try.underlying59 rfl (by kernel_rfl) ?_) | (refine wpList_store_row rfl 59 (.tmp 8) (.tmp 111) rfl (w.heap.size + 1) #[.slice (some ⟨g0, 0, none⟩) n f0, .slice (some ⟨g1, 0, none⟩) n1 f1, .slice e2 n f2, .slice (some ⟨lb, 0, none⟩) 3 f3] rfl rfl 59 zSt HR6.out (by kernel_rfl) rfl HONE.out ?_))
    refine bodyPost_ret (results_cell_row rfl _ _ (w.heap.size + 1) 59 _ (0, 0) _ rfl (setRow_heap _ _ _ _ _ _ HR6.out) Try.underlying59 rfl (by kernel_rfl)) rfl ⟨⟨some ⟨g0, 0, none⟩, f0, some ⟨g1, 0, none⟩, f1, e2, f2, some ⟨lb, 0, none⟩, f3⟩, ?_, ?_⟩
    · exact congrArg Ending.returned HQV.out.symm
    · rw [HDO.out]
      exact fin5 HFR.out HBE.out _
end Go.Proofs.Ythlmfjoiicnomaa
