/-
  PROVED HERE: states with store buffers that stay away from some blocks: what (*buffers).after does with them. CONDITIONS: as each theorem states.
-/
import Derived.Test.YtbncmeggnhggkaaIbg
namespace Go.Proofs.Ytbncmeggnhggkaa
open Go.RowKit
set_option linter.unusedVariables false
set_option linter.unusedSimpArgs false

/-- The buffers bf stand from the address a on, away from the blocks of F. -/
def RdWX (w : World) (F : Nat → Prop) (a : Option Addr) (bf : List (List (Int × Int))) : Prop :=
  ∃ rs : List (Option Addr × Nat), rs.length = bf.length ∧ Rd w a (rowsW rs bf) ∧ (∀ b, blk a = some b → ¬ F b) ∧ ∀ (k : Nat) r xs, rs[k]? = some r → bf[k]? = some xs → Rd w r.1 (b8s (bytesB xs)) ∧ xs.length ≤ r.2 ∧ (xs ≠ [] → ∀ b, blk r.1 = some b → ¬ F b)
/-- A state with store buffers lies at block g, away from the blocks of F. -/
structure BAtX (w : World) (F : Nat → Prop) (a : Option Addr) (cap : Nat) (g : Nat) (p : Prg) (split : Bool) (s : St) : Prop where
  at_ : ∃ wa wc, w.heap[g]? = some (.cells (valC a p.length cap s ++ [Value.bool split, Value.slice wa s.buf.length wc]).toArray 103 (0, 0)) ∧ ¬ F g ∧ RdWX w F wa s.buf ∧ s.buf.length ≤ wc
  good : Good4 p split s
section
variable {w w' : World} {F F' : Nat → Prop} {a : Option Addr} {cap g : Nat} {p : Prg} {split : Bool} {s : St}
theorem BAtX.mat (h : BAtX w F a cap g p split s) (hp : RdP w a p) : BAt w g p split s := by
  obtain ⟨⟨wa, wc, h1, _, ⟨rs, hl, hr, _, hi⟩, h4⟩, hg⟩ := h
  exact ⟨⟨a, cap, wa, wc, h1, hp, ⟨rs, hl, hr, fun k r xs h1 h2 => ⟨(hi k r xs h1 h2).1, (hi k r xs h1 h2).2.1⟩⟩, h4⟩, hg⟩
theorem BAtX.lt (h : BAtX w F a cap g p split s) : g < w.heap.size := by
  obtain ⟨⟨wa, wc, h1, _⟩, _⟩ := h
  exact (Array.getElem?_eq_some_iff.1 h1).1
theorem rd_keepsX {cs : List Value} {x : Option Addr} (h : Rd w x cs) (hk : Keeps F w w') (hF : cs ≠ [] → ∀ b, blk x = some b → ¬ F b) : Rd w' x cs := by
  by_cases hc : cs = []
  · exact .inl hc
  · exact h.keeps hk fun j hj => hF hc j hj
theorem b8s_ne {xs : List (Int × Int)} (h : b8s (bytesB xs) ≠ []) : xs ≠ [] := by
  rintro rfl
  exact h rfl
/-- It stays where only blocks of F are changed. -/
theorem BAtX.turn (hp0 : p.length ≠ 0) (h : BAtX w F a cap g p split s) (hk : Keeps F w w') (hF : ∀ k, F' k → F k ∨ w.heap.size ≤ k) : BAtX w' F' a cap g p split s := by
  obtain ⟨⟨wa, wc, h1, h0, ⟨rs, hl, hr, hw, hi⟩, h4⟩, hg⟩ := h
  have hgl := (Array.getElem?_eq_some_iff.1 h1).1
  refine ⟨⟨wa, wc, (hk.block _ hgl h0).trans h1, fun e => ?_, ⟨rs, hl, rd_keepsX hr hk (fun _ => hw), fun b hb e => ?_, fun k r xs h1 h2 => ⟨rd_keepsX (hi k r xs h1 h2).1 hk (fun hc => (hi k r xs h1 h2).2.2 (b8s_ne hc)), (hi k r xs h1 h2).2.1, fun hne b hb e => ?_⟩⟩, h4⟩, hg⟩
  · rcases hF g e with e | e
    · exact h0 e
    · omega
  · rcases hF b e with e | e
    · exact hw b hb e
    · rcases hr with hc | ⟨b', off, rfl, hlt, _⟩
      · have hz : s.buf = [] := by
          have := congrArg List.length hc
          rw [length_rowsW hl] at this
          exact List.eq_nil_of_length_eq_zero (by simpa using this)
        have h1 := hg.bufl
        rw [hz] at h1
        have h2 := nb_pos split
        rcases Nat.mul_eq_zero.1 h1.symm with h3 | h3
        · exact (hp0 h3).elim
        · omega
      · simp [blk] at hb
        omega
  · rcases hF b e with e | e
    · exact (hi k r xs h1 h2).2.2 hne b hb e
    · rcases (hi k r xs h1 h2).1 with hc | ⟨b', off, hx, hlt, _⟩
      · exact hne (by simpa [bytesB] using hc)
      · rw [hx] at hb
        simp [blk] at hb
        omega
theorem BAtX.below (hp0 : p.length ≠ 0) (h : BAtX w F a cap g p split s) (hb : Below w.heap.size w w') : BAtX w' F a cap g p split s :=
  h.turn hp0 (Keeps.of_below hb) fun k e => .inl e
end
set_option maxRecDepth 100000 in
set_option maxHeartbeats 3200000 in
theorem bufAfterFX_c (w : World) (F : Nat → Prop) (a : Option Addr) (cap : Nat) (g : Nat) (p : Prg) (split : Bool) (s : St) (b : Nat) (el ev : Int) (es : List (Int × Int)) (hrp : RdP w a p) (hX : BAtX w F a cap g p split s) (hF : ∀ k, F k → k < w.heap.size) (hv : Shape p) (hb : b < s.buf.length) (hrow : row4 s b = (el, ev) :: es) :
    Calls Try.prog 127 #[.pointer (some ⟨g, 0, none⟩), .int .i64 ((p.length + b : Nat) : Int)] w fun e w' => ∃ B, e = .returned (.iface 100 (.pointer (some ⟨B, 0, none⟩))) ∧ BAtX w' F a cap B p split (flush4 p s b) ∧ Below w.heap.size w w' := by
  have h := hX.mat hrp
  have hg4 : Good4 p split (flush4 p s b) := by
    have hc : can4 p s split (p.length + b) = true := by
      unfold can4
      rw [if_neg (by omega), Nat.add_sub_cancel_left, hrow]; rfl
    have := h.good.do4 hv (m := p.length + b) (by omega) hc
    unfold Proofs.Ytbncmeggnhggkaa.do4 at this
    rw [if_neg (by omega), Nat.add_sub_cancel_left] at this
    exact this
  have HG4 := hid hg4
  have hvl := h.good.toGood.vlen hv
  have hbl := h.good.blen hv
  have hr7 := h.good.rlen hv (row4_get hb)
  obtain ⟨hl, hvb⟩ := h.good.ent b _ (row4_get hb) (el, ev) (by rw [hrow]; exact List.mem_cons_self)
  obtain ⟨ln, rfl⟩ : ∃ ln : Nat, el = ln := ⟨el.toNat, by have := hl.1; simp only at this; omega⟩
  have hl2 : ln ≤ 2 := by have := hl.2; simp only at this; omega
  have hv0 : 0 ≤ ev := hvb.1
  have hv3 : ev ≤ 3 := hvb.2
  obtain ⟨⟨wa, wc, hgh, hgF, ⟨rs, hrl, hrd, hwF, hri⟩, hwc⟩, hgd⟩ := hX
  have HXF := hid hF
  clear h hF hgF hwF
  have hn3 := hv.len
  have HFL := hid (show flush4 p s b = { pc := s.pc, regs := s.regs, mem := s.mem.set ln ev, buf := s.buf.set b es } from by unfold flush4; rw [hrow]; rfl)
  obtain ⟨m3, hm3⟩ : ∃ m3, s.mem[ln]? = some m3 := ⟨_, List.getElem?_eq_getElem (by rw [hgd.meml]; omega)⟩
  obtain ⟨wb, wo, hwa, hwl, hcell⟩ := hrd.at b (by rw [length_rowsW hrl]; exact hb)
  subst hwa
  obtain ⟨r0, hr0⟩ : ∃ r0, rs[b]? = some r0 := ⟨_, List.getElem?_eq_getElem (by omega)⟩
  have hgetc := rowsW_get hr0 (row4_get hb)
  rw [List.getElem?_eq_getElem (by rw [length_rowsW hrl]; exact hb)] at hgetc
  simp only [Option.some.injEq] at hgetc
  rw [hgetc] at hcell
  obtain ⟨hrow0, hrc0, _⟩ := hri b r0 _ hr0 (row4_get hb)
  rw [hrow] at hcell hrow0 hrc0 hr7
  obtain ⟨r, rc⟩ := r0
  dsimp only at hcell hrow0 hrc0
  obtain ⟨rb, ro, hra, hrbl, hbyte⟩ : ∃ rb ro, r = some ⟨rb, ro, none⟩ ∧ rb < w.heap.size ∧ ∀ j u, (b8s (bytesB (((ln : Int), ev) :: es)))[j]? = some u → w.cell? ⟨rb, ro + j, none⟩ = some u := by
    rcases hrow0 with h | h
    · cases h
    · exact h
  subst hra
  have HRF := hid ((hri b _ _ hr0 (row4_get hb)).2.2 (by rw [hrow]; exact List.cons_ne_nil _ _) rb rfl)
  obtain ⟨l, hll⟩ : ∃ l, l = es.length := ⟨_, rfl⟩
  rw [List.length_cons, ← hll] at hcell hrc0 hr7
  have HLL := hid hll
  obtain ⟨n, hn⟩ : ∃ n, n = p.length := ⟨_, rfl⟩
  have HN := hid hn
  obtain ⟨bl, hbn⟩ : ∃ bl, bl = s.buf.length := ⟨_, rfl⟩
  have HBN := hid hbn
  rw [← hn] at hgh hn3 ⊢
  rw [← hbn] at hgh hbl hwc
  have hbb : b < bl := by rw [hbn]; exact hb
  have HRP := hid hrp
  have HRD := hid hrd
  have HRI := hid hri
  have HRL := hid hrl
  have HR0 := hid hr0
  have HM3 := hid hm3
  have HB0 := hid (hbyte 0 _ rfl)
  have HBY := hid hbyte
  have HCE := hid (And.intro hwl hcell)
  have hgl : g < w.heap.size := (Array.getElem?_eq_some_iff.1 hgh).1
  have c0 : w.cell? ⟨g, 0, none⟩ = some (.slice a n cap) := by
    rw [cell_of_row w g 0 _ _ _ hgh]; rfl
  have c17 : w.cell? ⟨g, 17, none⟩ = some (.slice (some ⟨wb, wo, none⟩) bl wc) := by
    have e := length_valC (a := a) (n := n) (cap := cap) hvl
    rw [cell_of_row w g 17 _ _ _ hgh, List.getElem?_toArray, List.getElem?_append_right (by omega), e]; rfl
  have HC0 := hid c0
  have HC17 := hid c17
  obtain ⟨V, hV⟩ : ∃ V, V = (valC a n cap s ++ [Value.bool split, Value.slice (some ⟨wb, wo, none⟩) bl wc]).toArray := ⟨_, rfl⟩
  rw [← hV] at hgh
  have HG := hid hgh
  have HVV := hid hV
  have HONE := hid (show V.all (·.oneCell') = true from by
    rw [hV]
    simp [valC, Value.oneCell'])
  have e18 : V.size = 18 := by rw [hV, List.size_toArray, List.length_append, length_valC hvl]; rfl
  have HSZ := hid (show (Try.prog.info? 103).map (·.size) = some V.size from by rw [e18]; kernel_rfl)
  have HSZ18 := hid (show z18.size = V.size from by rw [e18]; rfl)
  have HCLO := hid (fun w h hl h1 => cloneW_c w ⟨wb, wo, none⟩ bl wc (rowsW rs s.buf) h hl h1 (by omega))
  have HVL := hid hvl
  clear hgh hrp hrd hri hrl hr0 hm3 hbyte hwl hcell c0 c17 hV e18 hrow hn hbn hll hg4 hgd hgetc hrow0 hv hl hvb hvl
  go_enter Try.func127, Try.ntmps127
  go_wp2_with (first | (refine wpList_load_row rfl 103 (.tmp 12) rfl g rfl 103 V (0, 0) _ HG.out Try.underlying103 rfl HSZ.out ?_) | (refine wpList_store_row rfl 103 (.tmp 5) (.tmp 13) rfl w.heap.size V rfl rfl 103 _ (heap_alloc_new w _) HSZ.out HSZ18.out HONE.out ?_; have c17w : ((w.alloc (.cells z18 103)).setRow w.heap.size V).cell? ⟨g, 17, none⟩ = some (.slice (some ⟨wb, wo, none⟩) bl wc) := ((Proofs.Ytbncmeggnhggkaa.Below.keeps ((Below.refl w.heap.size w).alloc (Nat.le_refl _) (.cells z18 103)) (keeps_setRow _ w.heap.size V) (by simp) (fun k e => by omega)).cell (p := ⟨g, 17, none⟩) hgl).trans HC17.out))
  have D1 : AfI w w.heap.size a n cap [.bool split, .slice (some ⟨wb, wo, none⟩) bl wc] 103 s ((w.alloc (.cells z18 103)).setRow w.heap.size V) := by
    refine ⟨?_, HVL.out, ?_, Nat.le_refl _⟩
    · rw [setRow_heap _ _ _ V _ _ (heap_alloc_new w _), HVV.out]
    · exact Proofs.Ytbncmeggnhggkaa.Below.keeps ((Below.refl w.heap.size w).alloc (Nat.le_refl _) (.cells z18 103)) (keeps_setRow _ w.heap.size V) (by simp) (fun k e => by omega)
  obtain ⟨w1, hw1⟩ : ∃ w1, w1 = (w.alloc (.cells z18 103)).setRow w.heap.size V := ⟨_, rfl⟩
  rw [← hw1] at D1 ⊢
  have HD1 := hid D1
  clear D1 hw1
  refine (HCLO.out w1 (HRD.out.below HD1.out.below) (by rw [length_rowsW HRL.out, ← HBN.out]) rowsW_one).mono ?_
  rintro e w2 ⟨a2, c2, rfl, hown2, hb2⟩
  obtain ⟨C, rfl, hC1, hC2⟩ := own_some hown2 (by omega)
  have HCF := hid (show ∀ b, blk (some (⟨C, 0, none⟩ : Addr)) = some b → ¬ F b from fun b hb e => by have h1 := HXF.out b e; have h2 := HD1.out.below.size; simp [blk] at hb; omega)
  have HD2 := hid (HD1.out.later hb2)
  have x17 := HD2.out.cell17
  have f17 := HD2.out.free 17
  have hlt1 := HD1.out.lt
  have HD3 := hid (HD2.out.setex (z := .slice (some ⟨C, 0, none⟩) bl c2))
  have hown3 := own_keeps hown2 (Keeps.setCell w2 ⟨w.heap.size, 17, none⟩ (.slice (some ⟨C, 0, none⟩) bl c2)) (fun k hk e => by simp [blk] at hk; simp at e; omega)
  have HO3 := hid (own_base hown3 (by have := HD1.out.below.size; omega : w.heap.size ≤ w1.heap.size))
  have hcap := hid (own_cap hown3)
  obtain ⟨w3, hw3⟩ : ∃ w3, w3 = w2.setCell ⟨w.heap.size, 17, none⟩ (.slice (some ⟨C, 0, none⟩) bl c2) := ⟨_, rfl⟩
  rw [← hw3] at HD3 HO3
  have hB3 := HD3.out.below
  have y0 := (hB3.cell (p := ⟨g, 0, none⟩) hgl).trans HC0.out
  have y17 := (hB3.cell (p := ⟨g, 17, none⟩) hgl).trans HC17.out
  have yr := (hB3.cell (p := ⟨wb, wo + b, none⟩) HCE.out.1).trans HCE.out.2
  have yb := (hB3.cell (p := ⟨rb, ro, none⟩) hrbl).trans HB0.out
  rw [hw3] at y0 y17 yr yb
  have e1 : (n : Int) + (b : Int) - (n : Int) = (b : Int) := by omega
  have e2 : (n : Int) ≤ (n : Int) + (b : Int) := by omega
  have hb1 : (b : Int) < (bl : Int) := by omega
  have hl1 : (0 : Int) < (l : Int) + 1 := by omega
  clear hown2 hown3 hB3 hb2
  have zc := HO3.out.cellAt b (by omega)
  rw [rowsW_get HR0.out (row4_get hb)] at zc
  have zf := HO3.out.frozenAt b
  have z17 := HD3.out.cell17
  have v17 := (HD3.out.below.cell (p := ⟨g, 17, none⟩) hgl).trans HC17.out
  have vr := (HD3.out.below.cell (p := ⟨wb, wo + b, none⟩) HCE.out.1).trans HCE.out.2
  have e3 : ((ln : Int) * 16 + ev) / 16 = (ln : Int) := by omega
  have e4 : ((ln : Int) * 16 + ev) % 16 = ev := by omega
  have hrc1 : (1 : Int) ≤ (rc : Int) := by omega
  have hln3 : (ln : Int) < 3 := by omega
  have HRN := hid (show Rd w (some ⟨rb, ro + 1, none⟩) (b8s (bytesB es)) from .inr ⟨rb, ro + 1, rfl, hrbl, fun j u hj => by
    have := HBY.out (j + 1) u (by simpa [bytesB] using hj)
    rw [show ro + 1 + j = ro + (j + 1) by omega]; exact this⟩)
  by_cases hc2 : rc = 1
  · have hl0 : l = 0 := by omega
    have HES := hid (show es = [] from List.eq_nil_of_length_eq_zero (by rw [← HLL.out]; exact hl0))
    subst hl0
    subst hc2
    go_wp2_with fail
    rw [← hw3]
    clear hw3
    refine wp_region_mix (by kernel_rfl) (by kernel_rfl) ?_
    repeat (with_reducible refine wpMix_rd rfl rfl (fun K hK => ?_); go_simp; (try go_bits); refine hK _ ?_; clear hK K)
    (with_reducible refine wpMix_act (o := ⟨_, .store _ _ _, _, _, _, _⟩) rfl rfl (fun K hK => ?_))
    go_simp
    refine hK _ _ ?_
    clear hK K
    have st4 := (HO3.out.stored b (.slice (some ⟨rb, ro, none⟩) (0) (0))).1
    have hset := rowsW_set HRL.out b (some ⟨rb, ro, none⟩, 0) es
    rw [← HLL.out] at hset
    dsimp only at hset
    rw [hset] at st4
    have HD4 := hid (AfI.drew (HD3.out.other (C := C) (j := b) (v := .slice (some ⟨rb, ro, none⟩) (0) (0)) (by omega) (by omega)))
    obtain ⟨w4, hw4⟩ : ∃ w4, w4 = (w3.setCell ⟨C, b, none⟩ (.slice (some ⟨rb, ro, none⟩) (0) (0))).drew := ⟨_, rfl⟩
    have HO4 := hid (show w4.ownsRow w.heap.size 138 1 (.slice (some ⟨C, 0, none⟩) bl c2) bl (rowsW (rs.set b (some ⟨rb, ro, none⟩, 0)) (s.buf.set b es)) from by rw [hw4]; exact st4)
    rw [← hw4] at HD4 ⊢
    clear hw4 st4 hset zc zf z17 v17 vr
    (with_reducible refine wpMix_nil ?_)
    have m4 := HD4.out.cell (valC_mem HD4.out.len HM3.out)
    have g4 := HD4.out.free (13 + ln)
    have HD5 := hid (HD4.out.setmem (l := ln) (by omega) ev)
    have HO5 := hid (own_keeps HO4.out (Keeps.setCell w4 ⟨w.heap.size, 13 + ln, none⟩ (.int .u8 ev)) (fun k hk e => by simp [blk] at hk; simp at e; omega))
    go_wp2
    go_ret
    refine ⟨w.heap.size, rfl, ⟨⟨some ⟨C, 0, none⟩, c2, ?_, fun e => Nat.lt_irrefl _ (HXF.out _ e), ?_, ?_⟩, HG4.out⟩, HD5.out.below⟩
    · rw [HFL.out, ← HN.out]
      dsimp only
      rw [List.length_set, ← HBN.out]
      exact HD5.out.cur
    · rw [HFL.out]
      refine ⟨rs.set b (some ⟨rb, ro, none⟩, 0), by simp [HRL.out], Rd.own HO5.out, HCF.out, fun k r xs h1 h2 => ?_⟩
      by_cases hk : b = k
      · subst hk
        rw [List.getElem?_set_self (by rw [HRL.out]; exact hb)] at h1
        rw [List.getElem?_set_self hb] at h2
        cases h1
        cases h2
        exact ⟨Rd.below (w := w) (.inl (by rw [HES.out]; rfl)) HD5.out.below, by rw [← HLL.out]; dsimp only; omega, fun hne => absurd HES.out hne⟩
      · rw [List.getElem?_set_ne hk] at h1
        rw [List.getElem?_set_ne hk] at h2
        exact ⟨(HRI.out k r xs h1 h2).1.below HD5.out.below, (HRI.out k r xs h1 h2).2⟩
    · rw [HFL.out]
      dsimp only
      rw [List.length_set, ← HBN.out]
      exact hcap.out
  · have hc3 : (1 : Int) < (rc : Int) := by omega
    have hs1 : (1 : Int) ≤ (l : Int) + 1 := by omega
    have hs2 : (l : Int) + 1 ≤ (rc : Int) := by omega
    go_wp2_with fail
    rw [← hw3]
    clear hw3
    refine wp_region_mix (by kernel_rfl) (by kernel_rfl) ?_
    repeat (with_reducible refine wpMix_rd rfl rfl (fun K hK => ?_); go_simp; (try go_bits); refine hK _ ?_; clear hK K)
    (with_reducible refine wpMix_act (o := ⟨_, .store _ _ _, _, _, _, _⟩) rfl rfl (fun K hK => ?_))
    go_simp
    refine hK _ _ ?_
    clear hK K
    have st4 := (HO3.out.stored b (.slice (some ⟨rb, ro + 1, none⟩) (l) (rc - 1))).1
    have hset := rowsW_set HRL.out b (some ⟨rb, ro + 1, none⟩, rc - 1) es
    rw [← HLL.out] at hset
    dsimp only at hset
    rw [hset] at st4
    have HD4 := hid (AfI.drew (HD3.out.other (C := C) (j := b) (v := .slice (some ⟨rb, ro + 1, none⟩) (l) (rc - 1)) (by omega) (by omega)))
    obtain ⟨w4, hw4⟩ : ∃ w4, w4 = (w3.setCell ⟨C, b, none⟩ (.slice (some ⟨rb, ro + 1, none⟩) (l) (rc - 1))).drew := ⟨_, rfl⟩
    have HO4 := hid (show w4.ownsRow w.heap.size 138 1 (.slice (some ⟨C, 0, none⟩) bl c2) bl (rowsW (rs.set b (some ⟨rb, ro + 1, none⟩, rc - 1)) (s.buf.set b es)) from by rw [hw4]; exact st4)
    rw [← hw4] at HD4 ⊢
    clear hw4 st4 hset zc zf z17 v17 vr
    (with_reducible refine wpMix_nil ?_)
    have m4 := HD4.out.cell (valC_mem HD4.out.len HM3.out)
    have g4 := HD4.out.free (13 + ln)
    have HD5 := hid (HD4.out.setmem (l := ln) (by omega) ev)
    have HO5 := hid (own_keeps HO4.out (Keeps.setCell w4 ⟨w.heap.size, 13 + ln, none⟩ (.int .u8 ev)) (fun k hk e => by simp [blk] at hk; simp at e; omega))
    go_wp2
    go_ret
    refine ⟨w.heap.size, rfl, ⟨⟨some ⟨C, 0, none⟩, c2, ?_, fun e => Nat.lt_irrefl _ (HXF.out _ e), ?_, ?_⟩, HG4.out⟩, HD5.out.below⟩
    · rw [HFL.out, ← HN.out]
      dsimp only
      rw [List.length_set, ← HBN.out]
      exact HD5.out.cur
    · rw [HFL.out]
      refine ⟨rs.set b (some ⟨rb, ro + 1, none⟩, rc - 1), by simp [HRL.out], Rd.own HO5.out, HCF.out, fun k r xs h1 h2 => ?_⟩
      by_cases hk : b = k
      · subst hk
        rw [List.getElem?_set_self (by rw [HRL.out]; exact hb)] at h1
        rw [List.getElem?_set_self hb] at h2
        cases h1
        cases h2
        exact ⟨Rd.below (w := w) HRN.out HD5.out.below, by rw [← HLL.out]; dsimp only; omega, fun _ b' hb' => by
          simp [blk] at hb'
          subst hb'
          exact HRF.out⟩
      · rw [List.getElem?_set_ne hk] at h1
        rw [List.getElem?_set_ne hk] at h2
        exact ⟨(HRI.out k r xs h1 h2).1.below HD5.out.below, (HRI.out k r xs h1 h2).2⟩
    · rw [HFL.out]
      dsimp only
      rw [List.length_set, ← HBN.out]
      exact hcap.out
set_option maxRecDepth 100000 in
set_option maxHeartbeats 6400000 in
theorem bufAfterTX_c (w : World) (F : Nat → Prop) (a : Option Addr) (cap : Nat) (g : Nat) (p : Prg) (split : Bool) (s : St) (t : Nat) (hrp : RdP w a p) (hX : BAtX w F a cap g p split s) (hF : ∀ k, F k → k < w.heap.size) (hv : Shape p) (ht : t < p.length) (hr : ready4 p s split t = true) :
    Calls Try.prog 127 #[.pointer (some ⟨g, 0, none⟩), .int .i64 t] w fun e w' => ∃ B, e = .returned (.iface 100 (.pointer (some ⟨B, 0, none⟩))) ∧ BAtX w' F a cap B p split (do4 p s split t) ∧ Below w.heap.size w w' := by
  have h := hX.mat hrp
  have hg4 : Good4 p split (do4 p s split t) := h.good.do4 hv (by omega) (by unfold can4; rw [if_pos ht]; exact hr)
  have HG4 := hid hg4
  have hgo : goes p s t = true := by unfold ready4 at hr; simp only [Bool.and_eq_true] at hr; exact hr.1
  have hem : waits4 (nxt p s t) = true → empty4 s t split = true := fun hw => by
    unfold ready4 at hr
    rw [hw] at hr
    simp only [Bool.and_eq_true, Bool.not_true, Bool.false_or] at hr
    exact hr.2
  obtain ⟨xs, k, x, hxs, hk, hx, hiv, hnx, hk7⟩ := h.good.toGood.next hv hgo
  have hvl := h.good.toGood.vlen hv
  have hbl := h.good.blen hv
  have HAT := hid h
  have HNX := hid (fun w (h : BAt w g p split s) => next_c w g p s t h.v hv ht)
  have HSTO := hid (fun w (h : BAt w g p split s) => stored_c w g p s t x h.v hv ht hiv)
  have HRE := hid (fun w => readsI_c w x)
  obtain ⟨ln, hln, hl2⟩ := valid_loc hiv
  obtain ⟨rn, hrn, hr2⟩ := valid_reg hiv
  have hval := valid_val hiv
  have hop := valid_op hiv
  have HRD4 := hid (fun w (h : BAt w g p split s) => read_c w g p split s t ln h hv ht hl2)
  have hsv := h.good.seen (split := split) t ln
  obtain ⟨⟨wa, wc, hgh, hgF, ⟨rs, hrl, hrd, hwF, hri⟩, hwc⟩, hgd⟩ := hX
  have HXF := hid hF
  clear h hF hgF hwF
  have hil : t * 3 + rn < s.regs.length := by rw [hgd.regl]; omega
  have htl : t < s.pc.length := by rw [hgd.pcl]; exact ht
  have hn3 := hv.len
  obtain ⟨m3, hm3⟩ : ∃ m3, s.mem[ln]? = some m3 := ⟨_, List.getElem?_eq_getElem (by rw [hgd.meml]; omega)⟩
  have hb0 : 0 < s.buf.length := by
    rw [hgd.bufl]
    exact Nat.mul_pos (by omega) (by have := nb_pos split; omega)
  obtain ⟨wb, wo, hwa, hwl, hwx⟩ := hrd.at 0 (by rw [length_rowsW hrl]; exact hb0)
  subst hwa
  have hdoL : x.op = 1 → do4 p s split t = { pc := s.pc.set t ((k : Int) + 1), regs := s.regs.set (t * 3 + rn) (seen4 s t ln split), mem := s.mem, buf := s.buf } := fun h1 => by
    unfold do4
    rw [if_pos ht, hnx, if_neg (by simp [waits4, h1]), if_pos h1, hrn, hln]
    simp [List.getD_eq_getElem?_getD, hk]
  have hdoW : waits4 x = true → do4 p s split t = { pc := s.pc.set t ((k : Int) + 1), regs := if insReads x then s.regs.set (t * 3 + rn) (seen4 s t ln split) else s.regs, mem := if insWrites x then s.mem.set ln (wval s t x) else s.mem, buf := s.buf } := fun h1 => by
    unfold do4
    rw [if_pos ht, hnx, if_pos h1]
    unfold do3
    rw [hnx, hrn, hln, seen4_empty hl2 (hem (by rw [hnx]; exact h1))]
    simp [List.getD_eq_getElem?_getD, hk]
  have hdoS : x.op ≠ 1 → waits4 x = false → do4 p s split t = { pc := s.pc.set t ((k : Int) + 1), regs := s.regs, mem := s.mem, buf := s.buf.set (place t ln split) (row4 s (place t ln split) ++ [((ln : Int), wval s t x)]) } := fun h1 h2 => by
    unfold do4
    rw [if_pos ht, hnx, if_neg (by rw [h2]; decide), if_neg h1, hln]
    simp [List.getD_eq_getElem?_getD, hk]
  have hpls : place t ln split < s.buf.length := by rw [hgd.bufl]; exact place_lt ht hl2
  have hrow7 := hgd.rlen hv (row4_get hpls)
  have hwvb := hgd.toGood.wv (t := t) hiv
  have HBUF := hid (fun w (h : BAt w g p split s) => buffer_c w g p split s t ln _ rfl h hv (by have := hv.len; omega) (by omega))
  obtain ⟨r0, hr0⟩ : ∃ r0, rs[place t ln split]? = some r0 := ⟨_, List.getElem?_eq_getElem (by omega)⟩
  obtain ⟨hrow0, hrc0, _⟩ := hri _ r0 _ hr0 (row4_get hpls)
  have hcellr := hrd.at (place t ln split) (by rw [length_rowsW hrl]; exact hpls)
  have hgetc := rowsW_get hr0 (row4_get hpls)
  rw [List.getElem?_eq_getElem (by rw [length_rowsW hrl]; exact hpls)] at hgetc
  simp only [Option.some.injEq] at hgetc
  rw [hgetc] at hcellr
  obtain ⟨wb', wo', hwa', hwl', hcellr⟩ := hcellr
  simp only [Option.some.injEq, Addr.mk.injEq, and_true] at hwa'
  obtain ⟨rfl, rfl⟩ := hwa'
  have HCR := hid (And.intro hwl' hcellr)
  have HROW := hid hrow0
  have HR0 := hid hr0
  have HPLS := hid hpls
  obtain ⟨wv, hwv⟩ : ∃ wv, wv = wval s t x := ⟨_, rfl⟩
  rw [← hwv] at HSTO hdoS hwvb
  rw [hgo, hnx] at HNX
  simp only [↓reduceIte] at HNX
  obtain ⟨op, loc, reg, val⟩ := x
  have hln : loc = ln := hln
  have hrn : reg = rn := hrn
  subst hln
  subst hrn
  obtain ⟨sv, hsv0⟩ : ∃ sv, sv = seen4 s t ln split := ⟨_, rfl⟩
  rw [← hsv0] at HRD4 hsv hdoL hdoW
  have HDL := hid hdoL
  have HDW := hid hdoW
  have HDS := hid hdoS
  obtain ⟨n, hn⟩ : ∃ n, n = p.length := ⟨_, rfl⟩
  have HN := hid hn
  obtain ⟨bl, hbn⟩ : ∃ bl, bl = s.buf.length := ⟨_, rfl⟩
  have HBN := hid hbn
  rw [← hn] at hgh hn3 ht
  rw [← hbn] at hgh hbl hwc hb0
  have HRP := hid hrp
  have HRD := hid hrd
  have HRI := hid hri
  have HRL := hid hrl
  have HM3 := hid hm3
  have HK := hid hk
  have hgl : g < w.heap.size := (Array.getElem?_eq_some_iff.1 hgh).1
  have c0 : w.cell? ⟨g, 0, none⟩ = some (.slice a n cap) := by
    rw [cell_of_row w g 0 _ _ _ hgh]; rfl
  have c17 : w.cell? ⟨g, 17, none⟩ = some (.slice (some ⟨wb, wo, none⟩) bl wc) := by
    have e := length_valC (a := a) (n := n) (cap := cap) hvl
    rw [cell_of_row w g 17 _ _ _ hgh, List.getElem?_toArray, List.getElem?_append_right (by omega), e]; rfl
  have HC0 := hid c0
  have HC17 := hid c17
  obtain ⟨V, hV⟩ : ∃ V, V = (valC a n cap s ++ [Value.bool split, Value.slice (some ⟨wb, wo, none⟩) bl wc]).toArray := ⟨_, rfl⟩
  rw [← hV] at hgh
  have HG := hid hgh
  have HVV := hid hV
  have HONE := hid (show V.all (·.oneCell') = true from by
    rw [hV]
    simp [valC, Value.oneCell'])
  have e18 : V.size = 18 := by rw [hV, List.size_toArray, List.length_append, length_valC hvl]; rfl
  have HSZ := hid (show (Try.prog.info? 103).map (·.size) = some V.size from by rw [e18]; kernel_rfl)
  have HSZ18 := hid (show z18.size = V.size from by rw [e18]; rfl)
  have HCLO := hid (fun w h hl h1 => cloneW_c w ⟨wb, wo, none⟩ bl wc (rowsW rs s.buf) h hl h1 (by omega))
  have HVL := hid hvl
  have ht3 : (t : Int) < 3 := by omega
  have hl3 : (ln : Int) < 3 := by omega
  have hr3 : (rn : Int) < 3 := by omega
  have e2 : ¬ ((n : Int) ≤ (t : Int)) := by omega
  have hop1 : 1 ≤ op := hop.1
  have hop5 : op ≤ 5 := hop.2
  clear hdoS hwv hcellr hgetc hrow0 hrc0 hwl' hr0 hwx hgh hrp hrd hri hrl hm3 hwl c0 c17 hV e18 hn hbn hg4 hgd hv hgo hr hem hxs hk hx hiv hnx hdoL hdoW hsv0 hop
  go_enter Try.func127, Try.ntmps127
  go_wp2_with (first | (refine wpList_load_row rfl 103 (.tmp 12) rfl g rfl 103 V (0, 0) _ HG.out Try.underlying103 rfl HSZ.out ?_) | (refine wpList_store_row rfl 103 (.tmp 5) (.tmp 13) rfl w.heap.size V rfl rfl 103 _ (heap_alloc_new w _) HSZ.out HSZ18.out HONE.out ?_; have c17w : ((w.alloc (.cells z18 103)).setRow w.heap.size V).cell? ⟨g, 17, none⟩ = some (.slice (some ⟨wb, wo, none⟩) bl wc) := ((Proofs.Ytbncmeggnhggkaa.Below.keeps ((Below.refl w.heap.size w).alloc (Nat.le_refl _) (.cells z18 103)) (keeps_setRow _ w.heap.size V) (by simp) (fun k e => by omega)).cell (p := ⟨g, 17, none⟩) hgl).trans HC17.out))
  have D1 : AfI w w.heap.size a n cap [.bool split, .slice (some ⟨wb, wo, none⟩) bl wc] 103 s ((w.alloc (.cells z18 103)).setRow w.heap.size V) := by
    refine ⟨?_, HVL.out, ?_, Nat.le_refl _⟩
    · rw [setRow_heap _ _ _ V _ _ (heap_alloc_new w _), HVV.out]
    · exact Proofs.Ytbncmeggnhggkaa.Below.keeps ((Below.refl w.heap.size w).alloc (Nat.le_refl _) (.cells z18 103)) (keeps_setRow _ w.heap.size V) (by simp) (fun k e => by omega)
  obtain ⟨w1, hw1⟩ : ∃ w1, w1 = (w.alloc (.cells z18 103)).setRow w.heap.size V := ⟨_, rfl⟩
  rw [← hw1] at D1 ⊢
  have HD1 := hid D1
  clear D1 hw1
  refine (HCLO.out w1 (HRD.out.below HD1.out.below) (by rw [length_rowsW HRL.out, ← HBN.out]) rowsW_one).mono ?_
  rintro e w2 ⟨a2, c2, rfl, hown2, hb2⟩
  obtain ⟨C, rfl, hC1, hC2⟩ := own_some hown2 (by omega)
  have HCF := hid (show ∀ b, blk (some (⟨C, 0, none⟩ : Addr)) = some b → ¬ F b from fun b hb e => by have h1 := HXF.out b e; have h2 := HD1.out.below.size; simp [blk] at hb; omega)
  have HD2 := hid (HD1.out.later hb2)
  have x17 := HD2.out.cell17
  have f17 := HD2.out.free 17
  have hlt1 := HD1.out.lt
  have HD3 := hid (HD2.out.setex (z := .slice (some ⟨C, 0, none⟩) bl c2))
  have hown3 := own_keeps hown2 (Keeps.setCell w2 ⟨w.heap.size, 17, none⟩ (.slice (some ⟨C, 0, none⟩) bl c2)) (fun k hk e => by simp [blk] at hk; simp at e; omega)
  have HO3 := hid (own_base hown3 (by have := HD1.out.below.size; omega : w.heap.size ≤ w1.heap.size))
  have hcap := hid (own_cap hown3)
  obtain ⟨w3, hw3⟩ : ∃ w3, w3 = w2.setCell ⟨w.heap.size, 17, none⟩ (.slice (some ⟨C, 0, none⟩) bl c2) := ⟨_, rfl⟩
  rw [← hw3] at HD3 HO3
  have y0 := (HD3.out.below.cell (p := ⟨g, 0, none⟩) hgl).trans HC0.out
  rw [hw3] at y0
  have hs3 : w3.heap.size = w2.heap.size := by rw [hw3]; simp [World.setCell]
  clear hown2 hown3 hb2 HD1 HD2
  go_wp2_with fail
  rw [← hw3]
  clear hw3 y0 x17 f17
  refine (HNX.out w3 (HAT.out.below HD3.out.below)).mono ?_
  rintro e w4 ⟨rfl, hb4⟩
  have hs4 := hb4.size
  have HD4 := hid (HD3.out.later hb4)
  have hlt4 : w.heap.size < w4.heap.size := HD4.out.lt
  have hx5 : Box ((w4.setCell ⟨w.heap.size, 1 + t, none⟩ (.int .u8 ((k : Int) + 1))).alloc (.cells #[.int .i64 op, .int .i64 ln, .int .i64 rn, .int .i64 val] 79)) w4.heap.size ⟨op, ln, rn, val⟩ := by
    have e : (w4.setCell ⟨w.heap.size, 1 + t, none⟩ (.int .u8 ((k : Int) + 1))).heap.size = w4.heap.size := by simp [World.setCell]
    have := Box.new (w4.setCell ⟨w.heap.size, 1 + t, none⟩ (.int .u8 ((k : Int) + 1))) ⟨op, ln, rn, val⟩ 79
    rw [e] at this
    exact this
  have HD5 := hid ((HD4.out.setpc htl ((k : Int) + 1)).later ((Below.refl _ _).alloc (Nat.le_refl _) (.cells #[.int .i64 op, .int .i64 ln, .int .i64 rn, .int .i64 val] 79)))
  have ho4 := own_keeps (own_below HO3.out hb4) (Keeps.setCell w4 ⟨w.heap.size, 1 + t, none⟩ (.int .u8 ((k : Int) + 1))) (fun b hb e => by simp [blk] at hb; simp at e; omega)
  have HO5 := hid (World.ownsRow.alloc ho4 (.cells #[.int .i64 op, .int .i64 ln, .int .i64 rn, .int .i64 val] 79))
  have p4 := HD4.out.cell (valC_pc HD4.out.len HK.out)
  have f4 := HD4.out.free (1 + t)
  have HX5 := hid hx5
  clear hb4 hx5 ho4
  go_wp2_with fail
  obtain ⟨w5, hw5⟩ : ∃ w5, w5 = (w4.setCell ⟨w.heap.size, 1 + t, none⟩ (.int .u8 ((k : Int) + 1))).alloc (.cells #[.int .i64 op, .int .i64 ln, .int .i64 rn, .int .i64 val] 79) := ⟨_, rfl⟩
  rw [← hw5] at HD5 HX5 HO5 ⊢
  have hs5 : w5.heap.size = w4.heap.size + 1 := by rw [hw5]; simp [World.setCell]
  clear p4 f4 HD4 HD3 HO3 hw5
  refine (HRE.out _).mono ?_
  rintro e w6 ⟨rfl, hb6⟩
  have HD6 := hid (HD5.out.later hb6)
  have HX6 := hid (HX5.out.below hb6 (by omega))
  have HO6 := hid (own_below HO5.out hb6)
  have hs6 := hb6.size
  clear HD5 HX5 HO5 hb6
  by_cases h1 : op = 1
  · subst h1
    rw [show insReads ⟨1, ln, rn, val⟩ = true from rfl]
    have HFL := hid (HDL.out rfl)
    have x6 := Box.four HX6.out
    obtain ⟨J, hJ⟩ : ∃ J : World → Prop, J = fun w' => Below w6.heap.size w6 w' := ⟨_, rfl⟩
    have HJ := hid (fun w' (h : Below w6.heap.size w6 w') => show J w' by rw [hJ]; exact h)
    have HC := hid (fun w' (h : J w') => show w'.cell? ⟨w4.heap.size, 0, none⟩ = some (.int .i64 1) ∧ w'.cell? ⟨w4.heap.size, 1, none⟩ = some (.int .i64 ln) ∧ w'.cell? ⟨w4.heap.size, 2, none⟩ = some (.int .i64 rn) ∧ w'.cell? ⟨w4.heap.size, 3, none⟩ = some (.int .i64 val) from by
      rw [hJ] at h
      exact HX6.out.below h (by omega))
    have hJ0 : J w6.drew := HJ.out _ (below_drewN 1 (Below.refl _ _))
    clear x6
    obtain ⟨r6, hr6⟩ : ∃ r6, s.regs[t * 3 + rn]? = some r6 := ⟨_, List.getElem?_eq_getElem hil⟩
    have HR6 := hid hr6
    clear hr6
    have HJB := hid (fun w' (h : J w') => show Below w6.heap.size w6 w' by rw [hJ] at h; exact h)
    have HJI := hid (fun S ρ w' (h : ChI [7] (rdR sv) J S ρ w') => h.j)
    clear hJ
    go_wp2_with fail
    refine FR.wp_region_free 12 (ChI [7] (rdR sv) J) (by kernel_rfl) (by kernel_rfl) (by kernel_rfl) (fun _ => undef) (ChI.start hJ0 trivial) fun V => ?_
    (refine FR.frGo_pure _ rfl (fun K hK => ?_); go_simp; (first | refine hK _ ?_ | refine ⟨_, fun W hW => rfl, hK _ ?_⟩ | refine ⟨_, fun W hW => ⟨rfl, rfl⟩, hK _ ?_⟩); clear hK K)
    (refine FR.frGo_pure _ rfl (fun K hK => ?_); go_simp; (first | refine hK _ ?_ | refine ⟨_, fun W hW => rfl, hK _ ?_⟩ | refine ⟨_, fun W hW => ⟨rfl, rfl⟩, hK _ ?_⟩); clear hK K)
    (refine FR.frGo_held _ rfl J (fun S ρ w' h _ => HJI.out S ρ w' h) (fun K hK => ?_); go_simp; apply Exists.intro; refine And.intro (fun W hW => ?_) (hK _ ?_); (focus (have hcs := HC.out W hW; go_simp; try rfl)); clear hK K)
    (refine FR.frGo_pure _ rfl (fun K hK => ?_); go_simp; (first | refine hK _ ?_ | refine ⟨_, fun W hW => rfl, hK _ ?_⟩ | refine ⟨_, fun W hW => ⟨rfl, rfl⟩, hK _ ?_⟩); clear hK K)
    (refine FR.frGo_pure _ rfl (fun K hK => ?_); go_simp; (first | refine hK _ ?_ | refine ⟨_, fun W hW => rfl, hK _ ?_⟩ | refine ⟨_, fun W hW => ⟨rfl, rfl⟩, hK _ ?_⟩); clear hK K)
    (refine FR.frGo_pure _ rfl (fun K hK => ?_); go_simp; (first | refine hK _ ?_ | refine ⟨_, fun W hW => rfl, hK _ ?_⟩ | refine ⟨_, fun W hW => ⟨rfl, rfl⟩, hK _ ?_⟩); clear hK K)
    (refine FR.frGo_held _ rfl J (fun S ρ w' h _ => HJI.out S ρ w' h) (fun K hK => ?_); go_simp; apply Exists.intro; refine And.intro (fun W hW => ?_) (hK _ ?_); (focus (have hcs := HC.out W hW; go_simp; try rfl)); clear hK K)
    refine FR.frGo_act (k := 7) _ rfl (fun S ρ w' hI hS hp K hK => ?_) ?_
    · have hb := HJB.out w' hI.j
      go_simp
      refine (HRD4.out w' ((HAT.out.below HD6.out.below).below hb)).mono ?_
      rintro e w'' ⟨rfl, hb2⟩
      refine hK _ _ (hI.next (i := 0) (by decide) rfl hS (by simp) (HJ.out _ (hb.trans (hb2.mono hb.size))) ?_)
      show FR.upd ρ 7 _ 7 = _
      rw [FR.upd_same]
    (refine FR.frGo_pure _ rfl (fun K hK => ?_); go_simp; (first | refine hK _ ?_ | refine ⟨_, fun W hW => rfl, hK _ ?_⟩ | refine ⟨_, fun W hW => ⟨rfl, rfl⟩, hK _ ?_⟩); clear hK K)
    (refine FR.frGo_pure _ rfl (fun K hK => ?_); go_simp; (first | refine hK _ ?_ | refine ⟨_, fun W hW => rfl, hK _ ?_⟩ | refine ⟨_, fun W hW => ⟨rfl, rfl⟩, hK _ ?_⟩); clear hK K)
    (refine FR.frGo_pure _ rfl (fun K hK => ?_); go_simp; (first | refine hK _ ?_ | refine ⟨_, fun W hW => rfl, hK _ ?_⟩ | refine ⟨_, fun W hW => ⟨rfl, rfl⟩, hK _ ?_⟩); clear hK K)
    (refine FR.frGo_pure _ rfl (fun K hK => ?_); go_simp; (first | refine hK _ ?_ | refine ⟨_, fun W hW => rfl, hK _ ?_⟩ | refine ⟨_, fun W hW => ⟨rfl, rfl⟩, hK _ ?_⟩); clear hK K)
    refine FR.frGo_nil _ ?_
    intro S ρ w7 hI hS
    have z7 := hS 7 (by decide) (by kernel_rfl)
    have e7 : ρ 7 = .int .u8 sv := hI.done (by decide) (by simp [z7.1])
    rw [z7.2] at e7
    rw [e7]
    have hb7' := HJB.out w7 hI.j
    have HD7 := hid (HD6.out.later hb7')
    have HX7 := hid (HX6.out.below hb7' (by omega))
    have HO7 := hid (own_below HO6.out hb7')
    have hs7 := hb7'.size
    have p7 := HD7.out.cell (valC_reg HD7.out.len HR6.out)
    have f7 := HD7.out.free (4 + (t * 3 + rn))
    have HD8 := hid (HD7.out.setreg (i := t * 3 + rn) hil sv)
    have HX8 := hid (HX7.out.set (g := w.heap.size) (j := 4 + (t * 3 + rn)) (v := .int .u8 sv) (by omega))
    have HO8 := hid (own_keeps HO7.out (Keeps.setCell w7 ⟨w.heap.size, 4 + (t * 3 + rn), none⟩ (.int .u8 sv)) (fun b hb e => by simp [blk] at hb; simp at e; omega))
    rw [← Nat.add_assoc] at p7 f7 HD8 HX8 HO8
    clear hI hS z7 e7 hb7'
    refine wpMix_act rfl rfl (fun K hK => ?_)
    go_simp
    refine hK _ _ ?_
    clear hK K
    (with_reducible refine wpMix_nil ?_)
    obtain ⟨w8, hw8⟩ : ∃ w8, w8 = w7.setCell ⟨w.heap.size, 4 + t * 3 + rn, none⟩ (.int .u8 sv) := ⟨_, rfl⟩
    rw [← hw8] at HD8 HX8 HO8 ⊢
    have hs8 : w8.heap.size = w7.heap.size := by rw [hw8]; simp [World.setCell]
    clear hw8 HJ HC HJB HJI hJ0 p7 f7 HD7 HX7 HO7 HD6 HX6 HO6
    have x8 := Box.four HX8.out
    go_wp2
    go_ret
    refine ⟨w.heap.size, rfl, ⟨⟨some ⟨C, 0, none⟩, c2, ?_, fun e => Nat.lt_irrefl _ (HXF.out _ e), ?_, ?_⟩, HG4.out⟩, HD8.out.below⟩
    · rw [HFL.out, ← HN.out]
      dsimp only
      rw [← HBN.out]
      exact HD8.out.cur
    · rw [HFL.out]
      exact ⟨rs, HRL.out, Rd.own HO8.out, HCF.out, fun k r xs h1 h2 => ⟨(HRI.out k r xs h1 h2).1.below HD8.out.below, (HRI.out k r xs h1 h2).2⟩⟩
    · rw [HFL.out]
      dsimp only
      rw [← HBN.out]
      exact hcap.out
  by_cases h4 : op = 4
  · subst h4
    rw [show insReads ⟨4, ln, rn, val⟩ = false from rfl]
    have HFL := hid (HDW.out rfl)
    rw [show insReads ⟨4, ln, rn, val⟩ = false from rfl, show insWrites ⟨4, ln, rn, val⟩ = false from rfl] at HFL
    have x6 := Box.four HX6.out
    rw [if_neg (by decide), if_neg (by decide)] at HFL
    go_wp2
    go_ret
    refine ⟨w.heap.size, rfl, ⟨⟨some ⟨C, 0, none⟩, c2, ?_, fun e => Nat.lt_irrefl _ (HXF.out _ e), ?_, ?_⟩, HG4.out⟩, HD6.out.below⟩
    · rw [HFL.out, ← HN.out]
      dsimp only
      rw [← HBN.out]
      exact HD6.out.cur
    · rw [HFL.out]
      exact ⟨rs, HRL.out, Rd.own HO6.out, HCF.out, fun k r xs h1 h2 => ⟨(HRI.out k r xs h1 h2).1.below HD6.out.below, (HRI.out k r xs h1 h2).2⟩⟩
    · rw [HFL.out]
      dsimp only
      rw [← HBN.out]
      exact hcap.out
  by_cases h5 : op = 5
  · subst h5
    rw [show insReads ⟨5, ln, rn, val⟩ = true from rfl]
    have HFL := hid (HDW.out rfl)
    rw [show insReads ⟨5, ln, rn, val⟩ = true from rfl, show insWrites ⟨5, ln, rn, val⟩ = true from rfl, if_pos rfl, if_pos rfl, show wval s t ⟨5, ln, rn, val⟩ = val from rfl] at HFL
    have x6 := Box.four HX6.out
    obtain ⟨J, hJ⟩ : ∃ J : World → Prop, J = fun w' => Below w6.heap.size w6 w' := ⟨_, rfl⟩
    have HJ := hid (fun w' (h : Below w6.heap.size w6 w') => show J w' by rw [hJ]; exact h)
    have HC := hid (fun w' (h : J w') => show w'.cell? ⟨w4.heap.size, 0, none⟩ = some (.int .i64 5) ∧ w'.cell? ⟨w4.heap.size, 1, none⟩ = some (.int .i64 ln) ∧ w'.cell? ⟨w4.heap.size, 2, none⟩ = some (.int .i64 rn) ∧ w'.cell? ⟨w4.heap.size, 3, none⟩ = some (.int .i64 val) from by
      rw [hJ] at h
      exact HX6.out.below h (by omega))
    have hJ0 : J w6.drew := HJ.out _ (below_drewN 1 (Below.refl _ _))
    clear x6
    obtain ⟨r6, hr6⟩ : ∃ r6, s.regs[t * 3 + rn]? = some r6 := ⟨_, List.getElem?_eq_getElem hil⟩
    have HR6 := hid hr6
    clear hr6
    have HJB := hid (fun w' (h : J w') => show Below w6.heap.size w6 w' by rw [hJ] at h; exact h)
    have HJI := hid (fun S ρ w' (h : ChI [7] (rdR sv) J S ρ w') => h.j)
    clear hJ
    go_wp2_with fail
    refine FR.wp_region_free 12 (ChI [7] (rdR sv) J) (by kernel_rfl) (by kernel_rfl) (by kernel_rfl) (fun _ => undef) (ChI.start hJ0 trivial) fun V => ?_
    (refine FR.frGo_pure _ rfl (fun K hK => ?_); go_simp; (first | refine hK _ ?_ | refine ⟨_, fun W hW => rfl, hK _ ?_⟩ | refine ⟨_, fun W hW => ⟨rfl, rfl⟩, hK _ ?_⟩); clear hK K)
    (refine FR.frGo_pure _ rfl (fun K hK => ?_); go_simp; (first | refine hK _ ?_ | refine ⟨_, fun W hW => rfl, hK _ ?_⟩ | refine ⟨_, fun W hW => ⟨rfl, rfl⟩, hK _ ?_⟩); clear hK K)
    (refine FR.frGo_held _ rfl J (fun S ρ w' h _ => HJI.out S ρ w' h) (fun K hK => ?_); go_simp; apply Exists.intro; refine And.intro (fun W hW => ?_) (hK _ ?_); (focus (have hcs := HC.out W hW; go_simp; try rfl)); clear hK K)
    (refine FR.frGo_pure _ rfl (fun K hK => ?_); go_simp; (first | refine hK _ ?_ | refine ⟨_, fun W hW => rfl, hK _ ?_⟩ | refine ⟨_, fun W hW => ⟨rfl, rfl⟩, hK _ ?_⟩); clear hK K)
    (refine FR.frGo_pure _ rfl (fun K hK => ?_); go_simp; (first | refine hK _ ?_ | refine ⟨_, fun W hW => rfl, hK _ ?_⟩ | refine ⟨_, fun W hW => ⟨rfl, rfl⟩, hK _ ?_⟩); clear hK K)
    (refine FR.frGo_pure _ rfl (fun K hK => ?_); go_simp; (first | refine hK _ ?_ | refine ⟨_, fun W hW => rfl, hK _ ?_⟩ | refine ⟨_, fun W hW => ⟨rfl, rfl⟩, hK _ ?_⟩); clear hK K)
    (refine FR.frGo_held _ rfl J (fun S ρ w' h _ => HJI.out S ρ w' h) (fun K hK => ?_); go_simp; apply Exists.intro; refine And.intro (fun W hW => ?_) (hK _ ?_); (focus (have hcs := HC.out W hW; go_simp; try rfl)); clear hK K)
    refine FR.frGo_act (k := 7) _ rfl (fun S ρ w' hI hS hp K hK => ?_) ?_
    · have hb := HJB.out w' hI.j
      go_simp
      refine (HRD4.out w' ((HAT.out.below HD6.out.below).below hb)).mono ?_
      rintro e w'' ⟨rfl, hb2⟩
      refine hK _ _ (hI.next (i := 0) (by decide) rfl hS (by simp) (HJ.out _ (hb.trans (hb2.mono hb.size))) ?_)
      show FR.upd ρ 7 _ 7 = _
      rw [FR.upd_same]
    (refine FR.frGo_pure _ rfl (fun K hK => ?_); go_simp; (first | refine hK _ ?_ | refine ⟨_, fun W hW => rfl, hK _ ?_⟩ | refine ⟨_, fun W hW => ⟨rfl, rfl⟩, hK _ ?_⟩); clear hK K)
    (refine FR.frGo_pure _ rfl (fun K hK => ?_); go_simp; (first | refine hK _ ?_ | refine ⟨_, fun W hW => rfl, hK _ ?_⟩ | refine ⟨_, fun W hW => ⟨rfl, rfl⟩, hK _ ?_⟩); clear hK K)
    (refine FR.frGo_pure _ rfl (fun K hK => ?_); go_simp; (first | refine hK _ ?_ | refine ⟨_, fun W hW => rfl, hK _ ?_⟩ | refine ⟨_, fun W hW => ⟨rfl, rfl⟩, hK _ ?_⟩); clear hK K)
    (refine FR.frGo_pure _ rfl (fun K hK => ?_); go_simp; (first | refine hK _ ?_ | refine ⟨_, fun W hW => rfl, hK _ ?_⟩ | refine ⟨_, fun W hW => ⟨rfl, rfl⟩, hK _ ?_⟩); clear hK K)
    refine FR.frGo_nil _ ?_
    intro S ρ w7 hI hS
    have z7 := hS 7 (by decide) (by kernel_rfl)
    have e7 : ρ 7 = .int .u8 sv := hI.done (by decide) (by simp [z7.1])
    rw [z7.2] at e7
    rw [e7]
    have hb7' := HJB.out w7 hI.j
    have HD7 := hid (HD6.out.later hb7')
    have HX7 := hid (HX6.out.below hb7' (by omega))
    have HO7 := hid (own_below HO6.out hb7')
    have hs7 := hb7'.size
    have p7 := HD7.out.cell (valC_reg HD7.out.len HR6.out)
    have f7 := HD7.out.free (4 + (t * 3 + rn))
    have HD8 := hid (HD7.out.setreg (i := t * 3 + rn) hil sv)
    have HX8 := hid (HX7.out.set (g := w.heap.size) (j := 4 + (t * 3 + rn)) (v := .int .u8 sv) (by omega))
    have HO8 := hid (own_keeps HO7.out (Keeps.setCell w7 ⟨w.heap.size, 4 + (t * 3 + rn), none⟩ (.int .u8 sv)) (fun b hb e => by simp [blk] at hb; simp at e; omega))
    rw [← Nat.add_assoc] at p7 f7 HD8 HX8 HO8
    clear hI hS z7 e7 hb7'
    refine wpMix_act rfl rfl (fun K hK => ?_)
    go_simp
    refine hK _ _ ?_
    clear hK K
    (with_reducible refine wpMix_nil ?_)
    obtain ⟨w8, hw8⟩ : ∃ w8, w8 = w7.setCell ⟨w.heap.size, 4 + t * 3 + rn, none⟩ (.int .u8 sv) := ⟨_, rfl⟩
    rw [← hw8] at HD8 HX8 HO8 ⊢
    have hs8 : w8.heap.size = w7.heap.size := by rw [hw8]; simp [World.setCell]
    clear hw8 HJ HC HJB HJI hJ0 p7 f7 HD7 HX7 HO7 HD6 HX6 HO6
    have x8 := Box.four HX8.out
    have m8 := HD8.out.cell (valC_mem HD8.out.len HM3.out)
    have g8 := HD8.out.free (13 + ln)
    have HD9 := hid (HD8.out.setmem (l := ln) (by omega) val)
    have HO9 := hid (own_keeps HO8.out (Keeps.setCell w8 ⟨w.heap.size, 13 + ln, none⟩ (.int .u8 val)) (fun b hb e => by simp [blk] at hb; simp at e; omega))
    go_wp2
    go_ret
    refine ⟨w.heap.size, rfl, ⟨⟨some ⟨C, 0, none⟩, c2, ?_, fun e => Nat.lt_irrefl _ (HXF.out _ e), ?_, ?_⟩, HG4.out⟩, HD9.out.below⟩
    · rw [HFL.out, ← HN.out]
      dsimp only
      rw [← HBN.out]
      exact HD9.out.cur
    · rw [HFL.out]
      exact ⟨rs, HRL.out, Rd.own HO9.out, HCF.out, fun k r xs h1 h2 => ⟨(HRI.out k r xs h1 h2).1.below HD9.out.below, (HRI.out k r xs h1 h2).2⟩⟩
    · rw [HFL.out]
      dsimp only
      rw [← HBN.out]
      exact hcap.out
  have n1 : (op == 1) = false := by simpa using h1
  have n4 : (op == 4) = false := by simpa using h4
  have n5 : (op == 5) = false := by simpa using h5
  have hre : insReads ⟨op, ln, rn, val⟩ = false := by simp [insReads, n1, n5]
  rw [hre]
  have HFL := hid (HDS.out h1 (by simp [waits4, n4, n5]))
  obtain ⟨pl, hpl⟩ : ∃ pl, pl = place t ln split := ⟨_, rfl⟩
  rw [← hpl] at HFL HBUF HCR HROW HR0 HPLS hrow7
  obtain ⟨l, hll⟩ : ∃ l, l = (row4 s pl).length := ⟨_, rfl⟩
  rw [← hll] at hrow7 HCR
  have HLL := hid hll
  obtain ⟨rr, rc⟩ := r0
  dsimp only at HCR HROW
  have hplb : (pl : Int) < (bl : Int) := by have := HPLS.out; have := HBN.out; omega
  have x6 := Box.four HX6.out
  have HBW6 := hid (HAT.out.below HD6.out.below)
  clear hpl hll hre
  by_cases h2 : op = 2
  · subst h2
    go_wp2_with fail
    refine (HBUF.out _ HBW6.out).mono ?_
    rintro e w7 ⟨rfl, rfl⟩
    go_wp2_with fail
    obtain ⟨J, hJ⟩ : ∃ J : World → Prop, J = fun w' => Below w7.heap.size w7 w' := ⟨_, rfl⟩
    have HJ := hid (fun w' (h : Below w7.heap.size w7 w') => show J w' by rw [hJ]; exact h)
    have HJB := hid (fun w' (h : J w') => show Below w7.heap.size w7 w' by rw [hJ] at h; exact h)
    have HJI := hid (fun S ρ w' (h : ChI [10, 20, 22, 23] (stI w7 l (b8s (bytesB (row4 s pl))) wv ((ln : Int) * 16 + wv)) J S ρ w') => h.j)
    have hB7 := HD6.out.lt
    have HC := hid (fun w' (h : J w') => show (w'.cell? ⟨w.heap.size, 17, none⟩ = some (.slice (some ⟨C, 0, none⟩) bl c2) ∧ w'.cell? ⟨g, 17, none⟩ = some (.slice (some ⟨wb, wo, none⟩) bl wc) ∧ w'.cell? ⟨wb, wo + pl, none⟩ = some (.slice rr l rc)) ∧ (w'.cell? ⟨w4.heap.size, 0, none⟩ = some (.int .i64 2) ∧ w'.cell? ⟨w4.heap.size, 1, none⟩ = some (.int .i64 ln) ∧ w'.cell? ⟨w4.heap.size, 2, none⟩ = some (.int .i64 rn) ∧ w'.cell? ⟨w4.heap.size, 3, none⟩ = some (.int .i64 val)) from by
      rw [hJ] at h
      have hb : Below w.heap.size w w' := HD6.out.below.trans (h.mono HD6.out.below.size)
      exact ⟨⟨(h.cell (p := ⟨w.heap.size, 17, none⟩) hB7).trans HD6.out.cell17, (hb.cell (p := ⟨g, 17, none⟩) hgl).trans HC17.out, (hb.cell (p := ⟨wb, wo + pl, none⟩) HCR.out.1).trans HCR.out.2⟩, HX6.out.below h (by omega)⟩)
    have hJ0 : J w7.drew := HJ.out _ (below_drewN 1 (Below.refl _ _))
    have hwa : IntKind.u8.wrap (ln : Int) = (ln : Int) := wrap8 (by omega) (by omega)
    have hwb : IntKind.u8.wrap ((ln : Int) * 16) = (ln : Int) * 16 := wrap8 (by omega) (by omega)
    have hwc : IntKind.u8.wrap ((ln : Int) * 16 + wv) = (ln : Int) * 16 + wv := wrap8 (by omega) (by omega)
    have hs7 := HD6.out.below.size
    clear hJ x6
    refine FR.wp_region_free 24 (ChI [10, 20, 22, 23] (stI w7 l (b8s (bytesB (row4 s pl))) wv ((ln : Int) * 16 + wv)) J) (by kernel_rfl) (by kernel_rfl) (by kernel_rfl) (fun _ => undef) (ChI.start hJ0 ⟨fun h => by omega, fun h => by omega, fun h => by omega, fun h => by omega⟩) fun V => ?_
    (refine FR.frGo_pure _ rfl (fun K hK => ?_); go_simp; (first | refine hK _ ?_ | refine ⟨_, fun W hW => rfl, hK _ ?_⟩ | refine ⟨_, fun W hW => ⟨rfl, rfl⟩, hK _ ?_⟩); clear hK K)
    (refine FR.frGo_held _ rfl J (fun S ρ w' h _ => HJI.out S ρ w' h) (fun K hK => ?_); go_simp; apply Exists.intro; refine And.intro (fun W hW => ?_) (hK _ ?_); (focus (have hcs := HC.out W hW; go_simp; try rfl)); clear hK K)
    (refine FR.frGo_pure _ rfl (fun K hK => ?_); go_simp; (first | refine hK _ ?_ | refine ⟨_, fun W hW => rfl, hK _ ?_⟩ | refine ⟨_, fun W hW => ⟨rfl, rfl⟩, hK _ ?_⟩); clear hK K)
    (refine FR.frGo_pure _ rfl (fun K hK => ?_); go_simp; (first | refine hK _ ?_ | refine ⟨_, fun W hW => rfl, hK _ ?_⟩ | refine ⟨_, fun W hW => ⟨rfl, rfl⟩, hK _ ?_⟩); clear hK K)
    (refine FR.frGo_pure _ rfl (fun K hK => ?_); go_simp; (first | refine hK _ ?_ | refine ⟨_, fun W hW => rfl, hK _ ?_⟩ | refine ⟨_, fun W hW => ⟨rfl, rfl⟩, hK _ ?_⟩); clear hK K)
    (refine FR.frGo_pure _ rfl (fun K hK => ?_); go_simp; (first | refine hK _ ?_ | refine ⟨_, fun W hW => rfl, hK _ ?_⟩ | refine ⟨_, fun W hW => ⟨rfl, rfl⟩, hK _ ?_⟩); clear hK K)
    (refine FR.frGo_held _ rfl J (fun S ρ w' h _ => HJI.out S ρ w' h) (fun K hK => ?_); go_simp; apply Exists.intro; refine And.intro (fun W hW => ?_) (hK _ ?_); (focus (have hcs := HC.out W hW; go_simp; try rfl)); clear hK K)
    (refine FR.frGo_pure _ rfl (fun K hK => ?_); go_simp; (first | refine hK _ ?_ | refine ⟨_, fun W hW => rfl, hK _ ?_⟩ | refine ⟨_, fun W hW => ⟨rfl, rfl⟩, hK _ ?_⟩); clear hK K)
    (refine FR.frGo_pure _ rfl (fun K hK => ?_); go_simp; (first | refine hK _ ?_ | refine ⟨_, fun W hW => rfl, hK _ ?_⟩ | refine ⟨_, fun W hW => ⟨rfl, rfl⟩, hK _ ?_⟩); clear hK K)
    (refine FR.frGo_held _ rfl J (fun S ρ w' h _ => HJI.out S ρ w' h) (fun K hK => ?_); go_simp; apply Exists.intro; refine And.intro (fun W hW => ?_) (hK _ ?_); (focus (have hcs := HC.out W hW; go_simp; try rfl)); clear hK K)
    refine FR.frGo_act (k := 10) _ rfl (fun S ρ w' hI hS hp K hK => ?_) ?_
    · have hb := HJB.out w' hI.j
      go_simp
      refine (cloneB_c w' rr l rc (bytesB (row4 s pl)) (HROW.out.below (HD6.out.below.trans (hb.mono hs7))) (by rw [HLL.out]; simp [bytesB]) (by omega)).mono ?_
      rintro e w'' ⟨a', c', rfl, hown, hb2⟩
      refine hK _ _ (hI.next (i := 0) (by decide) rfl hS (by simp) (HJ.out _ (hb.trans (hb2.mono hb.size))) ⟨fun _ => ⟨a', c', by rw [FR.upd_same], own_base hown hb.size⟩, fun h => by omega, fun h => by omega, fun h => by omega⟩)
    (refine FR.frGo_pure _ rfl (fun K hK => ?_); go_simp; (first | refine hK _ ?_ | refine ⟨_, fun W hW => rfl, hK _ ?_⟩ | refine ⟨_, fun W hW => ⟨rfl, rfl⟩, hK _ ?_⟩); clear hK K)
    (refine FR.frGo_held _ rfl J (fun S ρ w' h _ => HJI.out S ρ w' h) (fun K hK => ?_); go_simp; apply Exists.intro; refine And.intro (fun W hW => ?_) (hK _ ?_); (focus (have hcs := HC.out W hW; go_simp; try rfl)); clear hK K)
    (refine FR.frGo_pure _ rfl (fun K hK => ?_); go_simp; (first | refine hK _ ?_ | refine ⟨_, fun W hW => rfl, hK _ ?_⟩ | refine ⟨_, fun W hW => ⟨rfl, rfl⟩, hK _ ?_⟩); clear hK K)
    (refine FR.frGo_pure _ rfl (fun K hK => ?_); go_simp; (first | refine hK _ ?_ | refine ⟨_, fun W hW => rfl, hK _ ?_⟩ | refine ⟨_, fun W hW => ⟨rfl, rfl⟩, hK _ ?_⟩); clear hK K)
    (refine FR.frGo_pure _ rfl (fun K hK => ?_); go_simp; (first | refine hK _ ?_ | refine ⟨_, fun W hW => rfl, hK _ ?_⟩ | refine ⟨_, fun W hW => ⟨rfl, rfl⟩, hK _ ?_⟩); clear hK K)
    (refine FR.frGo_pure _ rfl (fun K hK => ?_); go_simp; (first | refine hK _ ?_ | refine ⟨_, fun W hW => rfl, hK _ ?_⟩ | refine ⟨_, fun W hW => ⟨rfl, rfl⟩, hK _ ?_⟩); clear hK K)
    (refine FR.frGo_pure _ rfl (fun K hK => ?_); go_simp; (first | refine hK _ ?_ | refine ⟨_, fun W hW => rfl, hK _ ?_⟩ | refine ⟨_, fun W hW => ⟨rfl, rfl⟩, hK _ ?_⟩); clear hK K)
    (refine FR.frGo_pure _ rfl (fun K hK => ?_); go_simp; (first | refine hK _ ?_ | refine ⟨_, fun W hW => rfl, hK _ ?_⟩ | refine ⟨_, fun W hW => ⟨rfl, rfl⟩, hK _ ?_⟩); clear hK K)
    (refine FR.frGo_held _ rfl J (fun S ρ w' h _ => HJI.out S ρ w' h) (fun K hK => ?_); go_simp; apply Exists.intro; refine And.intro (fun W hW => ?_) (hK _ ?_); (focus (have hcs := HC.out W hW; go_simp; try rfl)); clear hK K)
    refine FR.frGo_act (k := 20) _ rfl (fun S ρ w' hI hS hp K hK => ?_) ?_
    · have hb := HJB.out w' hI.j
      have hp10 := hp 10 (by kernel_rfl)
      have hr := hI.at (i := 1) (by decide) rfl hS (by simpa using hp10.1)
      obtain ⟨a', c', e10, ho⟩ := hr.1 (.inl rfl)
      go_simp
      refine (HSTO.out w' (HBW6.out.below hb)).mono ?_
      rintro e w'' ⟨rfl, hb2⟩
      refine hK _ _ (hI.next (i := 1) (by decide) rfl hS (by simpa using hp10.1) (HJ.out _ (hb.trans (hb2.mono hb.size))) ⟨fun _ => ⟨a', c', by rw [FR.upd_ne _ _ (by decide)]; exact e10, own_below ho hb2⟩, fun _ => by rw [FR.upd_same], fun h => by omega, fun h => by omega⟩)
    by_cases hV : ¬ (V 20 = .int .u8 wv)
    · have bad : ∀ S ρ w', ChI [10, 20, 22, 23] (stI w7 l (b8s (bytesB (row4 s pl))) wv ((ln : Int) * 16 + wv)) J S ρ w' → (S 20 = true ∧ ρ 20 = V 20) → False := fun S ρ w' h hp => hV (by rw [← hp.2]; exact stI_20 h hp.1)
      refine frGo_bad rfl (fun S ρ w h hp => bad S ρ w h (hp 20 (by kernel_rfl))) ?_
      refine frGo_badAct rfl (fun S ρ w h hp => bad S ρ w h (hp 20 (by kernel_rfl))) ?_
      refine frGo_badAct rfl (fun S ρ w h hp => bad S ρ w h (hp 20 (by kernel_rfl))) ?_
      exact FR.frGo_nil _ fun S ρ w2 hI hS => (bad S ρ w2 hI (hS 20 (by decide) (by kernel_rfl))).elim
    have hV := Classical.not_not.1 hV
    have HV := hid hV
    rw [hV]
    clear hV
    (refine FR.frGo_pure _ rfl (fun K hK => ?_); go_simp; (first | refine hK _ ?_ | refine ⟨_, fun W hW => rfl, hK _ ?_⟩ | refine ⟨_, fun W hW => ⟨rfl, rfl⟩, hK _ ?_⟩); clear hK K)
    refine FR.frGo_act (k := 22) _ rfl (fun S ρ w' hI hS hp K hK => ?_) ?_
    · have hb := HJB.out w' hI.j
      have hp10 := hp 10 (by kernel_rfl)
      have hp20 := hp 20 (by kernel_rfl)
      have hr := hI.at (i := 2) (by decide) rfl hS (by simp [hp10.1, hp20.1])
      obtain ⟨a', c', e10, ho⟩ := hr.1 (.inr (.inl rfl))
      have e20 := hr.2.1 (Nat.le_refl _)
      go_simp
      have hb2 := (Below.refl w'.heap.size w').alloc (Nat.le_refl _) (.cells #[.int .u8 ((ln : Int) * 16 + wv)] 5)
      refine hK _ _ (hI.next (i := 2) (by decide) rfl hS (by simp [hp10.1, hp20.1]) (HJ.out _ (hb.trans (hb2.mono hb.size))) ⟨fun _ => ⟨a', c', by rw [FR.upd_ne _ _ (by decide)]; exact e10, own_below ho hb2⟩, fun _ => by rw [FR.upd_ne _ _ (by decide)]; exact e20, fun _ => ⟨_, by rw [FR.upd_same], rd_oneB w' _ _⟩, fun h => by omega⟩)
    refine FR.frGo_act (k := 23) _ rfl (fun S ρ w' hI hS hp K hK => ?_) ?_
    · have hb := HJB.out w' hI.j
      have hp10 := hp 10 (by kernel_rfl)
      have hp20 := hp 20 (by kernel_rfl)
      have hp22 := hp 22 (by kernel_rfl)
      have hr := hI.at (i := 3) (by decide) rfl hS (by simp [hp10.1, hp20.1, hp22.1])
      obtain ⟨a', c', e10, ho⟩ := hr.1 (.inr (.inr rfl))
      have e20 := hr.2.1 (by omega)
      obtain ⟨H, e22, hrd⟩ := hr.2.2.1 rfl
      rw [hp10.2] at e10
      rw [hp22.2] at e22
      refine oper_append_rd (.tmp 116) (.tmp 128) 138 rfl w7.heap.size 5 (.int .u8 0) 1 1 Try.underlying138 Try.info_byte rfl (by decide) (.slice a' l c') l _ (by rw [← e10]; rfl) ho (some ⟨H, 0, none⟩) 1 1 _ (by rw [← e22]; rfl) hrd rfl (by simp [Value.oneCell']) (by omega) (by decide) hb.size ?_
      intro a5 c5 w'' hown hg hat
      have hb2 : Below w7.heap.size w7 w'' := hb.grown hg hb.size (fun x hx => by rw [ownBlock_slice] at hx; exact (own_blk ho x hx).1)
      refine hK _ _ (hI.next (i := 3) (by decide) rfl hS (by simp [hp10.1, hp20.1, hp22.1]) (HJ.out _ hb2) ⟨fun h => by omega, fun _ => by rw [FR.upd_ne _ _ (by decide)]; exact e20, fun h => by omega, fun _ => ⟨a5, c5, by rw [FR.upd_same], hown⟩⟩)
    refine FR.frGo_nil _ ?_
    intro S ρ w8 hI hS
    have z10 := hS 10 (by decide) (by kernel_rfl)
    have z20 := hS 20 (by decide) (by kernel_rfl)
    have z22 := hS 22 (by decide) (by kernel_rfl)
    have z23 := hS 23 (by decide) (by kernel_rfl)
    obtain ⟨a5, c5, e23, ho5⟩ := (hI.done (by decide) (by simp [z10.1, z20.1, z22.1, z23.1])).2.2.2 rfl
    rw [z23.2] at e23
    rw [e23]
    have hb8 := HJB.out w8 hI.j
    have hCl := (own_blk HO6.out C rfl).2
    have HD8 := hid (HD6.out.later hb8)
    have HO8 := hid (own_below HO6.out hb8)
    have HO5 := hid ho5
    have zc := HO8.out.cellAt pl (by omega)
    rw [rowsW_get HR0.out (row4_get HPLS.out)] at zc
    have zf := HO8.out.frozenAt pl
    clear hI hS z10 z20 z22 z23 e23 ho5 hb8 HV
    refine wpMix_rd rfl rfl (fun K hK => ?_)
    go_simp
    refine hK _ ?_
    clear hK K
    refine wpMix_act rfl rfl (fun K hK => ?_)
    go_simp
    refine hK _ _ ?_
    clear hK K
    (with_reducible refine wpMix_nil ?_)
    go_wp2
    go_ret
    have hlen : (row4 s pl ++ [((ln : Int), wv)]).length = l + 1 := by rw [List.length_append, ← HLL.out]; rfl
    have st := (HO8.out.stored pl (.slice a5 (l + 1) c5)).1
    have hset := rowsW_set HRL.out pl (a5, c5) (row4 s pl ++ [((ln : Int), wv)])
    rw [hlen] at hset
    dsimp only at hset
    rw [hset] at st
    have HD9 := hid (HD8.out.other (C := C) (j := pl) (v := .slice a5 (l + 1) c5) (by omega) (by omega))
    have hrow9 := own_keeps HO5.out (Keeps.setCell w8 ⟨C, pl, none⟩ (.slice a5 (l + 1) c5)) (fun b hb e => by have := (own_blk HO5.out b hb).1; simp at e; omega)
    refine ⟨w.heap.size, rfl, ⟨⟨some ⟨C, 0, none⟩, c2, ?_, fun e => Nat.lt_irrefl _ (HXF.out _ e), ?_, ?_⟩, HG4.out⟩, HD9.out.below⟩
    · rw [HFL.out, ← HN.out]
      dsimp only
      rw [List.length_set, ← HBN.out]
      exact HD9.out.cur
    · rw [HFL.out]
      refine ⟨rs.set pl (a5, c5), by simp [HRL.out], Rd.own st, HCF.out, fun k r xs h1 h2 => ?_⟩
      by_cases hk : pl = k
      · subst hk
        rw [List.getElem?_set_self (by rw [HRL.out]; exact HPLS.out)] at h1
        rw [List.getElem?_set_self HPLS.out] at h2
        cases h1
        cases h2
        have hby : b8s (bytesB (row4 s pl ++ [((ln : Int), wv)])) = b8s (bytesB (row4 s pl)) ++ [.int .u8 ((ln : Int) * 16 + wv)] := by simp [bytesB]
        rw [hby, hlen]
        exact ⟨Rd.own hrow9, own_cap hrow9, fun _ b hb e => by have h3 := HXF.out b e; have h4 := (own_blk hrow9 b hb).1; have h5 := HD6.out.below.size; omega⟩
      · rw [List.getElem?_set_ne hk] at h1
        rw [List.getElem?_set_ne hk] at h2
        exact ⟨(HRI.out k r xs h1 h2).1.below HD9.out.below, (HRI.out k r xs h1 h2).2⟩
    · rw [HFL.out]
      dsimp only
      rw [List.length_set, ← HBN.out]
      exact hcap.out
  · have h3 : op = 3 := by omega
    subst h3
    go_wp2_with fail
    refine (HBUF.out _ HBW6.out).mono ?_
    rintro e w7 ⟨rfl, rfl⟩
    go_wp2_with fail
    obtain ⟨J, hJ⟩ : ∃ J : World → Prop, J = fun w' => Below w7.heap.size w7 w' := ⟨_, rfl⟩
    have HJ := hid (fun w' (h : Below w7.heap.size w7 w') => show J w' by rw [hJ]; exact h)
    have HJB := hid (fun w' (h : J w') => show Below w7.heap.size w7 w' by rw [hJ] at h; exact h)
    have HJI := hid (fun S ρ w' (h : ChI [10, 20, 22, 23] (stI w7 l (b8s (bytesB (row4 s pl))) wv ((ln : Int) * 16 + wv)) J S ρ w') => h.j)
    have hB7 := HD6.out.lt
    have HC := hid (fun w' (h : J w') => show (w'.cell? ⟨w.heap.size, 17, none⟩ = some (.slice (some ⟨C, 0, none⟩) bl c2) ∧ w'.cell? ⟨g, 17, none⟩ = some (.slice (some ⟨wb, wo, none⟩) bl wc) ∧ w'.cell? ⟨wb, wo + pl, none⟩ = some (.slice rr l rc)) ∧ (w'.cell? ⟨w4.heap.size, 0, none⟩ = some (.int .i64 3) ∧ w'.cell? ⟨w4.heap.size, 1, none⟩ = some (.int .i64 ln) ∧ w'.cell? ⟨w4.heap.size, 2, none⟩ = some (.int .i64 rn) ∧ w'.cell? ⟨w4.heap.size, 3, none⟩ = some (.int .i64 val)) from by
      rw [hJ] at h
      have hb : Below w.heap.size w w' := HD6.out.below.trans (h.mono HD6.out.below.size)
      exact ⟨⟨(h.cell (p := ⟨w.heap.size, 17, none⟩) hB7).trans HD6.out.cell17, (hb.cell (p := ⟨g, 17, none⟩) hgl).trans HC17.out, (hb.cell (p := ⟨wb, wo + pl, none⟩) HCR.out.1).trans HCR.out.2⟩, HX6.out.below h (by omega)⟩)
    have hJ0 : J w7.drew := HJ.out _ (below_drewN 1 (Below.refl _ _))
    have hwa : IntKind.u8.wrap (ln : Int) = (ln : Int) := wrap8 (by omega) (by omega)
    have hwb : IntKind.u8.wrap ((ln : Int) * 16) = (ln : Int) * 16 := wrap8 (by omega) (by omega)
    have hwc : IntKind.u8.wrap ((ln : Int) * 16 + wv) = (ln : Int) * 16 + wv := wrap8 (by omega) (by omega)
    have hs7 := HD6.out.below.size
    clear hJ x6
    refine FR.wp_region_free 24 (ChI [10, 20, 22, 23] (stI w7 l (b8s (bytesB (row4 s pl))) wv ((ln : Int) * 16 + wv)) J) (by kernel_rfl) (by kernel_rfl) (by kernel_rfl) (fun _ => undef) (ChI.start hJ0 ⟨fun h => by omega, fun h => by omega, fun h => by omega, fun h => by omega⟩) fun V => ?_
    (refine FR.frGo_pure _ rfl (fun K hK => ?_); go_simp; (first | refine hK _ ?_ | refine ⟨_, fun W hW => rfl, hK _ ?_⟩ | refine ⟨_, fun W hW => ⟨rfl, rfl⟩, hK _ ?_⟩); clear hK K)
    (refine FR.frGo_held _ rfl J (fun S ρ w' h _ => HJI.out S ρ w' h) (fun K hK => ?_); go_simp; apply Exists.intro; refine And.intro (fun W hW => ?_) (hK _ ?_); (focus (have hcs := HC.out W hW; go_simp; try rfl)); clear hK K)
    (refine FR.frGo_pure _ rfl (fun K hK => ?_); go_simp; (first | refine hK _ ?_ | refine ⟨_, fun W hW => rfl, hK _ ?_⟩ | refine ⟨_, fun W hW => ⟨rfl, rfl⟩, hK _ ?_⟩); clear hK K)
    (refine FR.frGo_pure _ rfl (fun K hK => ?_); go_simp; (first | refine hK _ ?_ | refine ⟨_, fun W hW => rfl, hK _ ?_⟩ | refine ⟨_, fun W hW => ⟨rfl, rfl⟩, hK _ ?_⟩); clear hK K)
    (refine FR.frGo_pure _ rfl (fun K hK => ?_); go_simp; (first | refine hK _ ?_ | refine ⟨_, fun W hW => rfl, hK _ ?_⟩ | refine ⟨_, fun W hW => ⟨rfl, rfl⟩, hK _ ?_⟩); clear hK K)
    (refine FR.frGo_pure _ rfl (fun K hK => ?_); go_simp; (first | refine hK _ ?_ | refine ⟨_, fun W hW => rfl, hK _ ?_⟩ | refine ⟨_, fun W hW => ⟨rfl, rfl⟩, hK _ ?_⟩); clear hK K)
    (refine FR.frGo_held _ rfl J (fun S ρ w' h _ => HJI.out S ρ w' h) (fun K hK => ?_); go_simp; apply Exists.intro; refine And.intro (fun W hW => ?_) (hK _ ?_); (focus (have hcs := HC.out W hW; go_simp; try rfl)); clear hK K)
    (refine FR.frGo_pure _ rfl (fun K hK => ?_); go_simp; (first | refine hK _ ?_ | refine ⟨_, fun W hW => rfl, hK _ ?_⟩ | refine ⟨_, fun W hW => ⟨rfl, rfl⟩, hK _ ?_⟩); clear hK K)
    (refine FR.frGo_pure _ rfl (fun K hK => ?_); go_simp; (first | refine hK _ ?_ | refine ⟨_, fun W hW => rfl, hK _ ?_⟩ | refine ⟨_, fun W hW => ⟨rfl, rfl⟩, hK _ ?_⟩); clear hK K)
    (refine FR.frGo_held _ rfl J (fun S ρ w' h _ => HJI.out S ρ w' h) (fun K hK => ?_); go_simp; apply Exists.intro; refine And.intro (fun W hW => ?_) (hK _ ?_); (focus (have hcs := HC.out W hW; go_simp; try rfl)); clear hK K)
    refine FR.frGo_act (k := 10) _ rfl (fun S ρ w' hI hS hp K hK => ?_) ?_
    · have hb := HJB.out w' hI.j
      go_simp
      refine (cloneB_c w' rr l rc (bytesB (row4 s pl)) (HROW.out.below (HD6.out.below.trans (hb.mono hs7))) (by rw [HLL.out]; simp [bytesB]) (by omega)).mono ?_
      rintro e w'' ⟨a', c', rfl, hown, hb2⟩
      refine hK _ _ (hI.next (i := 0) (by decide) rfl hS (by simp) (HJ.out _ (hb.trans (hb2.mono hb.size))) ⟨fun _ => ⟨a', c', by rw [FR.upd_same], own_base hown hb.size⟩, fun h => by omega, fun h => by omega, fun h => by omega⟩)
    (refine FR.frGo_pure _ rfl (fun K hK => ?_); go_simp; (first | refine hK _ ?_ | refine ⟨_, fun W hW => rfl, hK _ ?_⟩ | refine ⟨_, fun W hW => ⟨rfl, rfl⟩, hK _ ?_⟩); clear hK K)
    (refine FR.frGo_held _ rfl J (fun S ρ w' h _ => HJI.out S ρ w' h) (fun K hK => ?_); go_simp; apply Exists.intro; refine And.intro (fun W hW => ?_) (hK _ ?_); (focus (have hcs := HC.out W hW; go_simp; try rfl)); clear hK K)
    (refine FR.frGo_pure _ rfl (fun K hK => ?_); go_simp; (first | refine hK _ ?_ | refine ⟨_, fun W hW => rfl, hK _ ?_⟩ | refine ⟨_, fun W hW => ⟨rfl, rfl⟩, hK _ ?_⟩); clear hK K)
    (refine FR.frGo_pure _ rfl (fun K hK => ?_); go_simp; (first | refine hK _ ?_ | refine ⟨_, fun W hW => rfl, hK _ ?_⟩ | refine ⟨_, fun W hW => ⟨rfl, rfl⟩, hK _ ?_⟩); clear hK K)
    (refine FR.frGo_pure _ rfl (fun K hK => ?_); go_simp; (first | refine hK _ ?_ | refine ⟨_, fun W hW => rfl, hK _ ?_⟩ | refine ⟨_, fun W hW => ⟨rfl, rfl⟩, hK _ ?_⟩); clear hK K)
    (refine FR.frGo_pure _ rfl (fun K hK => ?_); go_simp; (first | refine hK _ ?_ | refine ⟨_, fun W hW => rfl, hK _ ?_⟩ | refine ⟨_, fun W hW => ⟨rfl, rfl⟩, hK _ ?_⟩); clear hK K)
    (refine FR.frGo_pure _ rfl (fun K hK => ?_); go_simp; (first | refine hK _ ?_ | refine ⟨_, fun W hW => rfl, hK _ ?_⟩ | refine ⟨_, fun W hW => ⟨rfl, rfl⟩, hK _ ?_⟩); clear hK K)
    (refine FR.frGo_pure _ rfl (fun K hK => ?_); go_simp; (first | refine hK _ ?_ | refine ⟨_, fun W hW => rfl, hK _ ?_⟩ | refine ⟨_, fun W hW => ⟨rfl, rfl⟩, hK _ ?_⟩); clear hK K)
    (refine FR.frGo_held _ rfl J (fun S ρ w' h _ => HJI.out S ρ w' h) (fun K hK => ?_); go_simp; apply Exists.intro; refine And.intro (fun W hW => ?_) (hK _ ?_); (focus (have hcs := HC.out W hW; go_simp; try rfl)); clear hK K)
    refine FR.frGo_act (k := 20) _ rfl (fun S ρ w' hI hS hp K hK => ?_) ?_
    · have hb := HJB.out w' hI.j
      have hp10 := hp 10 (by kernel_rfl)
      have hr := hI.at (i := 1) (by decide) rfl hS (by simpa using hp10.1)
      obtain ⟨a', c', e10, ho⟩ := hr.1 (.inl rfl)
      go_simp
      refine (HSTO.out w' (HBW6.out.below hb)).mono ?_
      rintro e w'' ⟨rfl, hb2⟩
      refine hK _ _ (hI.next (i := 1) (by decide) rfl hS (by simpa using hp10.1) (HJ.out _ (hb.trans (hb2.mono hb.size))) ⟨fun _ => ⟨a', c', by rw [FR.upd_ne _ _ (by decide)]; exact e10, own_below ho hb2⟩, fun _ => by rw [FR.upd_same], fun h => by omega, fun h => by omega⟩)
    by_cases hV : ¬ (V 20 = .int .u8 wv)
    · have bad : ∀ S ρ w', ChI [10, 20, 22, 23] (stI w7 l (b8s (bytesB (row4 s pl))) wv ((ln : Int) * 16 + wv)) J S ρ w' → (S 20 = true ∧ ρ 20 = V 20) → False := fun S ρ w' h hp => hV (by rw [← hp.2]; exact stI_20 h hp.1)
      refine frGo_bad rfl (fun S ρ w h hp => bad S ρ w h (hp 20 (by kernel_rfl))) ?_
      refine frGo_badAct rfl (fun S ρ w h hp => bad S ρ w h (hp 20 (by kernel_rfl))) ?_
      refine frGo_badAct rfl (fun S ρ w h hp => bad S ρ w h (hp 20 (by kernel_rfl))) ?_
      exact FR.frGo_nil _ fun S ρ w2 hI hS => (bad S ρ w2 hI (hS 20 (by decide) (by kernel_rfl))).elim
    have hV := Classical.not_not.1 hV
    have HV := hid hV
    rw [hV]
    clear hV
    (refine FR.frGo_pure _ rfl (fun K hK => ?_); go_simp; (first | refine hK _ ?_ | refine ⟨_, fun W hW => rfl, hK _ ?_⟩ | refine ⟨_, fun W hW => ⟨rfl, rfl⟩, hK _ ?_⟩); clear hK K)
    refine FR.frGo_act (k := 22) _ rfl (fun S ρ w' hI hS hp K hK => ?_) ?_
    · have hb := HJB.out w' hI.j
      have hp10 := hp 10 (by kernel_rfl)
      have hp20 := hp 20 (by kernel_rfl)
      have hr := hI.at (i := 2) (by decide) rfl hS (by simp [hp10.1, hp20.1])
      obtain ⟨a', c', e10, ho⟩ := hr.1 (.inr (.inl rfl))
      have e20 := hr.2.1 (Nat.le_refl _)
      go_simp
      have hb2 := (Below.refl w'.heap.size w').alloc (Nat.le_refl _) (.cells #[.int .u8 ((ln : Int) * 16 + wv)] 5)
      refine hK _ _ (hI.next (i := 2) (by decide) rfl hS (by simp [hp10.1, hp20.1]) (HJ.out _ (hb.trans (hb2.mono hb.size))) ⟨fun _ => ⟨a', c', by rw [FR.upd_ne _ _ (by decide)]; exact e10, own_below ho hb2⟩, fun _ => by rw [FR.upd_ne _ _ (by decide)]; exact e20, fun _ => ⟨_, by rw [FR.upd_same], rd_oneB w' _ _⟩, fun h => by omega⟩)
    refine FR.frGo_act (k := 23) _ rfl (fun S ρ w' hI hS hp K hK => ?_) ?_
    · have hb := HJB.out w' hI.j
      have hp10 := hp 10 (by kernel_rfl)
      have hp20 := hp 20 (by kernel_rfl)
      have hp22 := hp 22 (by kernel_rfl)
      have hr := hI.at (i := 3) (by decide) rfl hS (by simp [hp10.1, hp20.1, hp22.1])
      obtain ⟨a', c', e10, ho⟩ := hr.1 (.inr (.inr rfl))
      have e20 := hr.2.1 (by omega)
      obtain ⟨H, e22, hrd⟩ := hr.2.2.1 rfl
      rw [hp10.2] at e10
      rw [hp22.2] at e22
      refine oper_append_rd (.tmp 116) (.tmp 128) 138 rfl w7.heap.size 5 (.int .u8 0) 1 1 Try.underlying138 Try.info_byte rfl (by decide) (.slice a' l c') l _ (by rw [← e10]; rfl) ho (some ⟨H, 0, none⟩) 1 1 _ (by rw [← e22]; rfl) hrd rfl (by simp [Value.oneCell']) (by omega) (by decide) hb.size ?_
      intro a5 c5 w'' hown hg hat
      have hb2 : Below w7.heap.size w7 w'' := hb.grown hg hb.size (fun x hx => by rw [ownBlock_slice] at hx; exact (own_blk ho x hx).1)
      refine hK _ _ (hI.next (i := 3) (by decide) rfl hS (by simp [hp10.1, hp20.1, hp22.1]) (HJ.out _ hb2) ⟨fun h => by omega, fun _ => by rw [FR.upd_ne _ _ (by decide)]; exact e20, fun h => by omega, fun _ => ⟨a5, c5, by rw [FR.upd_same], hown⟩⟩)
    refine FR.frGo_nil _ ?_
    intro S ρ w8 hI hS
    have z10 := hS 10 (by decide) (by kernel_rfl)
    have z20 := hS 20 (by decide) (by kernel_rfl)
    have z22 := hS 22 (by decide) (by kernel_rfl)
    have z23 := hS 23 (by decide) (by kernel_rfl)
    obtain ⟨a5, c5, e23, ho5⟩ := (hI.done (by decide) (by simp [z10.1, z20.1, z22.1, z23.1])).2.2.2 rfl
    rw [z23.2] at e23
    rw [e23]
    have hb8 := HJB.out w8 hI.j
    have hCl := (own_blk HO6.out C rfl).2
    have HD8 := hid (HD6.out.later hb8)
    have HO8 := hid (own_below HO6.out hb8)
    have HO5 := hid ho5
    have zc := HO8.out.cellAt pl (by omega)
    rw [rowsW_get HR0.out (row4_get HPLS.out)] at zc
    have zf := HO8.out.frozenAt pl
    clear hI hS z10 z20 z22 z23 e23 ho5 hb8 HV
    refine wpMix_rd rfl rfl (fun K hK => ?_)
    go_simp
    refine hK _ ?_
    clear hK K
    refine wpMix_act rfl rfl (fun K hK => ?_)
    go_simp
    refine hK _ _ ?_
    clear hK K
    (with_reducible refine wpMix_nil ?_)
    go_wp2
    go_ret
    have hlen : (row4 s pl ++ [((ln : Int), wv)]).length = l + 1 := by rw [List.length_append, ← HLL.out]; rfl
    have st := (HO8.out.stored pl (.slice a5 (l + 1) c5)).1
    have hset := rowsW_set HRL.out pl (a5, c5) (row4 s pl ++ [((ln : Int), wv)])
    rw [hlen] at hset
    dsimp only at hset
    rw [hset] at st
    have HD9 := hid (HD8.out.other (C := C) (j := pl) (v := .slice a5 (l + 1) c5) (by omega) (by omega))
    have hrow9 := own_keeps HO5.out (Keeps.setCell w8 ⟨C, pl, none⟩ (.slice a5 (l + 1) c5)) (fun b hb e => by have := (own_blk HO5.out b hb).1; simp at e; omega)
    refine ⟨w.heap.size, rfl, ⟨⟨some ⟨C, 0, none⟩, c2, ?_, fun e => Nat.lt_irrefl _ (HXF.out _ e), ?_, ?_⟩, HG4.out⟩, HD9.out.below⟩
    · rw [HFL.out, ← HN.out]
      dsimp only
      rw [List.length_set, ← HBN.out]
      exact HD9.out.cur
    · rw [HFL.out]
      refine ⟨rs.set pl (a5, c5), by simp [HRL.out], Rd.own st, HCF.out, fun k r xs h1 h2 => ?_⟩
      by_cases hk : pl = k
      · subst hk
        rw [List.getElem?_set_self (by rw [HRL.out]; exact HPLS.out)] at h1
        rw [List.getElem?_set_self HPLS.out] at h2
        cases h1
        cases h2
        have hby : b8s (bytesB (row4 s pl ++ [((ln : Int), wv)])) = b8s (bytesB (row4 s pl)) ++ [.int .u8 ((ln : Int) * 16 + wv)] := by simp [bytesB]
        rw [hby, hlen]
        exact ⟨Rd.own hrow9, own_cap hrow9, fun _ b hb e => by have h3 := HXF.out b e; have h4 := (own_blk hrow9 b hb).1; have h5 := HD6.out.below.size; omega⟩
      · rw [List.getElem?_set_ne hk] at h1
        rw [List.getElem?_set_ne hk] at h2
        exact ⟨(HRI.out k r xs h1 h2).1.below HD9.out.below, (HRI.out k r xs h1 h2).2⟩
    · rw [HFL.out]
      dsimp only
      rw [List.length_set, ← HBN.out]
      exact hcap.out
theorem bufAfterX_c (w : World) (F : Nat → Prop) (a : Option Addr) (cap : Nat) (g : Nat) (p : Prg) (split : Bool) (s : St) (t : Nat) (hrp : RdP w a p) (hX : BAtX w F a cap g p split s) (hF : ∀ k, F k → k < w.heap.size) (hv : Shape p) (h1 : t < p.length + s.buf.length) (h2 : can4 p s split t = true) :
    Calls Try.prog 127 #[.pointer (some ⟨g, 0, none⟩), .int .i64 t] w fun e w' => ∃ B, e = .returned (.iface 100 (.pointer (some ⟨B, 0, none⟩))) ∧ BAtX w' F a cap B p split (do4 p s split t) ∧ Below w.heap.size w w' := by
  by_cases ht : t < p.length
  · unfold can4 at h2
    rw [if_pos ht] at h2
    exact bufAfterTX_c w F a cap g p split s t hrp hX hF hv ht h2
  · obtain ⟨k, rfl⟩ : ∃ k, t = p.length + k := ⟨t - p.length, by omega⟩
    unfold can4 at h2
    rw [if_neg ht, Nat.add_sub_cancel_left] at h2
    have hf : do4 p s split (p.length + k) = flush4 p s k := by
      unfold Proofs.Ytbncmeggnhggkaa.do4
      rw [if_neg ht, Nat.add_sub_cancel_left]
    rw [hf]
    cases hr : row4 s k with
    | nil => rw [hr] at h2; simp at h2
    | cons e es =>
      obtain ⟨el, ev⟩ := e
      exact bufAfterFX_c w F a cap g p split s k el ev es hrp hX hF hv (by omega) hr
end Go.Proofs.Ytbncmeggnhggkaa
