/-
  PROVED HERE: what spec.l3Seq does: it gives a list of outcomes that is not empty. CONDITIONS: as each theorem states.
-/
import Derived.Test.YthlmfjoiicnomaaSqs
import Derived.Test.YthlmfjoiicnomaaFns
namespace Go.Proofs.Ythlmfjoiicnomaa
open Go.RowKit
set_option linter.unusedVariables false
set_option linter.unusedSimpArgs false

set_option maxRecDepth 100000 in
set_option maxHeartbeats 3200000 in
theorem l3Seq_c (w : World) (a : Option Addr) (cap : Nat) (p : Prg) (hp : RdP w a p) (hv : progValid p = true) :
    Calls Try.prog 81 #[.slice a p.length cap] w (SeqPost w p) := by
  have hsh := (valid_of hv).toShape
  have HST := hid (fun w => l3Start_c w a cap p 0 (by have := hsh.len; omega) (by omega))
  have HDN := hid (fun w q s hp h hg => l3Done_c w a cap p q s hp h hsh hg)
  have HOUT := hid (fun w q s (h : RdS w q s) (hg : Good p s) => l3Outcome_c w q s h (by have := (good_small hg hsh).2.1; omega) (by have := (good_small hg hsh).2.2; omega))
  have HDO := hid (fun w q s t hp h (hg : G3 p s) hgo => l3Do_c w a cap p q s t hp h hsh hg.toGood hg.sm hgo)
  have HKEY := hid (fun w q s h (hg : G3 p s) => l3Key_c w q s h (hg.smallS hsh))
  have HFO := hid (fun w g S tb s (h : Tab w g S tb) (ok : TabOk (G3 p) tb) (hg : G3 p s) => l3Found_c w g S tb (keyS s) h ok.len (hg.size hsh) (ok.row_le hsh _))
  have HMK := hid (fun w g S tb s (h : Tab w g S tb) (ok : TabOk (G3 p) tb) (hg : G3 p s) => l3Mark_c w g S tb (keyS s) h ok.len (hg.size hsh) (ok.row_le hsh _))
  have HSH := hid hsh
  have hn3 : p.length ≤ 3 := hsh.len
  obtain ⟨w0, hw0⟩ : ∃ w0, w0 = w.alloc (.cells #[.int .i64 0, .slice none 0 0] 132) := ⟨_, rfl⟩
  have HB0 := hid (show Below w.heap.size w w0 from by rw [hw0]; exact (Below.refl _ _).alloc (Nat.le_refl _) _)
  have HR0 := hid (show w0.heap[w.heap.size]? = some (.cells #[.int .i64 0, .slice none 0 0] 132 (0, 0)) from by rw [hw0]; exact heap_alloc_new w _)
  have HP0 := hid (hp.below HB0.out)
  obtain ⟨i, h2, hz, h3, h4⟩ := info_parts Try.info_strrow
  obtain ⟨w2, hr2, hown2, hgrow2⟩ := run_make_full (P := Try.prog) w0 0 146 89 i (.slice none 0 0) 1 Try.underlying146 h2 hz h3 .i64 .i64 4096 (by rw [h4]; decide) (by decide) (Nat.zero_le _)
  have HB2 := hid (show Below w0.heap.size w0 w2 from ⟨hgrow2.os, hgrow2.tape, hgrow2.output, hgrow2.size, fun k hk => hgrow2.block k hk (by simp)⟩)
  have HT2 := hid (own_rows0 hown2)
  have HL2 := hid (own_blk hown2 _ rfl).2
  obtain ⟨np, hnp⟩ : ∃ np, np = p.length := ⟨_, rfl⟩
  have HN := hid hnp
  rw [← hnp] at HST HDN HDO hn3 ⊢
  clear hnp hp hv hsh hown2 hgrow2 h2 hz h3 h4
  unfold Sp.v at HST HDN HOUT HDO HKEY
  rw [hw0] at hr2
  replace hr2 : (Instr.makeSlice 146 (.int .i64 4096) (.int .i64 4096)).run Try.prog (w.alloc (.cells #[.int .i64 0, .slice none 0 0] 132)) = .ok (.slice (some ⟨(w.alloc (.cells #[.int .i64 0, .slice none 0 0] 132)).heap.size, 0, none⟩) 4096 4096) w2 := hr2
  have HW0 := hid hw0
  clear hw0
  go_enter Try.func81, Try.ntmps81
  go_wp2_with fail
  refine (HST.out _).mono ?_
  rintro e w3 ⟨⟨e0, f0, e1, f1, e2, f2, e3, f3⟩, rfl, hfr, hb3⟩
  have HB3 := hid (HB2.out.trans (hb3.mono HB2.out.size))
  have HA3 := hid (hfr.sta (S := fun b => b < w2.heap.size) fun b hb => hb)
  have HT3 := hid (HT2.out.below hb3)
  have hs3 := hb3.size
  have hs2 := HB2.out.size
  have hs0 : w0.heap.size = w.heap.size + 1 := by rw [HW0.out]; simp
  have hl2 := HL2.out
  rw [hs0] at hl2
  clear hfr hb3 hr2
  dsimp only
  obtain ⟨s0, hs0e⟩ : ∃ s0, s0 = start3 p 0 := ⟨_, rfl⟩
  have HS0 := hid hs0e
  rw [← hs0e] at HA3 ⊢
  clear hs0e
  obtain ⟨w4, hw4⟩ : ∃ w4, w4 = w3.alloc (.cells #[.slice e0 s0.pc.length f0, .slice e1 s0.regs.length f1, .slice e2 s0.mem.length f2, .slice e3 s0.buf.length f3] 148) := ⟨_, rfl⟩
  have hb4 : Below w3.heap.size w3 w4 := by rw [hw4]; exact (Below.refl _ _).alloc (Nat.le_refl _) _
  have hst4 : w4.heap[w3.heap.size]? = some (.cells #[.slice e0 s0.pc.length f0, .slice e1 s0.regs.length f1, .slice e2 s0.mem.length f2, .slice e3 s0.buf.length f3] 148 (0, 0)) := by rw [hw4]; exact heap_alloc_new w3 _
  have HOW4 := hid (show w4.ownsRow w0.heap.size 148 4 (.slice (some ⟨w3.heap.size, 0, none⟩) 1 1) 1 #[.slice e0 s0.pc.length f0, .slice e1 s0.regs.length f1, .slice e2 s0.mem.length f2, .slice e3 s0.buf.length f3].toList from
    ⟨rfl, .inr ⟨w3.heap.size, 1, _, rfl, HB3.out.size, hst4, Nat.le_refl _, by decide, rfl, rfl⟩⟩)
  have HB4 := hid (HB3.out.trans (hb4.mono HB3.out.size))
  have HA4 := hid (HA3.out.below hb4)
  have HT4 := hid (HT3.out.below hb4)
  have hs4 : w4.heap.size = w3.heap.size + 1 := by rw [hw4]; simp
  have y0 := cell_of_row w4 w3.heap.size 0 _ _ _ hst4
  have y1 := cell_of_row w4 w3.heap.size 1 _ _ _ hst4
  have y2 := cell_of_row w4 w3.heap.size 2 _ _ _ hst4
  have y3 := cell_of_row w4 w3.heap.size 3 _ _ _ hst4
  have HKY4 := hid (HKEY.out w4 ⟨e0, f0, e1, f1, e2, f2, e3, f3⟩ s0 HA4.out.rd (by rw [HS0.out]; exact G3.start p))
  clear hb4 hst4
  rw [hw4] at y0 y1 y2 y3 HKY4
  have HW4 := hid hw4
  clear hw4
  go_wp2_with fail
  refine HKY4.out.mono ?_
  rw [← HW4.out]
  rintro e w5 ⟨rfl, hb5⟩
  rw [show strOfNums (keyB s0) = keyS s0 from rfl]
  have HB5 := hid (HB4.out.trans (hb5.mono HB4.out.size))
  have hs5 := hb5.size
  have HT5 := hid (show Tab w5 (w.heap.size + 1) (· = w.heap.size + 1) (List.replicate 4096 []) from by rw [← hs0]; exact HT4.out.below hb5)
  have HM5 := hid (HMK.out w5 (w.heap.size + 1) (· = w.heap.size + 1) (List.replicate 4096 []) s0 HT5.out (TabOk.start _) (by rw [HS0.out]; exact G3.start p))
  have HB35 := hid ((show Below w3.heap.size w3 w4 from by rw [HW4.out]; exact (Below.refl _ _).alloc (Nat.le_refl _) _).trans (hb5.mono (by omega)))
  have HO5 := hid (own_below HOW4.out hb5)
  clear hb5 y0 y1 y2 y3 HKY4 HT4 HT5
  go_wp2_with fail
  refine HM5.out.mono ?_
  rintro e w6 ⟨rfl, S6, ht6, hk6, hs6⟩
  have hz6 := hk6.size
  have hoa : w5.heap.size ≤ w6.heap.size := hz6
  obtain ⟨w7, hw7⟩ : ∃ w7, w7 = (w6.alloc (.cells #[] 24)).alloc (.cells #[.int .i64 0, .slice (some ⟨w6.heap.size, 0, none⟩) 0 0] 132) := ⟨_, rfl⟩
  have hb7 : Below w6.heap.size w6 w7 := by rw [hw7]; exact ((Below.refl _ _).alloc (Nat.le_refl _) _).alloc (by simp) _
  have hz7 : w7.heap.size = w6.heap.size + 2 := by rw [hw7]; simp
  have hho7 : w7.heap[w6.heap.size + 1]? = some (.cells #[.int .i64 0, .slice (some ⟨w6.heap.size, 0, none⟩) 0 0] 132 (0, 0)) := by
    rw [hw7]
    have := heap_alloc_new (w6.alloc (.cells #[] 24)) (.cells #[.int .i64 0, .slice (some ⟨w6.heap.size, 0, none⟩) 0 0] 132)
    simpa using this
  have HQ0 := hid (show SqW w0 w7 (w.heap.size + 1) (w6.heap.size + 1) S6 (markT (List.replicate 4096 []) (keyS s0)) (some ⟨w3.heap.size, 0, none⟩) 1 [(⟨e0, f0, e1, f1, e2, f2, e3, f3⟩, s0)] 0 w6.heap.size 0 [] from by
    have hS6 : ∀ b, S6 b → (b = w.heap.size + 1) ∨ (w5.heap.size ≤ b ∧ b < w6.heap.size) := hs6
    have hB6 : Below w0.heap.size w0 w6 := Proofs.Ythlmfjoiicnomaa.Below.keeps HB5.out hk6 HB5.out.size (fun k (e : k = w.heap.size + 1) => by omega)
    refine ⟨hB6.trans (hb7.mono hB6.size), ht6.below hb7, fun b hb => ?_, own_below (own_keeps HO5.out hk6 (fun b hb e => ?_)) hb7, fun b hb => ⟨fun e => ?_, fun e => ?_⟩, hho7, ⟨fun e => ?_, by omega⟩, fun e he => ?_, RdLX.nil _ _ _, Nat.le_refl _, by decide⟩
    · rcases hS6 b hb with h | h <;> omega
    · simp [blk] at hb; have e : b = w.heap.size + 1 := e; omega
    · simp [blk] at hb; rcases hS6 b e with h | h <;> omega
    · simp [blk] at hb; omega
    · rcases hS6 _ e with h | h <;> omega
    · rw [List.mem_singleton] at he
      subst he
      refine HA3.out.change (Keeps.trans (Keeps.of_below HB35.out) (Keeps.trans (hk6.mono (fun b (e : b = w.heap.size + 1) => show b < w2.heap.size by omega)) (Keeps.of_below hb7))) fun b hb => ?_
      rcases hb with hb | hb | hb | hb
      · exact .inl (show b < w2.heap.size by omega)
      · rcases hS6 b hb with h | h
        · exact .inl (show b < w2.heap.size by omega)
        · exact .inr (by omega)
      · simp [blk] at hb; exact .inr (by omega)
      · exact .inr (by omega))
  have HK0 := hid (SeqK.start HSH.out)
  rw [← HS0.out] at HK0
  go_wp2_with fail
  rw [← hw7]
  have HW7 := hid hw7
  clear hw7 hb7 ht6 hk6 hs6 hho7 HM5 HO5 HB35 HA3 HA4 HB4 HB5 HB3 HB2 HT3 HT2 HOW4 HW4 HL2 hl2 hoa
  obtain ⟨g, hg⟩ : ∃ g, g = w.heap.size + 1 := ⟨_, rfl⟩
  obtain ⟨Ho, hHo⟩ : ∃ Ho, Ho = w6.heap.size + 1 := ⟨_, rfl⟩
  rw [← hg, ← hHo] at HQ0 ⊢
  have HGH := hid (And.intro hg hHo)
  clear hg hHo
  have HS00 := hid hs0
  clear hs0
  go_loopg [4] (wt p [s0]) (fun k v4 wr => ∃ (S : Nat → Prop) (tb : List (List ByteArray)) (wa : Option Addr) (wc : Nat) (wk : List (Sp × St)) (cnt : Int) (oa oc : Nat) (outs : List (List Int)) (dn : List St), v4 = .slice wa wk.length wc ∧ Hid (wt p (wk.map Prod.snd) ≤ k) ∧ Hid (SqW w0 wr g Ho S tb wa wc wk cnt oa oc outs) ∧ Hid (SeqK p tb (wk.map Prod.snd) dn outs.length (fun _ => False)) ∧ Hid (∀ xs ∈ outs, xs.length = p.length * 3 + 3))
  case atStart => exact ⟨S6, _, _, 1, [(⟨e0, f0, e1, f1, e2, f2, e3, f3⟩, s0)], 0, w6.heap.size, 0, [], [], rfl, hid (Nat.le_refl _), HQ0, HK0, hid (fun xs h => by cases h)⟩
  case round =>
    clear HQ0 HK0 HW7
    obtain ⟨S, tb, wa, wc, wk, cnt, oa, oc, outs, dn, rfl, HLE, HQ, HK, HXL⟩ := hrel
    rcases List.eq_nil_or_concat wk with rfl | ⟨wk', ⟨q, s⟩, rfl⟩
    · have x0 := cell_of_row wr Ho 0 _ _ _ HQ.out.ho
      have x1 := cell_of_row wr Ho 1 _ _ _ HQ.out.ho
      have HR1 := hid ((HQ.out.below.block _ (by have := HS00.out; omega)).trans HR0.out)
      have HONE := hid (show (#[.int .i64 cnt, .slice (some ⟨oa, 0, none⟩) outs.length oc] : Array Value).all (·.oneCell') = true by simp [Value.oneCell'])
      have h00 : (([] : List (Sp × St)).length : Int) = 0 := rfl
      go_wp2_with ((refine wpList_store_row rfl 132 (.tmp 2) (.tmp 83) rfl w.heap.size #[.int .i64 cnt, .slice (some ⟨oa, 0, none⟩) outs.length oc] rfl rfl 132 _ HR1.out (by kernel_rfl) rfl HONE.out ?_))
      refine bodyPost_ret (results_cell_row rfl _ _ w.heap.size 132 _ (0, 0) _ rfl (setRow_heap _ _ _ _ _ _ HR1.out) Try.underlying132 rfl (by kernel_rfl)) rfl ⟨cnt, oa, oc, outs, rfl, ?_, HK.out.finish HSH.out, HK.out.few HSH.out, HXL.out, ?_⟩
      · exact HQ.out.ox.turn ((keeps_setRow wr w.heap.size _).mono fun b (e : b = w.heap.size) => .inl (by have := HS00.out; omega)) fun b (e : b < w.heap.size) => .inl (.inl (by have := HS00.out; omega))
      · exact Proofs.Ythlmfjoiicnomaa.Below.keeps (HB0.out.trans (HQ.out.below.mono (by have := HS00.out; omega))) (keeps_setRow wr w.heap.size _) (by have := HQ.out.below.size; have := HS00.out; omega) (fun k e => by omega)
    · have hl : (wk' ++ [(q, s)]).length = wk'.length + 1 := by simp
      have HK1 := hid (show SeqK p tb (wk'.map Prod.snd ++ [s]) dn outs.length (fun _ => False) from by have := HK.out; rwa [List.concat_eq_append, List.map_append] at this)
      have HPOP := hid HK1.out.pop
      have HQ1 := hid (show SqW w0 wr g Ho S tb wa wc (wk' ++ [(q, s)]) cnt oa oc outs from by have := HQ.out; rwa [List.concat_eq_append] at this)
      have HLE1 := hid (show wt p (wk'.map Prod.snd) + 4 ^ left4 p s ≤ gk from by have := HLE.out; rwa [List.concat_eq_append, List.map_append, List.map_cons, List.map_nil, wt_snoc] at this)
      rw [List.concat_eq_append, hl]
      clear HLE HQ HK HK1 hl
      obtain ⟨gw, hwa, hgl, hcs⟩ := own_last4 HQ1.out.row
      subst hwa
      have HM9 := HPOP.out.1.wlen HSH.out
      rw [List.length_map] at HM9
      obtain ⟨m, hm⟩ : ∃ m, m = wk'.length := ⟨_, rfl⟩
      rw [← hm] at hcs HM9 ⊢
      have HM := hid hm
      obtain ⟨e0, f0, e1, f1, e2, f2, e3, f3⟩ := q
      have x0 : wr.cell? ⟨gw, m * 4, none⟩ = some (.slice e0 s.pc.length f0) := hcs 0 _ rfl
      have x1 : wr.cell? ⟨gw, m * 4 + 1, none⟩ = some (.slice e1 s.regs.length f1) := hcs 1 _ rfl
      have x2 : wr.cell? ⟨gw, m * 4 + 2, none⟩ = some (.slice e2 s.mem.length f2) := hcs 2 _ rfl
      have x3 : wr.cell? ⟨gw, m * 4 + 3, none⟩ = some (.slice e3 s.buf.length f3) := hcs 3 _ rfl
      obtain ⟨hq2, hst2⟩ := HQ1.out.pop
      obtain ⟨w1, hw1⟩ : ∃ w1, w1 = wr.alloc (.cells #[.slice e0 s.pc.length f0, .slice e1 s.regs.length f1, .slice e2 s.mem.length f2, .slice e3 s.buf.length f3] 148) := ⟨_, rfl⟩
      have hb1 : Below wr.heap.size wr w1 := by rw [hw1]; exact (Below.refl _ _).alloc (Nat.le_refl _) _
      have hbx1 : BoxA w1 (SqF w0 S (some ⟨gw, 0, none⟩) Ho) wr.heap.size #[.slice e0 s.pc.length f0, .slice e1 s.regs.length f1, .slice e2 s.mem.length f2, .slice e3 s.buf.length f3] := ⟨by rw [hw1]; exact heap_alloc_new wr _, fun e => by have := hq2.F_lt _ e; omega⟩
      have hq3 := hq2.step hb1
      have hst3 := hst2.below hb1
      have hres := fun (c : Int) => hq3.res (w' := w1.setCell ⟨Ho, 0, none⟩ (.int .i64 c)) (cnt' := c) (Keeps.setCell w1 ⟨Ho, 0, none⟩ _) (by rw [heap_setCell_same w1 Ho 0 _ _ _ hq3.ho]; rfl) hq3.ox hq3.oc
      have HQ3 := hid (fun c => (hres c).1)
      have HST3 := hid (fun c => hst3.change (hres c).2 fun b hb => .inl hb)
      have HBX3 := hid (fun c => hbx1.turn (hres c).2 fun b hb => .inl hb)
      have hs1 : w1.heap.size = wr.heap.size + 1 := by rw [hw1]; simp
      have z0 : w1.cell? ⟨Ho, 0, none⟩ = some (.int .i64 cnt) := cell_of_row w1 Ho 0 _ _ _ hq3.ho
      have z1 : w1.frozen? ⟨Ho, 0, none⟩ = false := frozen_of_row w1 Ho 0 _ _ hq3.ho
      have y0 := fun (c : Int) => (HBX3.out c).cells.1
      have y1 := fun (c : Int) => (HBX3.out c).cells.2.1
      have y2 := fun (c : Int) => (HBX3.out c).cells.2.2.1
      have y3 := fun (c : Int) => (HBX3.out c).cells.2.2.2
      rw [hw1] at z0 z1 y0 y1 y2 y3
      have HW1 := hid hw1
      have hmw : (m : Int) ≤ (wc : Int) := by have := own_cap HQ1.out.row; rw [List.length_append, List.length_singleton, ← hm] at this; omega
      clear hm hcs hq2 hst2 hq3 hst3 hres hbx1 hw1 hb1 HQ1
      go_wp2_with fail
      rw [← HW1.out]
      obtain ⟨c, hc⟩ : ∃ c, c = wrap64 (cnt + 1) := ⟨_, rfl⟩
      rw [← hc]
      obtain ⟨w2, hw2⟩ : ∃ w2, w2 = w1.setCell ⟨Ho, 0, none⟩ (.int .i64 c) := ⟨_, rfl⟩
      rw [← hw2]
      have hs2 : w2.heap.size = wr.heap.size + 1 := by rw [hw2]; simp [World.setCell]; exact hs1
      obtain ⟨H, hH⟩ : ∃ H, H = wr.heap.size := ⟨_, rfl⟩
      have HQ4 := hid (show SqW w0 w2 g Ho S tb (some ⟨gw, 0, none⟩) wc wk' c oa oc outs from by rw [hw2]; exact HQ3.out c)
      have HST4 := hid (show StA w2 (SqF w0 S (some ⟨gw, 0, none⟩) Ho) ⟨e0, f0, e1, f1, e2, f2, e3, f3⟩ s from by rw [hw2]; exact HST3.out c)
      have HBX4 := hid (show BoxA w2 (SqF w0 S (some ⟨gw, 0, none⟩) Ho) H #[.slice e0 s.pc.length f0, .slice e1 s.regs.length f1, .slice e2 s.mem.length f2, .slice e3 s.buf.length f3] from by rw [hw2, hH]; exact HBX3.out c)
      rw [← hH]
      have HD4 := hid (HDN.out w2 ⟨e0, f0, e1, f1, e2, f2, e3, f3⟩ s (HP0.out.below HQ4.out.below) HST4.out.rd HPOP.out.2.1.toGood)
      obtain ⟨D, hD⟩ : ∃ D, D = done3 p s := ⟨_, rfl⟩
      rw [← hD] at HD4
      have HDD := hid hD
      clear hc hw2 HQ3 HST3 HBX3 HW1 y0 y1 y2 y3 z0 z1 x0 x1 x2 x3 hs1 hH hD
      refine HD4.out.mono ?_
      rintro e w5 ⟨rfl, hb5⟩
      have HQ5 := hid (HQ4.out.step hb5)
      have HST5 := hid (HST4.out.below hb5)
      have HBX5 := hid (HBX4.out.below hb5)
      have hs5 := hb5.size
      clear HQ4 HST4 HBX4 HD4 hb5
      obtain ⟨W, hW⟩ : ∃ W, W = wt p (wk'.map Prod.snd) := ⟨_, rfl⟩
      rw [← hW] at HLE1
      have HWE := hid hW
      clear hW
      cases D
      case' false =>
        have HL := hid (show SqL w0 w5 p g Ho H S tb (some ⟨gw, 0, none⟩) wc wk' c oa oc outs dn ⟨e0, f0, e1, f1, e2, f2, e3, f3⟩ s 0 W from
          ⟨HQ5.out, HPOP.out.1, HBX5.out, HST5.out, HPOP.out.2.2.1, fun t ht => absurd ht (Nat.not_lt_zero _), by rw [HWE.out]; omega⟩)
        have HD0 := hid (fun (h : done3 p s = true) => show 0 < outs.length from by rw [← HDD.out] at h; cases h)
        have HXL5 := hid HXL.out
        clear HQ5 HST5 HBX5
        go_wp2_with fail
      case' true =>
        obtain ⟨J, hJ⟩ : ∃ J : World → Prop, J = fun w' => Below w5.heap.size w5 w' := ⟨_, rfl⟩
        have HJ := hid (fun w' (h : Below w5.heap.size w5 w') => show J w' by rw [hJ]; exact h)
        have HC := hid (fun w' (h : J w') => show w'.cell? ⟨Ho, 1, none⟩ = some (.slice (some ⟨oa, 0, none⟩) outs.length oc) ∧ (w'.cell? ⟨H, 0, none⟩ = some (.slice e0 s.pc.length f0) ∧ w'.cell? ⟨H, 1, none⟩ = some (.slice e1 s.regs.length f1) ∧ w'.cell? ⟨H, 2, none⟩ = some (.slice e2 s.mem.length f2) ∧ w'.cell? ⟨H, 3, none⟩ = some (.slice e3 s.buf.length f3)) from by
          rw [hJ] at h
          exact ⟨cell_of_row w' Ho 1 _ _ _ (HQ5.out.step h).ho, (HBX5.out.below h).cells⟩)
        have hJ0 : J w5.drew := HJ.out _ (below_drewN 1 (Below.refl _ _))
        have HX5 := hid (HOUT.out w5.drew ⟨e0, f0, e1, f1, e2, f2, e3, f3⟩ s (HST5.out.below (below_drewN 1 (Below.refl _ _))).rd HPOP.out.2.1.toGood)
        have HOL := hid (out3_length HPOP.out.2.1.toGood)
        have HOS := hid hJ
        clear hJ
        go_wp2_with fail
        refine MJ.wp_region_mix (J := J) (by kernel_rfl) (by kernel_rfl) ?_
        repeat (first | (refine MJ.wpMix_pure rfl rfl (fun K hK => ?_); go_simp; (first | refine hK _ ?_ | refine ⟨_, fun W hW => rfl, hK _ ?_⟩ | refine ⟨_, fun W hW => ⟨rfl, rfl⟩, hK _ ?_⟩); clear hK K) | (refine MJ.wpMix_held rfl rfl (by assumption) (fun K hK => ?_); go_simp; apply Exists.intro; refine And.intro (fun W hW => ?_) (hK _ ?_); (focus (have hcs := HC.out W hW; go_simp; try rfl)); clear hK K))
        (with_reducible refine MJ.wpMix_make rfl rfl (fun K hK => ?_); go_simp)
        refine HX5.out.mono ?_
        rintro e w6 ⟨ao, co, rfl, hown6, hb6⟩
        have hb56 : Below w5.heap.size w5 w6 := (below_drewN 1 (Below.refl _ _)).trans hb6
        have hJ6 : J w6 := HJ.out _ hb56
        have HQ6 := hid (HQ5.out.step hb56)
        have HPU := hid (l3Put_c w6 (SqF w0 S (some ⟨gw, 0, none⟩) Ho) oa oc outs ao co (out3 s) (p.length * 3 + 3) HQ6.out.ox HQ6.out.oc.1 HQ6.out.oc.2 HQ6.out.F_lt (Rd.own hown6) (own_cap hown6) (fun _ b hb e => by have h1 := HQ5.out.F_lt _ e; have h2 := (own_blk hown6 b hb).1; have h3 : w5.drew.heap.size = w5.heap.size := rfl; omega) HXL.out HOL.out (by rw [← HN.out]; omega) (by have := HPOP.out.1.few HSH.out; omega))
        refine hK _ _ hJ6 ?_
        clear hK K hJ0 HX5
        repeat (first | (refine MJ.wpMix_pure rfl rfl (fun K hK => ?_); go_simp; (first | refine hK _ ?_ | refine ⟨_, fun W hW => rfl, hK _ ?_⟩ | refine ⟨_, fun W hW => ⟨rfl, rfl⟩, hK _ ?_⟩); clear hK K) | (refine MJ.wpMix_held rfl rfl (by assumption) (fun K hK => ?_); go_simp; apply Exists.intro; refine And.intro (fun W hW => ?_) (hK _ ?_); (focus (have hcs := HC.out W hW; go_simp; try rfl)); clear hK K))
        (with_reducible refine MJ.wpMix_make rfl rfl (fun K hK => ?_); go_simp)
        refine HPU.out.mono ?_
        rintro e w7 ⟨ob, oc7, outs7, rfl, hx7, hc7, hm7, hne7, hl7, hall7, hb7⟩
        have HQ7 := hid (HQ6.out.step hb7)
        have hb57 : Below w5.heap.size w5 w7 := hb56.trans (hb7.mono hb56.size)
        have hJ7 : J w7 := HJ.out _ hb57
        refine hK _ _ hJ7 ?_
        clear hK K
        have z0 : w7.cell? ⟨Ho, 1, none⟩ = some (.slice (some ⟨oa, 0, none⟩) outs.length oc) := cell_of_row w7 Ho 1 _ _ _ HQ7.out.ho
        have z1 : w7.frozen? ⟨Ho, 1, none⟩ = false := frozen_of_row w7 Ho 1 _ _ HQ7.out.ho
        have hw8 := HQ7.out.res (w' := w7.setCell ⟨Ho, 1, none⟩ (.slice (some ⟨ob, 0, none⟩) outs7.length oc7)) (outs' := outs7) (cnt' := c) (oa' := ob) (oc' := oc7) (Keeps.setCell w7 ⟨Ho, 1, none⟩ _) (by rw [heap_setCell_same w7 Ho 1 _ _ _ HQ7.out.ho]; rfl) hx7 ⟨hc7, hm7⟩
        have hpos : 0 < outs7.length := List.length_pos_iff.2 hne7
        have HL := hid (show SqL w0 (w7.setCell ⟨Ho, 1, none⟩ (.slice (some ⟨ob, 0, none⟩) outs7.length oc7)) p g Ho H S tb (some ⟨gw, 0, none⟩) wc wk' c ob oc7 outs7 (dn ++ [s]) ⟨e0, f0, e1, f1, e2, f2, e3, f3⟩ s 0 W from
          ⟨hw8.1, HPOP.out.1.put HPOP.out.2.1 HDD.out.symm HPOP.out.2.2.1 HPOP.out.2.2.2.1 HPOP.out.2.2.2.2 hl7 hpos, (HBX5.out.below hb57).turn hw8.2 (fun b hb => .inl hb), (HST5.out.below hb57).change hw8.2 (fun b hb => .inl hb), HPOP.out.2.2.1, fun t ht => absurd ht (Nat.not_lt_zero _), by rw [HWE.out]; omega⟩)
        have HD0 := hid (fun (h : done3 p s = true) => hpos)
        have HXL5 := hid (show ∀ xs ∈ outs7, xs.length = p.length * 3 + 3 from fun xs hx => by
          rcases hall7 xs hx with h | h
          · exact HXL.out xs h
          · rw [h]; exact HOL.out)
        have hs7 := hb57.size
        clear hx7 hc7 hm7 hne7 hl7 hall7 hb7 hw8 hpos hb57 hb56 hb6 hown6 HPU HQ6
        repeat (first | (refine MJ.wpMix_pure rfl rfl (fun K hK => ?_); go_simp; (first | refine hK _ ?_ | refine ⟨_, fun W hW => rfl, hK _ ?_⟩ | refine ⟨_, fun W hW => ⟨rfl, rfl⟩, hK _ ?_⟩); clear hK K) | (refine MJ.wpMix_held rfl rfl (by assumption) (fun K hK => ?_); go_simp; apply Exists.intro; refine And.intro (fun W hW => ?_) (hK _ ?_); (focus (have hcs := HC.out W hW; go_simp; try rfl)); clear hK K))
        (with_reducible refine MJ.wpMix_act rfl rfl rfl (fun K hK => ?_); go_simp)
        refine hK _ _ ?_
        clear hK K hJ6 hJ7 z0 z1 HQ7 HC HJ HOS HQ5 HST5 HBX5
        refine MJ.wpMix_nil ?_
        go_wp2_with fail
      all_goals
        go_loopw [4, 7] (fun v4 i wx => ∃ (k : Nat) (S : Nat → Prop) (tb : List (List ByteArray)) (wa : Option Addr) (wc : Nat) (wk : List (Sp × St)) (c : Int) (oa oc : Nat) (outs : List (List Int)) (dn : List St), k ≤ np ∧ i = .int .i64 k ∧ v4 = .slice wa wk.length wc ∧ Hid (SqL w0 wx p g Ho H S tb wa wc wk c oa oc outs dn ⟨e0, f0, e1, f1, e2, f2, e3, f3⟩ s k W) ∧ Hid (done3 p s = true → 0 < outs.length) ∧ Hid (∀ xs ∈ outs, xs.length = p.length * 3 + 3)) (fun _ i _ => np - (intOf i).toNat)
        case atStart => exact ⟨0, _, _, _, _, wk', _, _, _, _, _, Nat.zero_le _, rfl, by rw [HM.out], HL, HD0, HXL5⟩
        case round =>
          clear HL HD0 HXL5
          obtain ⟨k, Sr, tbr, wa, wr9, wk, c9, oa9, oc9, outs9, dn9, hk, rfl, rfl, HL, HD0, HXL5⟩ := hrel
          obtain ⟨x0, x1, x2, x3⟩ := HL.out.bx.cells
          by_cases hlt : k < np
          · have HG := hid HPOP.out.2.1
            obtain ⟨xs, hxs⟩ : ∃ xs, p[k]? = some xs := ⟨_, List.getElem?_eq_getElem (by rw [← HN.out]; exact hlt)⟩
            obtain ⟨kk, hkk, hkl⟩ := HG.out.pcb k xs hxs
            have HGO := hid (goes_of hxs hkk)
            obtain ⟨pb, po, r, rc, xs', hpa, hplt, hpx, hpc, _, _⟩ := (HP0.out.below HL.out.sq.below).at' k (by rw [← HN.out]; exact hlt)
            rw [hxs] at hpx
            cases hpx
            subst hpa
            obtain ⟨qb, qo, hqa, hqb, hqc⟩ := HL.out.st.rd.pc.int k (by rw [HG.out.pcl, ← HN.out]; exact hlt)
            have hqa : e0 = some ⟨qb, qo, none⟩ := hqa
            subst hqa
            have hpl : s.pc.length = np := by rw [HG.out.pcl, HN.out]
            rw [show s.pc[k]'(by rw [HG.out.pcl, ← HN.out]; exact hlt) = (kk : Int) from by
              have := List.getElem?_eq_getElem (l := s.pc) (i := k) (by rw [HG.out.pcl, ← HN.out]; exact hlt)
              rw [hkk] at this
              exact (Option.some.inj this).symm] at hqc
            have h7 := HSH.out.row k xs hxs
            obtain ⟨l, hl⟩ : ∃ l, l = xs.length := ⟨_, rfl⟩
            rw [← hl] at hpc h7 hkl HGO
            have hki : (k : Int) < s.pc.length := by rw [hpl]; omega
            clear hl hxs hkk hpl
            by_cases hgo : kk < l
            · have c1 : ((kk : Int) == (l : Int)) = false := by simp; omega
              rw [decide_eq_true hgo] at HGO
              go_wp2_with fail
              go_quiet (fail)
              go_wp2_with fail
              refine (HDO.out _ ⟨some ⟨qb, qo, none⟩, f0, e1, f1, e2, f2, e3, f3⟩ s k (HP0.out.below (HL.out.step (below_drewN _ (Below.refl _ _))).sq.below) (HL.out.step (below_drewN _ (Below.refl _ _))).st.rd HG.out HGO.out).mono ?_
              rintro e w4 ⟨q', rfl, hfr, hb4⟩
              have HSR := hid HL.out.sq.F_lt
              have HL4 := hid (HL.out.step ((below_drewN _ (Below.refl wr.heap.size wr)).trans hb4))
              have HA4 := hid (hfr.sta HSR.out)
              have HG4 := hid (HG.out.step HSH.out HGO.out)
              clear hfr hb4 x0 x1 x2 x3 hqc hpc HL
              obtain ⟨s', hs'⟩ : ∃ s', s' = do3 p s k := ⟨_, rfl⟩
              rw [← hs'] at HA4 HG4 ⊢
              have HSE := hid hs'
              clear hs'
              obtain ⟨g0, i0, g1, i1, g2, i2, g3, i3⟩ := q'
              dsimp only
              have hb5 : Below w4.heap.size w4 (w4.alloc (.cells #[.slice g0 s'.pc.length i0, .slice g1 s'.regs.length i1, .slice g2 s'.mem.length i2, .slice g3 s'.buf.length i3] 148)) := (Below.refl _ _).alloc (Nat.le_refl _) _
              have hst5 : (w4.alloc (.cells #[.slice g0 s'.pc.length i0, .slice g1 s'.regs.length i1, .slice g2 s'.mem.length i2, .slice g3 s'.buf.length i3] 148)).heap[w4.heap.size]? = some (.cells #[.slice g0 s'.pc.length i0, .slice g1 s'.regs.length i1, .slice g2 s'.mem.length i2, .slice g3 s'.buf.length i3] 148 (0, 0)) := heap_alloc_new w4 _
              obtain ⟨w5, hw5⟩ : ∃ w5, w5 = w4.alloc (.cells #[.slice g0 s'.pc.length i0, .slice g1 s'.regs.length i1, .slice g2 s'.mem.length i2, .slice g3 s'.buf.length i3] 148) := ⟨_, rfl⟩
              rw [← hw5] at hb5 hst5
              have HL5 := hid (HL4.out.step hb5)
              have HA5 := hid (HA4.out.below hb5)
              have HX5 := hid (show BoxA w5 (SqF w0 Sr wa Ho) w4.heap.size #[.slice g0 s'.pc.length i0, .slice g1 s'.regs.length i1, .slice g2 s'.mem.length i2, .slice g3 s'.buf.length i3] from ⟨hst5, fun e => by have := HL4.out.sq.F_lt _ e; omega⟩)
              go_wp2_with fail
              rw [← hw5]
              clear hw5 hst5 hb5 HL4 HA4
              obtain ⟨H5, hH5⟩ : ∃ H5, H5 = w4.heap.size := ⟨_, rfl⟩
              rw [← hH5] at HX5 ⊢
              clear hH5
              refine (HKEY.out _ ⟨g0, i0, g1, i1, g2, i2, g3, i3⟩ s' HA5.out.rd HG4.out).mono ?_
              rintro e w6 ⟨rfl, hb6⟩
              have HL6 := hid (HL5.out.step hb6)
              have HA6 := hid (HA5.out.below hb6)
              have HX6 := hid (HX5.out.below hb6)
              clear hb6 HL5 HA5 HX5
              rw [show strOfNums (keyB s') = keyS s' from rfl]
              have HFD := hid (HFO.out w6 g Sr tbr s' HL6.out.sq.tab HL6.out.kk.ok HG4.out)
              have HMD := hid (HMK.out w6 g Sr tbr s' HL6.out.sq.tab HL6.out.kk.ok HG4.out)
              obtain ⟨F, hF⟩ : ∃ F, F = foundT tbr (keyS s') := ⟨_, rfl⟩
              rw [← hF] at HFD
              have HF := hid hF.symm
              clear hF
              go_wp2_with fail
              refine HFD.out.mono ?_
              rintro e w7 ⟨rfl, rfl⟩
              cases F
              · go_wp2_with fail
                refine HMD.out.mono ?_
                rintro e w8 ⟨rfl, S8, ht8, hk8, hs8⟩
                have HT8 := hid (And.intro ht8 (And.intro hk8 hs8))
                obtain ⟨m1, m2, m3⟩ := HL6.out.sq.mark ht8 hk8 hs8
                have HX8 := hid (HX6.out.turn m2 m3)
                have hb9 : Below w8.heap.size w8 (w8.alloc (.cells #[.slice g0 s'.pc.length i0, .slice g1 s'.regs.length i1, .slice g2 s'.mem.length i2, .slice g3 s'.buf.length i3] 148)) := (Below.refl _ _).alloc (Nat.le_refl _) _
                have HRW := hid (m1.step hb9).row
                have HB9 := hid hb9
                have hbs := (m1.step hb9).below.size
                have HCU := hid (show ∀ j u, ((⟨g0, i0, g1, i1, g2, i2, g3, i3⟩ : Sp).cs s').toList[j]? = some u → (w8.alloc (.cells #[.slice g0 s'.pc.length i0, .slice g1 s'.regs.length i1, .slice g2 s'.mem.length i2, .slice g3 s'.buf.length i3] 148)).cell? ⟨w8.heap.size, j, none⟩ = some u from fun j u hj => by
                  rw [cell_of_row _ w8.heap.size j _ _ _ (heap_alloc_new w8 _)]
                  rw [← Array.getElem?_toList]
                  exact hj)
                have HWL := hid (show wk.length ≤ 8600000000 from by have := HL6.out.kk.wlen HSH.out; rwa [List.length_map] at this)
                obtain ⟨x0, x1, x2, x3⟩ := HX8.out.cells
                clear ht8 hk8 hs8 m1 m2 m3 hb9
                go_wp2_with (at_builtin; refine wpList_append_st rfl (.tmp 79) (.tmp 81) rfl w0.heap.size (.slice wa wk.length wr9) wk rfl HRW.out ⟨g0, i0, g1, i1, g2, i2, g3, i3⟩ s' w8.heap.size rfl HCU.out HWL.out hbs ?_)
                intro v10 w10 hown10 hgrow10 hat10
                obtain ⟨a10, c10, rfl, _⟩ := own_shape hown10
                rw [ownBlock_slice, ownBlock_slice] at hat10
                rw [ownBlock_slice] at hgrow10
                have hown11 : w10.ownsRow w0.heap.size 148 4 (.slice a10 (wk ++ [((⟨g0, i0, g1, i1, g2, i2, g3, i3⟩ : Sp), s')]).length c10) (wk ++ [((⟨g0, i0, g1, i1, g2, i2, g3, i3⟩ : Sp), s')]).length (cellsW (wk ++ [((⟨g0, i0, g1, i1, g2, i2, g3, i3⟩ : Sp), s')])) := by rw [List.length_append, List.length_singleton]; exact hown10
                have HLP := hid (HL6.out.push HSH.out HSE.out HG.out HGO.out (by rw [← HSE.out] at *; exact HF.out) HT8.out.1 HT8.out.2.1 HT8.out.2.2 HA6.out HB9.out hown11 hgrow10 (hat10.imp id fun e => e.trans (by simp)))
                clear hown11 hown10 hgrow10 hat10 x0 x1 x2 x3 HCU HRW HX8
                go_wp2_with fail
                go_roundw
                case rel => exact ⟨k + 1, S8, _, a10, c10, _, c9, oa9, oc9, outs9, dn9, by omega, by go_num, (by rw [List.length_append, List.length_singleton]), HLP, HD0, HXL5⟩
                case measure => simp [intOf]; omega
              · have HL7 := hid (HL6.out.next fun _ => by rw [← HSE.out]; exact HF.out)
                go_wp2_with fail
                go_roundw
                case rel => exact ⟨k + 1, Sr, tbr, wa, wr9, wk, c9, oa9, oc9, outs9, dn9, by omega, by go_num, rfl, HL7, HD0, HXL5⟩
                case measure => simp [intOf]; omega
            · have c1 : ((kk : Int) == (l : Int)) = true := by simp; omega
              rw [decide_eq_false hgo] at HGO
              have HLX := hid (HL.out.next fun h => by rw [HGO.out] at h; cases h)
              go_wp2_with fail
              go_quiet (fail)
              go_wp2_with fail
              go_roundw
              case rel => exact ⟨k + 1, Sr, tbr, wa, wr9, wk, c9, oa9, oc9, outs9, dn9, by omega, by go_num, rfl, hid (HLX.out.step (below_drewN _ (Below.refl _ _))), HD0, HXL5⟩
              case measure => simp [intOf]; omega
          · have HKC := hid (HL.out.kk.close HD0.out fun t ht => HL.out.ch t (by obtain ⟨_, _, _, hp, _⟩ := HPOP.out.2.1.toGood.next HSH.out ht; have := (List.getElem?_eq_some_iff.1 hp).1; have := HN.out; omega) ht)
            have hmeas : wt p (wk.map Prod.snd) < gk := by
              have h1 := HL.out.wt
              have h5 := HLE1.out
              have h2 : k ≤ 3 := by omega
              have h3 := wt_pos p s
              have h4 : k * (4 ^ left4 p s / 4) ≤ 3 * (4 ^ left4 p s / 4) := Nat.mul_le_mul_right _ h2
              omega
            have HME := hid hmeas
            clear hmeas x0 x1 x2 x3
            go_wp2_with fail
            go_roundg (wt p (wk.map Prod.snd))
            case measure => exact HME.out
            case rel => exact ⟨Sr, tbr, wa, wr9, wk, c9, oa9, oc9, outs9, dn9, rfl, hid (Nat.le_refl _), hid HL.out.sq, HKC, HXL5⟩
end Go.Proofs.Ythlmfjoiicnomaa
