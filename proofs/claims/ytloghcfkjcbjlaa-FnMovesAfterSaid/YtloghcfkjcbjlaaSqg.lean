/-
  PROVED HERE: what spec.l4Do, l4Done, l4Start do. what spec.l4After does. what spec.RunMoves and MovesAfter do. CONDITIONS: as each theorem states.
-/
import Derived.Test.YtloghcfkjcbjlaaSqd
import Derived.Test.YtloghcfkjcbjlaaSpg
namespace Go.Proofs.Ytloghcfkjcbjlaa
open Go.RowKit
set_option linter.unusedVariables false
set_option linter.unusedSimpArgs false

theorem l4Do_c (w : World) (a : Option Addr) (cap : Nat) (p : Prg) (q : Sp) (s : St) (split : Bool) (m : Nat) (hp : RdP w a p) (h : RdS w q s) (hv : Shape p) (hg : Good4 p split s) (hm : m < p.length + s.buf.length) (hc : can4 p s split m = true) :
    Calls Try.prog 51 #[.slice a p.length cap, q.v s, .bool split, .int .i64 m] w fun e w' => ∃ q' : Sp, e = .returned (q'.v (do4 p s split m)) ∧ Fresh w' w.heap.size q' (do4 p s split m) ∧ Below w.heap.size w w' := by
  unfold can4 at hc
  by_cases hlt : m < p.length
  · rw [if_pos hlt] at hc
    exact l4DoT_c w a cap p q s split m hp h hv hg hlt hc
  · rw [if_neg hlt] at hc
    obtain ⟨b, rfl⟩ : ∃ b, m = p.length + b := ⟨m - p.length, by omega⟩
    have hf : do4 p s split (p.length + b) = flush4 p s b := by
      unfold do4
      rw [if_neg hlt, Nat.add_sub_cancel_left]
    rw [Nat.add_sub_cancel_left] at hc
    cases hr : row4 s b with
    | nil => rw [hr] at hc; simp at hc
    | cons e es =>
      obtain ⟨el, ev⟩ := e
      rw [hf]
      exact l4DoF_c w a cap p q s split b el ev es hp h hv hg (by omega) hr

set_option maxRecDepth 100000 in
set_option maxHeartbeats 1600000 in
theorem l4Done_c (w : World) (a : Option Addr) (cap : Nat) (p : Prg) (q : Sp) (s : St) (split : Bool) (hp : RdP w a p) (h : RdS w q s) (hv : Shape p) (hg : Good4 p split s) :
    Calls Try.prog 33 #[.slice a p.length cap, q.v s] w fun e w' => e = .returned (.bool (done4 p s)) ∧ Below w.heap.size w w' := by
  have HDN := hid (fun w (hp : RdP w a p) (h : RdS w q s) => l3Done_c w a cap p q s hp h hv hg.toGood)
  obtain ⟨a0, c0, a1, c1, a2, c2, a3, c3⟩ := q
  have hbl := hg.blen hv
  have HROW := hid (fun b r (hr : s.buf[b]? = some r) => hg.rlen hv hr)
  obtain ⟨m, hm⟩ : ∃ m, m = s.buf.length := ⟨_, rfl⟩
  have HM := hid hm
  obtain ⟨n, hn⟩ : ∃ n, n = p.length := ⟨_, rfl⟩
  have HNO := hid (fun (b : Nat) (r : List (Int × Int)) (hr : s.buf[b]? = some r) (h : r.isEmpty = false) => show done4 p s = false from by
    unfold done4
    rw [show (s.buf.all fun x => x.isEmpty) = false from List.all_eq_false.2 ⟨r, List.mem_of_getElem? hr, by simp [h]⟩, Bool.false_and])
  have HYES := hid (fun (h : ∀ (b : Nat) (r : List (Int × Int)), s.buf[b]? = some r → r.isEmpty = true) => show done4 p s = done3 p s from by
    unfold done4
    rw [show (s.buf.all fun x => x.isEmpty) = true from List.all_eq_true.2 fun r hr => by
      obtain ⟨i, hi⟩ := List.mem_iff_getElem?.1 hr
      exact h i r hi, Bool.true_and])
  have HP := hid hp
  have HS := hid h
  unfold Sp.v at HDN ⊢
  dsimp only at HDN ⊢
  rw [← hm] at hbl HDN ⊢
  rw [← hn] at HDN ⊢
  clear hm hn hp h hg hv
  go_enter Try.func33, Try.ntmps33
  go_wp2_with fail
  obtain ⟨w1, hw1⟩ : ∃ w1, w1 = w.alloc (.cells #[.slice a0 s.pc.length c0, .slice a1 s.regs.length c1, .slice a2 s.mem.length c2, .slice a3 m c3] 53) := ⟨_, rfl⟩
  rw [← hw1]
  have hb1 : Below w.heap.size w w1 := by rw [hw1]; exact (Below.refl _ _).alloc (Nat.le_refl _) _
  have hg1 : w1.heap[w.heap.size]? = some (.cells #[.slice a0 s.pc.length c0, .slice a1 s.regs.length c1, .slice a2 s.mem.length c2, .slice a3 m c3] 53 (0, 0)) := by rw [hw1]; exact heap_alloc_new w _
  have x0 : (w1.cell? ⟨w.heap.size, 0, none⟩ = some (.slice a0 s.pc.length c0) ∧ w1.cell? ⟨w.heap.size, 1, none⟩ = some (.slice a1 s.regs.length c1) ∧ w1.cell? ⟨w.heap.size, 2, none⟩ = some (.slice a2 s.mem.length c2) ∧ w1.cell? ⟨w.heap.size, 3, none⟩ = some (.slice a3 m c3)) := by
    have e := fun (i : Nat) => cell_of_row w1 w.heap.size i _ _ _ hg1
    exact ⟨e 0, e 1, e 2, e 3⟩
  have HB1 := hid hb1
  have HD1 := hid (HDN.out w1 (HP.out.below hb1) (HS.out.below hb1))
  clear hb1 hw1 hg1
  go_loop [5] (fun i => ∃ k : Nat, k ≤ m ∧ i = .int .i64 k ∧ Hid (∀ (b : Nat) (r : List (Int × Int)), b < k → s.buf[b]? = some r → r.isEmpty = true)) (fun i => m - (intOf i).toNat)
  case atStart => exact ⟨0, Nat.zero_le _, rfl, hid (fun b r hb => by omega)⟩
  case round =>
    obtain ⟨k, hk, rfl, HK⟩ := hrel
    by_cases hlt : k < m
    · obtain ⟨g, off, r, c, hq, hgl, hcell, _, _⟩ := HS.out.bufAt (b := k) (by rw [← HM.out]; exact hlt)
      have hq : a3 = some ⟨g, off, none⟩ := hq
      subst hq
      have hcw := (HB1.out.cell (p := ⟨g, off + k, none⟩) hgl).trans hcell
      have HRW := hid (row4_get (s := s) (b := k) (by rw [← HM.out]; exact hlt))
      have hr7 := HROW.out k _ HRW.out
      obtain ⟨l, hl⟩ : ∃ l, l = (row4 s k).length := ⟨_, rfl⟩
      rw [← hl] at hcw hr7
      have HL := hid hl
      clear hcell hl hgl
      by_cases hl0 : l = 0
      · have hl1 : ¬ ((0 : Int) < (l : Int) * 2) := by omega
        have HK2 := hid (show ∀ (b : Nat) (r : List (Int × Int)), b < k + 1 → s.buf[b]? = some r → r.isEmpty = true from fun b r hb hr => by
          by_cases e : b = k
          · subst e
            rw [HRW.out] at hr
            cases hr
            rw [List.isEmpty_iff]
            exact List.eq_nil_of_length_eq_zero (by rw [← HL.out]; exact hl0)
          · exact HK.out b r (by omega) hr)
        subst hl0
        go_wp2_with fail
        go_round
        case rel => exact ⟨k + 1, by omega, by go_num, HK2⟩
        case measure => simp [intOf]; omega
      · have hl1 : (0 : Int) < (l : Int) * 2 := by omega
        have HF := hid (HNO.out k _ HRW.out (by
          cases hrr : row4 s k with
          | nil => rw [hrr] at HL; have := HL.out; simp at this; omega
          | cons _ _ => rfl))
        go_wp2
        go_ret
        exact ⟨ret_bool HF.out.symm, HB1.out⟩
    · have HF := hid (HYES.out fun b r hr => HK.out b r (by have := (List.getElem?_eq_some_iff.1 hr).1; have := HM.out; omega) hr)
      go_wp2_with fail
      refine HD1.out.mono ?_
      rintro e w2 ⟨rfl, hb2⟩
      have HB2 := hid (HB1.out.trans (hb2.mono HB1.out.size))
      clear hb2
      go_wp2
      go_ret
      exact ⟨ret_bool HF.out.symm, HB2.out⟩

set_option maxRecDepth 100000 in
set_option maxHeartbeats 1600000 in
theorem l4Start_c (w : World) (a : Option Addr) (cap : Nat) (p : Prg) (split : Bool) (hl : p.length ≤ 3) :
    Calls Try.prog 50 #[.slice a p.length cap, .bool split] w fun e w' => ∃ q : Sp, e = .returned (q.v (start4 p split)) ∧ Fresh w' w.heap.size q (start4 p split) ∧ Below w.heap.size w w' := by
  have hnb := nb_le split
  have hm9 : p.length * nb split ≤ 9 := Nat.le_trans (Nat.mul_le_mul hl hnb) (by decide)
  have HST := hid (fun w => l3Start_c w a cap p (p.length * nb split) (by omega) (by omega))
  have HNB := hid (fun w => l4Buffers_c w split)
  unfold start4
  obtain ⟨s, hs⟩ : ∃ s, s = start3 p (p.length * nb split) := ⟨_, rfl⟩
  rw [← hs] at HST ⊢
  obtain ⟨N, hN⟩ : ∃ N, N = p.length * nb split := ⟨_, rfl⟩
  have hmul : ((p.length : Nat) : Int) * ((nb split : Nat) : Int) = (N : Int) := by rw [hN]; exact (Int.natCast_mul _ _).symm
  rw [← hN] at HST hm9
  obtain ⟨n, hn⟩ : ∃ n, n = p.length := ⟨_, rfl⟩
  obtain ⟨b, hb⟩ : ∃ b, b = nb split := ⟨_, rfl⟩
  rw [← hn, ← hb] at hmul
  rw [← hn] at HST hl ⊢
  rw [← hb] at HNB hnb
  clear hs hN hn hb
  go_enter Try.func50, Try.ntmps50
  go_wp2_with fail
  refine (HNB.out _).mono ?_
  rintro e w1 ⟨rfl, rfl⟩
  have hmn : (n : Int) * (b : Int) ≤ 9 := by rw [hmul]; omega
  have hm0 : 0 ≤ (n : Int) * (b : Int) := by rw [hmul]; omega
  go_wp2_with fail
  try rw [hmul]
  refine (HST.out _).mono ?_
  rintro e w2 ⟨⟨f0, m0, f1, m1, f2, m2, f3, m3⟩, rfl, hf, hb2⟩
  have hres : w2.heap[w.heap.size]? = some (.cells zSt 53 (0, 0)) := (hb2.block _ (by simp)).trans (heap_alloc_new w _)
  have HRE := hid hres
  have HF := hid hf
  have HB2 := hid hb2
  have hs2 := hb2.size
  have hs1 : w.heap.size < w2.heap.size := by simp at hs2; omega
  unfold Sp.v
  dsimp only
  clear hf hb2 hres
  go_wp2_with (first | (refine wpList_store_row rfl 53 (.tmp 4) (.tmp 11) rfl w.heap.size _ rfl rfl 53 zSt HRE.out (by kernel_rfl) rfl (DoI.one ⟨f0, m0, f1, m1, f2, m2, f3, m3⟩ s) ?_))
  refine bodyPost_ret (results_cell_row rfl _ _ w.heap.size 53 _ (0, 0) _ rfl (setRow_heap _ _ _ _ _ _ HRE.out) Try.underlying53 rfl (by kernel_rfl)) rfl ⟨⟨f0, m0, f1, m1, f2, m2, f3, m3⟩, rfl, ?_, ?_⟩
  · refine (HF.out.keeps (keeps_setRow _ _ _) (fun x hx e => ?_)).down (by simp)
    simp at hx
    omega
  · refine Proofs.Ytloghcfkjcbjlaa.Below.keeps (((Below.refl w.heap.size w).alloc (Nat.le_refl _) _).trans (HB2.out.mono (by simp))) (keeps_setRow w2 w.heap.size _) (by omega) (fun x e => by omega)
end Go.Proofs.Ytloghcfkjcbjlaa
namespace Go.Proofs.Ytloghcfkjcbjlaa
open Go.RowKit
set_option linter.unusedVariables false
set_option linter.unusedSimpArgs false

theorem results_cell_tmp {P : Program} {fn : Func} {p : Tmp} {ty : TypeId} {u : Tmp} (h : fn.results = #[.cell p ty, .tmp u]) (tmps : Array Value) (w : World) (g : Nat) (t : TypeId) (cs : Array Value) (fr : Nat × Nat) (d : TypeDesc)
    (hp : tmps.getD p undef = .pointer (some ⟨g, 0, none⟩)) (hg : w.heap[g]? = some (.cells cs t fr))
    (hu : P.underlying ty = some d) (hd : (match d with | .struct _ | .array _ _ => true | _ => false) = true) (hi : (P.info? ty).map (·.size) = some cs.size) :
    (results fn tmps).run P w = .ok (.tuple #[.agg cs, tmps.getD u undef]) w := by
  have hp' : tmps[p]?.getD undef = .pointer (some ⟨g, 0, none⟩) := by simpa using hp
  simp [results, h, hp', asAddr, run_loadVar_row w g t ty cs fr d hg hu hd hi]
/-- What l4After gives: the state in which the moves end, or some state and false. -/
def AftS (w : World) (p : Prg) (split : Bool) (ms : List Int) (e : Ending) (w' : World) : Prop :=
  ∃ (q : Sp) (s : St), e = .returned (.tuple #[q.v s, .bool (mRun p split ms).isSome]) ∧ Fresh w' w.heap.size q s ∧ Good4 p split s ∧ Below w.heap.size w w' ∧ ∀ s', mRun p split ms = some s' → s' = s

set_option maxRecDepth 100000 in
set_option maxHeartbeats 3200000 in
theorem l4After_c (w : World) (a : Option Addr) (cap : Nat) (p : Prg) (split : Bool) (a' : Option Addr) (cap' : Nat) (ms : List Int) (h : RdP w a p) (h' : Rd w a' (ints ms)) (hv : Shape p) (hl' : ms.length ≤ 1048576) :
    Calls Try.prog 32 #[.slice a p.length cap, .bool split, .slice a' ms.length cap'] w (AftS w p split ms) := by
  have HSTART := hid (fun w => l4Start_c w a cap p split hv.len)
  have HCAN := hid (fun w q s m (hp : RdP w a p) (h : RdS w q s) (hg : Good4 p split s) => l4Can_c w a cap p q s split m hp h hv hg)
  have HDO := hid (fun w q s m (hp : RdP w a p) (h : RdS w q s) (hg : Good4 p split s) hm hc => l4Do_c w a cap p q s split m hp h hv hg hm hc)
  have HRP := hid h
  have HRM := hid h'
  have HSH := hid hv
  obtain ⟨n, hn⟩ : ∃ n, n = p.length := ⟨_, rfl⟩
  obtain ⟨l, hll⟩ : ∃ l, l = ms.length := ⟨_, rfl⟩
  have HN := hid (And.intro hn hll)
  rw [← hn] at HSTART HCAN HDO ⊢
  rw [← hll] at hl' ⊢
  clear hv h h' hn hll
  unfold Sp.v at HDO HCAN HSTART
  go_enter Try.func32, Try.ntmps32
  go_wp2_with fail
  refine (HSTART.out _).mono ?_
  rintro e w2 ⟨q, rfl, hrd, hb2⟩
  go_wp2_with fail
  obtain ⟨w1, hw1⟩ : ∃ w1, w1 = w.alloc (.cells zSt 53) := ⟨_, rfl⟩
  have hres0 : w1.heap[w.heap.size]? = some (.cells zSt 53 (0, 0)) := by rw [hw1]; exact heap_alloc_new w _
  have hs1 : w1.heap.size = w.heap.size + 1 := by rw [hw1]; simp
  have hb1 : Below w.heap.size w w1 := by rw [hw1]; exact (Below.refl _ _).alloc (Nat.le_refl _) _
  have hb2 : Below w1.heap.size w1 w2 := by rw [hw1]; exact hb2
  have hrd : Fresh w2 w1.heap.size q (start4 p split) := by rw [hw1]; exact hrd
  have hs2 := hb2.size
  obtain ⟨w3, hw3⟩ : ∃ w3, w3 = w2.alloc (.cells (q.cs (start4 p split)) 53) := ⟨_, rfl⟩
  have hst : w3.heap[w2.heap.size]? = some (.cells (q.cs (start4 p split)) 53 (0, 0)) := by rw [hw3]; exact heap_alloc_new w2 _
  have hba : Below w2.heap.size w2 w3 := by rw [hw3]; exact (Below.refl _ _).alloc (Nat.le_refl _) _
  have hb3 : Below w.heap.size w w3 := (hb1.trans (hb2.mono (by omega))).trans (hba.mono (by omega))
  have hr3 : Fresh w3 (w.heap.size + 1) q (start4 p split) := ((hrd.keeps (S := fun _ => False) (Keeps.of_below hba) (fun _ _ e => e)).down (by omega))
  have hres3 : w3.heap[w.heap.size]? = some (.cells zSt 53 (0, 0)) := (hba.block _ (by omega)).trans ((hb2.block _ (by omega)).trans hres0)
  have hs3 : w3.heap.size = w2.heap.size + 1 := by rw [hw3]; simp
  have HREL0 := hid (show ∃ (q0 : Sp) (s0 : St), follow (fun s => moves4 p s split) (fun s m => do4 p s split m.toNat) (start4 p split) (ms.take 0) = some s0 ∧ w3.heap[w2.heap.size]? = some (.cells (q0.cs s0) 53 (0, 0)) ∧ Fresh w3 (w.heap.size + 1) q0 s0 ∧ Good4 p split s0 from ⟨q, start4 p split, by simp [Proofs.Ytloghcfkjcbjlaa.follow], hst, hr3, good_start4 p split⟩)
  have HB3 := hid hb3
  have HRE3 := hid hres3
  unfold Sp.cs at hw3
  rw [← hw3]
  clear hst hrd hb2 hb3 hr3 hw3 hba hres3 hres0 hb1 hw1
  go_loopw [9] (fun i wr => ∃ k : Nat, k ≤ l ∧ i = .int .i64 k ∧ Hid (∃ (q0 : Sp) (s0 : St), follow (fun s => moves4 p s split) (fun s m => do4 p s split m.toNat) (start4 p split) (ms.take k) = some s0 ∧ wr.heap[w2.heap.size]? = some (.cells (q0.cs s0) 53 (0, 0)) ∧ Fresh wr (w.heap.size + 1) q0 s0 ∧ Good4 p split s0) ∧ Hid (Below w.heap.size w wr) ∧ Hid (wr.heap[w.heap.size]? = some (.cells zSt 53 (0, 0)))) (fun i _ => l - (intOf i).toNat)
  case atStart => exact ⟨0, Nat.zero_le _, rfl, HREL0, HB3, HRE3⟩
  case round =>
    obtain ⟨k, hk, rfl, HR, HB, HRE⟩ := hrel
    obtain ⟨⟨e0, f0, e1, f1, e2, f2, e3, f3⟩, s, hfo, hgr, hrd, hgood⟩ := HR.out
    dsimp only [Sp.cs] at hgr
    have hg6 : w2.heap.size < wr.heap.size := (Array.getElem?_eq_some_iff.1 hgr).1
    have HFO := hid hfo
    have HGR := hid hgr
    have HFR := hid hrd
    have HRD := hid hrd.rd
    have HGD := hid hgood
    clear HR hfo hgr hrd hgood
    by_cases hlt : k < l
    · have hkm : k < ms.length := by rw [← HN.out.2]; exact hlt
      obtain ⟨b, off, hab, hbl, hc⟩ := HRM.out.int k hkm
      subst hab
      obtain ⟨m, hm⟩ : ∃ m, m = ms[k] := ⟨_, rfl⟩
      rw [← hm] at hc
      have HX := hid (show ms[k]? = some m by rw [hm]; exact List.getElem?_eq_getElem hkm)
      have HCM := hid ((HB.out.cell (p := ⟨b, off + k, none⟩) hbl).trans hc)
      have HCN := hid (HCAN.out wr.drew ⟨e0, f0, e1, f1, e2, f2, e3, f3⟩ s m (HRP.out.below (below_drewN 1 HB.out)) (HRD.out.below (below_drewN 1 (Below.refl _ _))) HGD.out)
      have hbs := HB.out.size
      clear hc hm hkm
      by_cases hmem : m ∈ moves4 p s split
      · rw [decide_eq_true hmem] at HCN
        obtain ⟨t, rfl, ht1, ht2⟩ := (mem_moves4 m).1 hmem
        have HT := hid (And.intro hmem (And.intro ht1 ht2))
        clear hmem ht1 ht2
        obtain ⟨J, hJ⟩ : ∃ J : World → Prop, J = fun w' => Below wr.heap.size wr w' := ⟨_, rfl⟩
        have HJ := hid (fun w' (h : Below wr.heap.size wr w') => show J w' by rw [hJ]; exact h)
        have HC := hid (fun w' (h : J w') => show (w'.cell? ⟨w2.heap.size, 0, none⟩ = some (.slice e0 s.pc.length f0) ∧ w'.cell? ⟨w2.heap.size, 1, none⟩ = some (.slice e1 s.regs.length f1) ∧ w'.cell? ⟨w2.heap.size, 2, none⟩ = some (.slice e2 s.mem.length f2) ∧ w'.cell? ⟨w2.heap.size, 3, none⟩ = some (.slice e3 s.buf.length f3)) ∧ w'.cell? ⟨b, off + k, none⟩ = some (.int .i64 (t : Int)) from by
          rw [hJ] at h
          have e := fun (i : Nat) => cell_of_row w' w2.heap.size i _ _ _ ((h.block _ (by omega)).trans HGR.out)
          exact ⟨⟨e 0, e 1, e 2, e 3⟩, (h.cell (p := ⟨b, off + k, none⟩) (by show b < _; omega)).trans HCM.out⟩)
        have hJ0 : J wr.drew := HJ.out _ (below_drewN 1 (Below.refl _ _))
        clear hJ
        go_wp2_with fail
        refine MJ.wp_region_mix (J := J) (by kernel_rfl) (by kernel_rfl) ?_
        repeat (first | (refine MJ.wpMix_pure rfl rfl (fun K hK => ?_); go_simp; (first | refine hK _ ?_ | refine ⟨_, fun W hW => rfl, hK _ ?_⟩ | refine ⟨_, fun W hW => ⟨rfl, rfl⟩, hK _ ?_⟩); clear hK K) | (refine MJ.wpMix_held rfl rfl (by assumption) (fun K hK => ?_); go_simp; apply Exists.intro; refine And.intro (fun W hW => ?_) (hK _ ?_); (focus (have hcs := HC.out W hW; go_simp; try rfl)); clear hK K))
        (with_reducible refine MJ.wpMix_make rfl rfl (fun K hK => ?_); go_simp)
        refine HCN.out.mono ?_
        rintro e w4 ⟨rfl, hb4⟩
        have hb4' : Below wr.heap.size wr w4 := (below_drewN 1 (Below.refl wr.heap.size wr)).trans hb4
        have hJ4 : J w4 := HJ.out _ hb4'
        have HB4 := hid (HB.out.trans (hb4'.mono hbs))
        have HG4 := hid ((hb4'.block _ hg6).trans HGR.out)
        have HR4 := hid (HRD.out.below hb4')
        have HF4 := hid (HFR.out.keeps (S := fun _ => False) (Keeps.of_below hb4') (fun _ _ e => e))
        have HRE4 := hid ((hb4'.block _ (by omega)).trans HRE.out)
        have HCM4 := hid ((hb4'.cell (p := ⟨b, off + k, none⟩) (by show b < _; omega)).trans HCM.out)
        have hs4 := hb4'.size
        refine hK _ _ hJ4 ?_
        clear hK K hb4 hb4'
        repeat (first | (refine MJ.wpMix_pure rfl rfl (fun K hK => ?_); go_simp; (first | refine hK _ ?_ | refine ⟨_, fun W hW => rfl, hK _ ?_⟩ | refine ⟨_, fun W hW => ⟨rfl, rfl⟩, hK _ ?_⟩); clear hK K) | (refine MJ.wpMix_held rfl rfl (by assumption) (fun K hK => ?_); go_simp; apply Exists.intro; refine And.intro (fun W hW => ?_) (hK _ ?_); (focus (have hcs := HC.out W hW; go_simp; try rfl)); clear hK K))
        refine MJ.wpMix_nil ?_
        clear HJ HC hJ0 hJ4
        clear J
        go_wp2_with fail
        have HD := hid (HDO.out w4.drew ⟨e0, f0, e1, f1, e2, f2, e3, f3⟩ s t (HRP.out.below (below_drewN 1 HB4.out)) (HR4.out.below (below_drewN 1 (Below.refl _ _))) HGD.out (by rw [HN.out.1]; exact HT.out.2.1) HT.out.2.2)
        obtain ⟨J, hJ⟩ : ∃ J : World → Prop, J = fun w' => Below w4.heap.size w4 w' := ⟨_, rfl⟩
        have HJ := hid (fun w' (h : Below w4.heap.size w4 w') => show J w' by rw [hJ]; exact h)
        have HC := hid (fun w' (h : J w') => show (w'.cell? ⟨w2.heap.size, 0, none⟩ = some (.slice e0 s.pc.length f0) ∧ w'.cell? ⟨w2.heap.size, 1, none⟩ = some (.slice e1 s.regs.length f1) ∧ w'.cell? ⟨w2.heap.size, 2, none⟩ = some (.slice e2 s.mem.length f2) ∧ w'.cell? ⟨w2.heap.size, 3, none⟩ = some (.slice e3 s.buf.length f3)) ∧ w'.cell? ⟨b, off + k, none⟩ = some (.int .i64 (t : Int)) from by
          rw [hJ] at h
          have e := fun (i : Nat) => cell_of_row w' w2.heap.size i _ _ _ ((h.block _ (by omega)).trans HG4.out)
          exact ⟨⟨e 0, e 1, e 2, e 3⟩, (h.cell (p := ⟨b, off + k, none⟩) (by show b < _; omega)).trans HCM4.out⟩)
        have hJ0 : J w4.drew := HJ.out _ (below_drewN 1 (Below.refl _ _))
        clear hJ
        refine MJ.wp_region_mix (J := J) (by kernel_rfl) (by kernel_rfl) ?_
        repeat (first | (refine MJ.wpMix_pure rfl rfl (fun K hK => ?_); go_simp; (first | refine hK _ ?_ | refine ⟨_, fun W hW => rfl, hK _ ?_⟩ | refine ⟨_, fun W hW => ⟨rfl, rfl⟩, hK _ ?_⟩); clear hK K) | (refine MJ.wpMix_held rfl rfl (by assumption) (fun K hK => ?_); go_simp; apply Exists.intro; refine And.intro (fun W hW => ?_) (hK _ ?_); (focus (have hcs := HC.out W hW; go_simp; try rfl)); clear hK K))
        (with_reducible refine MJ.wpMix_make rfl rfl (fun K hK => ?_); go_simp)
        refine HD.out.mono ?_
        rintro e w5 ⟨q', rfl, hfr, hb5⟩
        have hb5' : Below w4.heap.size w4 w5 := (below_drewN 1 (Below.refl w4.heap.size w4)).trans hb5
        have HG5 := hid ((hb5'.block _ (by omega)).trans HG4.out)
        have HB5 := hid (HB4.out.trans (hb5'.mono (by omega)))
        have HRE5 := hid ((hb5'.block _ (by omega)).trans HRE4.out)
        have HF5 := hid hfr
        have hs5 := hb5'.size
        refine hK _ _ (HJ.out _ hb5') ?_
        clear hK K hb5 hb5' hfr
        refine MJ.wpMix_act rfl rfl rfl (fun K hK => ?_)
        refine wp_store_row 53 _ _ rfl w2.heap.size (q'.cs (do4 p s split t)) rfl rfl _ _ HG5.out (by kernel_rfl) rfl (DoI.one _ _) ?_
        refine hK _ _ ?_
        clear hK K
        refine MJ.wpMix_nil ?_
        have HR6 := hid (show ∃ (q0 : Sp) (s0 : St), follow (fun s => moves4 p s split) (fun s m => do4 p s split m.toNat) (start4 p split) (ms.take (k + 1)) = some s0 ∧ (w5.setRow w2.heap.size (q'.cs (do4 p s split t))).heap[w2.heap.size]? = some (.cells (q0.cs s0) 53 (0, 0)) ∧ Fresh (w5.setRow w2.heap.size (q'.cs (do4 p s split t))) (w.heap.size + 1) q0 s0 ∧ Good4 p split s0 from by
          refine ⟨q', do4 p s split t, by have := follow_step HFO.out HX.out HT.out.1; simpa using this, setRow_heap _ _ _ _ _ _ HG5.out, (HF5.out.keeps (keeps_setRow w5 w2.heap.size _) (fun x hx e => ?_)).down (by show _ ≤ w4.heap.size; omega), HGD.out.do4 HSH.out HT.out.2.1 HT.out.2.2⟩
          have hx : w4.heap.size ≤ x := hx
          omega)
        have HB6 := hid (show Below w.heap.size w (w5.setRow w2.heap.size (q'.cs (do4 p s split t))) from Proofs.Ytloghcfkjcbjlaa.Below.keeps HB5.out (keeps_setRow w5 w2.heap.size _) HB5.out.size (fun x e => by omega))
        have HRE6 := hid (show (w5.setRow w2.heap.size (q'.cs (do4 p s split t))).heap[w.heap.size]? = some (.cells zSt 53 (0, 0)) from ((keeps_setRow w5 w2.heap.size _).block _ (by omega) (by omega)).trans HRE5.out)
        obtain ⟨w6, hw6⟩ : ∃ w6, w6 = w5.setRow w2.heap.size (q'.cs (do4 p s split t)) := ⟨_, rfl⟩
        rw [← hw6] at HR6 HB6 HRE6 ⊢
        clear hw6 HJ HC hJ0 HG5 HB5 HRE5 HF5
        go_wp2_with fail
        go_roundw
        case rel => exact ⟨k + 1, by omega, by go_num, HR6, HB6, HRE6⟩
        case measure => simp [intOf]; omega
      · rw [decide_eq_false hmem] at HCN
        have HSTOP := hid (show mRun p split ms = none from follow_stop HFO.out HX.out hmem)
        clear hmem
        obtain ⟨J, hJ⟩ : ∃ J : World → Prop, J = fun w' => Below wr.heap.size wr w' := ⟨_, rfl⟩
        have HJ := hid (fun w' (h : Below wr.heap.size wr w') => show J w' by rw [hJ]; exact h)
        have HC := hid (fun w' (h : J w') => show (w'.cell? ⟨w2.heap.size, 0, none⟩ = some (.slice e0 s.pc.length f0) ∧ w'.cell? ⟨w2.heap.size, 1, none⟩ = some (.slice e1 s.regs.length f1) ∧ w'.cell? ⟨w2.heap.size, 2, none⟩ = some (.slice e2 s.mem.length f2) ∧ w'.cell? ⟨w2.heap.size, 3, none⟩ = some (.slice e3 s.buf.length f3)) ∧ w'.cell? ⟨b, off + k, none⟩ = some (.int .i64 m) from by
          rw [hJ] at h
          have e := fun (i : Nat) => cell_of_row w' w2.heap.size i _ _ _ ((h.block _ (by omega)).trans HGR.out)
          exact ⟨⟨e 0, e 1, e 2, e 3⟩, (h.cell (p := ⟨b, off + k, none⟩) (by show b < _; omega)).trans HCM.out⟩)
        have hJ0 : J wr.drew := HJ.out _ (below_drewN 1 (Below.refl _ _))
        clear hJ
        go_wp2_with fail
        refine MJ.wp_region_mix (J := J) (by kernel_rfl) (by kernel_rfl) ?_
        repeat (first | (refine MJ.wpMix_pure rfl rfl (fun K hK => ?_); go_simp; (first | refine hK _ ?_ | refine ⟨_, fun W hW => rfl, hK _ ?_⟩ | refine ⟨_, fun W hW => ⟨rfl, rfl⟩, hK _ ?_⟩); clear hK K) | (refine MJ.wpMix_held rfl rfl (by assumption) (fun K hK => ?_); go_simp; apply Exists.intro; refine And.intro (fun W hW => ?_) (hK _ ?_); (focus (have hcs := HC.out W hW; go_simp; try rfl)); clear hK K))
        (with_reducible refine MJ.wpMix_make rfl rfl (fun K hK => ?_); go_simp)
        refine HCN.out.mono ?_
        rintro e w4 ⟨rfl, hb4⟩
        have hb4' : Below wr.heap.size wr w4 := (below_drewN 1 (Below.refl wr.heap.size wr)).trans hb4
        have hJ4 : J w4 := HJ.out _ hb4'
        have HB4 := hid (HB.out.trans (hb4'.mono hbs))
        have HG4 := hid ((hb4'.block _ hg6).trans HGR.out)
        have HR4 := hid (HRD.out.below hb4')
        have HF4 := hid (HFR.out.keeps (S := fun _ => False) (Keeps.of_below hb4') (fun _ _ e => e))
        have HRE4 := hid ((hb4'.block _ (by omega)).trans HRE.out)
        have HCM4 := hid ((hb4'.cell (p := ⟨b, off + k, none⟩) (by show b < _; omega)).trans HCM.out)
        have hs4 := hb4'.size
        refine hK _ _ hJ4 ?_
        clear hK K hb4 hb4'
        repeat (first | (refine MJ.wpMix_pure rfl rfl (fun K hK => ?_); go_simp; (first | refine hK _ ?_ | refine ⟨_, fun W hW => rfl, hK _ ?_⟩ | refine ⟨_, fun W hW => ⟨rfl, rfl⟩, hK _ ?_⟩); clear hK K) | (refine MJ.wpMix_held rfl rfl (by assumption) (fun K hK => ?_); go_simp; apply Exists.intro; refine And.intro (fun W hW => ?_) (hK _ ?_); (focus (have hcs := HC.out W hW; go_simp; try rfl)); clear hK K))
        refine MJ.wpMix_nil ?_
        clear HJ HC hJ0 hJ4
        go_wp2_with (first | (refine wpList_load_row rfl 53 (.tmp 8) rfl w2.heap.size rfl 53 _ (0, 0) _ HG4.out Try.underlying53 rfl (by kernel_rfl) ?_) | (refine wpList_store_row rfl 53 (.tmp 6) (.tmp 28) rfl w.heap.size _ rfl rfl 53 zSt HRE4.out (by kernel_rfl) rfl (DoI.one ⟨e0, f0, e1, f1, e2, f2, e3, f3⟩ s) ?_))
        refine bodyPost_ret (results_cell_tmp rfl _ _ w.heap.size 53 _ (0, 0) _ rfl (setRow_heap _ _ _ _ _ _ HRE4.out) Try.underlying53 rfl (by kernel_rfl)) rfl ⟨⟨e0, f0, e1, f1, e2, f2, e3, f3⟩, s, by rw [HSTOP.out]; rfl, ?_, HGD.out, ?_, fun s' e => by rw [HSTOP.out] at e; cases e⟩
        · exact (HF4.out.keeps (keeps_setRow w4 w.heap.size _) (fun x hx e => by omega)).down (Nat.le_succ _)
        · exact Proofs.Ytloghcfkjcbjlaa.Below.keeps HB4.out (keeps_setRow w4 w.heap.size _) HB4.out.size (fun x e => by omega)
    · have HALL := hid (show mRun p split ms = some s from follow_all HFO.out (show ms.length ≤ k by have := HN.out.2; omega))
      go_wp2_with (first | (refine wpList_load_row rfl 53 (.tmp 8) rfl w2.heap.size rfl 53 _ (0, 0) _ HGR.out Try.underlying53 rfl (by kernel_rfl) ?_) | (refine wpList_store_row rfl 53 (.tmp 6) (.tmp 37) rfl w.heap.size _ rfl rfl 53 zSt HRE.out (by kernel_rfl) rfl (DoI.one ⟨e0, f0, e1, f1, e2, f2, e3, f3⟩ s) ?_))
      refine bodyPost_ret (results_cell_tmp rfl _ _ w.heap.size 53 _ (0, 0) _ rfl (setRow_heap _ _ _ _ _ _ HRE.out) Try.underlying53 rfl (by kernel_rfl)) rfl ⟨⟨e0, f0, e1, f1, e2, f2, e3, f3⟩, s, by rw [HALL.out]; rfl, ?_, HGD.out, ?_, fun s' e => by rw [HALL.out] at e; cases e; rfl⟩
      · exact (HFR.out.keeps (keeps_setRow wr w.heap.size _) (fun x hx e => by omega)).down (Nat.le_succ _)
      · exact Proofs.Ytloghcfkjcbjlaa.Below.keeps HB.out (keeps_setRow wr w.heap.size _) HB.out.size (fun x e => by omega)

end Go.Proofs.Ytloghcfkjcbjlaa
namespace Go.Proofs.Ytloghcfkjcbjlaa
open Go.RowKit
set_option linter.unusedVariables false
set_option linter.unusedSimpArgs false

set_option maxRecDepth 100000 in
set_option maxHeartbeats 3200000 in
theorem rmS_c (w : World) (a : Option Addr) (cap : Nat) (p : Prg) (split : Bool) (a' : Option Addr) (cap' : Nat) (ms : List Int) (h : RdP w a p) (h' : Rd w a' (ints ms)) (hl : sizeP p ≤ 1048576) (hl' : ms.length ≤ 1048576) :
    Calls Try.prog 10 #[.slice a p.length cap, .bool split, .slice a' ms.length cap'] w (RetLB w (runMov p split ms)) := by
  have HV := hid (pvS_c w a cap p h hl)
  by_cases hv : progValid p = true
  · rw [hv] at HV
    have hsh := (valid_of hv).toShape
    have HRES := hid (show runMov p split ms = runRes (done4 p) out3 (mRun p split ms) by unfold runMov; rw [if_pos hv])
    have HAFT := hid (fun w (hp : RdP w a p) h' => l4After_c w a cap p split a' cap' ms hp h' hsh hl')
    have HDN := hid (fun w q s (hp : RdP w a p) (h : RdS w q s) (hg : Good4 p split s) => l4Done_c w a cap p q s split hp h hsh hg)
    have HOUT := hid (fun w q s (h : RdS w q s) (hg : Good4 p split s) => l3Outcome_c w q s h (by have := (good_small hg.toGood hsh).2.1; omega) (by have := (good_small hg.toGood hsh).2.2; omega))
    have HRP := hid h
    have HRM := hid h'
    obtain ⟨n, hn⟩ : ∃ n, n = p.length := ⟨_, rfl⟩
    obtain ⟨l, hll⟩ : ∃ l, l = ms.length := ⟨_, rfl⟩
    rw [HRES.out]
    rw [← hn] at HV HAFT HDN ⊢
    rw [← hll] at HAFT ⊢
    clear hv hsh h h' hl hl' hn hll HRES
    unfold Sp.v at HDN HOUT
    go_enter Try.func10, Try.ntmps10
    go_wp2_with fail
    refine HV.out.mono ?_
    rintro e w1 ⟨rfl, hb1⟩
    have HB1 := hid hb1
    clear hb1
    go_wp2_with fail
    refine (HAFT.out _ (HRP.out.below HB1.out) (HRM.out.below HB1.out)).mono ?_
    rintro e w2 ⟨⟨e0, f0, e1, f1, e2, f2, e3, f3⟩, s, rfl, hfr, hgd, hb2, hsome⟩
    have hrd := hfr.rd
    clear hfr
    have HRD := hid hrd
    have HGD := hid hgd
    have HB2 := hid (HB1.out.trans (hb2.mono HB1.out.size))
    unfold Sp.v
    dsimp only
    have hst : (w2.alloc (.cells #[.slice e0 s.pc.length f0, .slice e1 s.regs.length f1, .slice e2 s.mem.length f2, .slice e3 s.buf.length f3] 53)).heap[w2.heap.size]? = some (.cells #[.slice e0 s.pc.length f0, .slice e1 s.regs.length f1, .slice e2 s.mem.length f2, .slice e3 s.buf.length f3] 53 (0, 0)) := heap_alloc_new w2 _
    have hba := (Below.refl w2.heap.size w2).alloc (Nat.le_refl _) (.cells #[.slice e0 s.pc.length f0, .slice e1 s.regs.length f1, .slice e2 s.mem.length f2, .slice e3 s.buf.length f3] 53)
    obtain ⟨w3, hw3⟩ : ∃ w3, w3 = w2.alloc (.cells #[.slice e0 s.pc.length f0, .slice e1 s.regs.length f1, .slice e2 s.mem.length f2, .slice e3 s.buf.length f3] 53) := ⟨_, rfl⟩
    rw [← hw3] at hst hba
    have x3 : (w3.cell? ⟨w2.heap.size, 0, none⟩ = some (.slice e0 s.pc.length f0) ∧ w3.cell? ⟨w2.heap.size, 1, none⟩ = some (.slice e1 s.regs.length f1) ∧ w3.cell? ⟨w2.heap.size, 2, none⟩ = some (.slice e2 s.mem.length f2) ∧ w3.cell? ⟨w2.heap.size, 3, none⟩ = some (.slice e3 s.buf.length f3)) := by
      have e := fun (i : Nat) => cell_of_row w3 w2.heap.size i _ _ _ hst
      exact ⟨e 0, e 1, e 2, e 3⟩
    have HST := hid hst
    have HB3 := hid (HB2.out.trans (hba.mono HB2.out.size))
    have hs3 : w3.heap.size = w2.heap.size + 1 := by rw [hw3]; simp
    have HD3 := hid (HDN.out w3 ⟨e0, f0, e1, f1, e2, f2, e3, f3⟩ s (HRP.out.below HB3.out) (hrd.below hba) hgd)
    have HR3 := hid (hrd.below hba)
    clear hrd hgd hb2 hba hst
    rw [hw3] at x3
    have HRU := hid (show (mRun p split ms = none ∧ (mRun p split ms).isSome = false) ∨ (mRun p split ms = some s ∧ (mRun p split ms).isSome = true) from by
      cases hm : mRun p split ms with
      | none => exact .inl ⟨rfl, rfl⟩
      | some s' => obtain rfl := hsome s' hm; exact .inr ⟨rfl, rfl⟩)
    obtain ⟨B, hB⟩ : ∃ B, B = (mRun p split ms).isSome := ⟨_, rfl⟩
    rw [← hB] at HRU ⊢
    clear hsome hB
    cases B
    · have HFIN := hid (show runRes (done4 p) out3 (mRun p split ms) = ([], false) from by
        rcases HRU.out with h | h
        · rw [h.1]; rfl
        · exact absurd h.2 (by decide))
      go_wp2
      go_ret2
      rw [HFIN.out]
      rw [← hw3, ← hs3]
      exact ⟨_, 0, rfl, own_lit0 w3 _ _ 1 HB3.out.size, HB3.out.alloc HB3.out.size _⟩
    · have HFIN := hid (show runRes (done4 p) out3 (mRun p split ms) = if done4 p s then (out3 s, true) else ([], false) from by
        rcases HRU.out with h | h
        · exact absurd h.2 (by decide)
        · rw [h.1]; rfl)
      go_wp2_with fail
      rw [← hw3]
      obtain ⟨D, hD⟩ : ∃ D, D = done4 p s := ⟨_, rfl⟩
      rw [← hD] at HD3 HFIN
      clear hD
      refine HD3.out.mono ?_
      rintro e w4 ⟨rfl, hb4⟩
      have hg4 := (hb4.block w2.heap.size (by omega)).trans HST.out
      have c4 : (w4.cell? ⟨w2.heap.size, 0, none⟩ = some (.slice e0 s.pc.length f0) ∧ w4.cell? ⟨w2.heap.size, 1, none⟩ = some (.slice e1 s.regs.length f1) ∧ w4.cell? ⟨w2.heap.size, 2, none⟩ = some (.slice e2 s.mem.length f2) ∧ w4.cell? ⟨w2.heap.size, 3, none⟩ = some (.slice e3 s.buf.length f3)) := by
        have e := fun (i : Nat) => cell_of_row w4 w2.heap.size i _ _ _ hg4
        exact ⟨e 0, e 1, e 2, e 3⟩
      have HRD4 := hid (HR3.out.below hb4)
      have HB4 := hid (HB3.out.trans (hb4.mono HB3.out.size))
      clear hb4 hg4 x3
      cases D
      · go_wp2
        go_ret2
        rw [HFIN.out]
        exact retLB_lit HB4.out
      · go_wp2_with fail
        refine (HOUT.out _ ⟨e0, f0, e1, f1, e2, f2, e3, f3⟩ s HRD4.out HGD.out).mono ?_
        rintro e w5 ⟨a5, c5, rfl, hown5, hb5⟩
        have HO5 := hid hown5
        have HB5 := hid hb5
        clear hown5 hb5 c4
        go_wp2
        go_ret2
        rw [HFIN.out]
        exact ⟨a5, c5, rfl, own_base HO5.out HB4.out.size, HB4.out.trans (HB5.out.mono HB4.out.size)⟩
  · have hv : progValid p = false := by simpa using hv
    rw [hv] at HV
    have HRES := hid (show runMov p split ms = ([], false) by unfold runMov; rw [hv]; rfl)
    rw [HRES.out]
    clear hv h h' hl hl' HRES
    go_enter Try.func10, Try.ntmps10
    go_wp2_with fail
    refine HV.out.mono ?_
    rintro e w1 ⟨rfl, hb1⟩
    have HB1 := hid hb1
    clear hb1
    go_wp2
    go_ret2
    exact retLB_lit HB1.out
theorem moves4_take {p : Prg} {s : St} {split : Bool} : moves4 p s split = ((List.range (p.length + s.buf.length)).filter (can4 p s split)).map fun (m : Nat) => (m : Int) := rfl
theorem rd_one (w : World) (x : Int) (e : TypeId) : Rd (w.alloc (.cells #[.int .i64 x] e)) (some ⟨w.heap.size, 0, none⟩) [.int .i64 x] :=
  .inr ⟨_, 0, rfl, by simp, fun j u hj => by
    rw [Nat.zero_add, cell_of_row _ _ j _ _ _ (heap_alloc_new w _)]
    match j, hj with
    | 0, hj => simpa using hj
    | k + 1, hj => simp at hj⟩
/-- The moves below k. -/
def movTo (p : Prg) (s : St) (split : Bool) (k : Nat) : List Int := ((List.range k).filter (can4 p s split)).map fun (m : Nat) => (m : Int)
theorem movTo_succ (p : Prg) (s : St) (split : Bool) (k : Nat) : movTo p s split (k + 1) = movTo p s split k ++ if can4 p s split k then [(k : Int)] else [] := by
  unfold movTo
  rw [List.range_succ, List.filter_append, List.map_append]
  congr 1
  cases h : can4 p s split k <;> simp [h]
theorem movTo_len (p : Prg) (s : St) (split : Bool) (k : Nat) : (movTo p s split k).length ≤ k := by
  unfold movTo
  rw [List.length_map]
  have := List.length_filter_le (can4 p s split) (List.range k)
  simpa using this

set_option maxRecDepth 100000 in
set_option maxHeartbeats 3200000 in
theorem maS_c (w : World) (a : Option Addr) (cap : Nat) (p : Prg) (split : Bool) (a' : Option Addr) (cap' : Nat) (ms : List Int) (h : RdP w a p) (h' : Rd w a' (ints ms)) (hl : sizeP p ≤ 1048576) (hl' : ms.length ≤ 1048576) :
    Calls Try.prog 15 #[.slice a p.length cap, .bool split, .slice a' ms.length cap'] w (RetL w (movAft p split ms)) := by
  have HV := hid (fun w (h : RdP w a p) => pvS_c w a cap p h hl)
  have HO0 := hid (own_lit0 w w.heap.size 3 1 (Nat.le_refl _))
  have HB0 := hid ((Below.refl w.heap.size w).alloc (Nat.le_refl _) (.cells #[] 3))
  by_cases hv : progValid p = true
  · rw [hv] at HV
    have hsh := (valid_of hv).toShape
    have HRES := hid (show movAft p split ms = (match mRun p split ms with | some s => moves4 p s split | none => []) by unfold movAft; rw [if_pos hv]; rfl)
    have HAFT := hid (fun w (hp : RdP w a p) h' => l4After_c w a cap p split a' cap' ms hp h' hsh hl')
    have HCAN := hid (fun w q s m (hp : RdP w a p) (h : RdS w q s) (hg : Good4 p split s) => l4Can_c w a cap p q s split m hp h hsh hg)
    have HRP := hid h
    have HRM := hid h'
    have HBL := hid (fun s (hg : Good4 p split s) => hg.blen hsh)
    obtain ⟨n, hn⟩ : ∃ n, n = p.length := ⟨_, rfl⟩
    have HN := hid hn
    obtain ⟨l, hll⟩ : ∃ l, l = ms.length := ⟨_, rfl⟩
    have hn3 : n ≤ 3 := by rw [hn]; exact hsh.len
    have hn1 : 1 ≤ n := by rw [hn]; exact (valid_of hv).pos
    rw [← hn] at HV HAFT HCAN ⊢
    rw [← hll] at HAFT ⊢
    clear hv hsh h h' hl hl' hn hll
    unfold Sp.v at HCAN
    go_enter Try.func15, Try.ntmps15
    go_wp2_with fail
    refine (HV.out _ (HRP.out.below HB0.out)).mono ?_
    rintro e w1 ⟨rfl, hb1⟩
    have HB1 := hid (HB0.out.trans (hb1.mono HB0.out.size))
    have HO1 := hid (own_below HO0.out hb1)
    have HSZ1 := hid hb1.size
    clear hb1
    go_wp2_with fail
    refine (HAFT.out _ (HRP.out.below HB1.out) (HRM.out.below HB1.out)).mono ?_
    rintro e w2 ⟨⟨e0, f0, e1, f1, e2, f2, e3, f3⟩, s, rfl, hrd, hgd, hb2, hsome⟩
    have HGD := hid hgd
    have HFR := hid hrd
    have hbl9 := HBL.out s hgd
    have HB2 := hid (HB1.out.trans (hb2.mono HB1.out.size))
    unfold Sp.v
    dsimp only
    have hst : (w2.alloc (.cells #[.slice e0 s.pc.length f0, .slice e1 s.regs.length f1, .slice e2 s.mem.length f2, .slice e3 s.buf.length f3] 53)).heap[w2.heap.size]? = some (.cells #[.slice e0 s.pc.length f0, .slice e1 s.regs.length f1, .slice e2 s.mem.length f2, .slice e3 s.buf.length f3] 53 (0, 0)) := heap_alloc_new w2 _
    have hba := (Below.refl w2.heap.size w2).alloc (Nat.le_refl _) (.cells #[.slice e0 s.pc.length f0, .slice e1 s.regs.length f1, .slice e2 s.mem.length f2, .slice e3 s.buf.length f3] 53)
    have HOA := hid (own_below (own_below HO1.out hb2) hba)
    obtain ⟨w3, hw3⟩ : ∃ w3, w3 = w2.alloc (.cells #[.slice e0 s.pc.length f0, .slice e1 s.regs.length f1, .slice e2 s.mem.length f2, .slice e3 s.buf.length f3] 53) := ⟨_, rfl⟩
    rw [← hw3] at hst hba HOA
    have HST := hid hst
    have HB3 := hid (HB2.out.trans (hba.mono HB2.out.size))
    have hs3 : w3.heap.size = w2.heap.size + 1 := by rw [hw3]; simp
    have HF3 := hid (hrd.keeps (S := fun _ => False) (Keeps.of_below hba) (fun _ _ e => e))
    have hs1 : w.heap.size + 1 ≤ w1.heap.size := by have := HSZ1.out; simp at this; omega
    have HRU := hid (show (mRun p split ms = none ∧ (mRun p split ms).isSome = false) ∨ (mRun p split ms = some s ∧ (mRun p split ms).isSome = true) from by
      cases hm : mRun p split ms with
      | none => exact .inl ⟨rfl, rfl⟩
      | some s' => obtain rfl := hsome s' hm; exact .inr ⟨rfl, rfl⟩)
    obtain ⟨B, hB⟩ : ∃ B, B = (mRun p split ms).isSome := ⟨_, rfl⟩
    rw [← hB] at HRU ⊢
    obtain ⟨bl, hbl⟩ : ∃ bl, bl = s.buf.length := ⟨_, rfl⟩
    have HBB := hid hbl
    rw [← hbl] at hbl9 HST
    have HS12 := hid hb2.size
    clear hrd hgd hb2 hba hst hsome hB
    rw [← hbl] at hw3 ⊢
    clear hbl
    go_wp2_with fail
    rw [← hw3]
    clear hw3
    have hss := HB2.out.size
    have hs12 : w1.heap.size ≤ w2.heap.size := HS12.out
    go_loopw [7, 10] (fun v i wr => ∃ k : Nat, k ≤ n + bl ∧ (B = false → k = 0) ∧ i = .int .i64 k ∧ Hid (wr.ownsRow w.heap.size 3 1 v (movTo p s split k).length (ints (movTo p s split k))) ∧ Hid (Keeps (· = w.heap.size) w3 wr) ∧ Hid (∀ x, v.ownBlock = some x → x = w.heap.size ∨ w3.heap.size ≤ x)) (fun _ i _ => n + bl - (intOf i).toNat)
    case atStart => exact ⟨0, Nat.zero_le _, fun _ => rfl, rfl, hid (by simpa [movTo] using HOA.out), hid (Keeps.refl _ _), hid (fun x hx => .inl (by simp [Value.ownBlock] at hx; exact hx.symm))⟩
    case round =>
      obtain ⟨k, hk, hB0, rfl, HO, HK, HV7⟩ := hrel
      have HG := hid ((HK.out.block w2.heap.size (by omega) (by omega)).trans HST.out)
      have HR := hid (HF3.out.keeps HK.out (fun x hx e => by have : w1.heap.size ≤ x := hx; omega)).rd
      have HB := hid (Proofs.Ytloghcfkjcbjlaa.Below.keeps HB3.out HK.out HB3.out.size (fun x e => by omega))
      obtain ⟨av, cv, rfl, hvb⟩ := own_shape HO.out
      have HVB := hid hvb
      have cs : (wr.cell? ⟨w2.heap.size, 0, none⟩ = some (.slice e0 s.pc.length f0) ∧ wr.cell? ⟨w2.heap.size, 1, none⟩ = some (.slice e1 s.regs.length f1) ∧ wr.cell? ⟨w2.heap.size, 2, none⟩ = some (.slice e2 s.mem.length f2) ∧ wr.cell? ⟨w2.heap.size, 3, none⟩ = some (.slice e3 bl f3)) := by
        have e := fun (i : Nat) => cell_of_row wr w2.heap.size i _ _ _ HG.out
        exact ⟨e 0, e 1, e 2, e 3⟩
      have hg6 : w2.heap.size < wr.heap.size := (Array.getElem?_eq_some_iff.1 HG.out).1
      have hml := movTo_len p s split k
      clear hvb
      cases B
      · have hk0 := hB0 rfl
        subst hk0
        have HF := hid (show movAft p split ms = movTo p s split 0 from by
          rw [HRES.out]
          rcases HRU.out with h | h
          · rw [h.1]; rfl
          · exact absurd h.2 (by decide))
        have d1 : (0 : Int) < (n : Int) + (bl : Int) := by omega
        clear hB0
        go_wp2
        go_ret
        rw [HF.out]
        exact ⟨_, _, rfl, HO.out, HB.out⟩
      · clear hB0
        by_cases hlt : k < n + bl
        · have d1 : (k : Int) < (n : Int) + (bl : Int) := by omega
          have HC1 := hid (HCAN.out wr ⟨e0, f0, e1, f1, e2, f2, e3, f3⟩ s (k : Int) (HRP.out.below HB.out) HR HGD.out)
          rw [in_moves4, ← HN.out, ← HBB.out, decide_eq_true hlt, Bool.true_and] at HC1
          have HSU := hid (movTo_succ p s split k)
          obtain ⟨C, hC⟩ : ∃ C, C = can4 p s split k := ⟨_, rfl⟩
          rw [← hC] at HC1 HSU
          clear hC
          obtain ⟨L, hL⟩ : ∃ L, L = (movTo p s split k).length := ⟨_, rfl⟩
          have HL := hid hL
          rw [← hL] at HO hml HV7 ⊢
          clear hL
          go_wp2_with fail
          refine HC1.out.mono ?_
          rintro e w4 ⟨rfl, hb4⟩
          have HK4 := hid (HK.out.trans (Keeps.of_below hb4))
          have HB4 := hid (HB.out.trans (hb4.mono HB.out.size))
          have HO4 := hid (own_below HO.out hb4)
          have hs4 := hb4.size
          have hbs := HB.out.size
          clear hb4 cs
          cases C
          · have HO5 := hid (show w4.ownsRow w.heap.size 3 1 (.slice av L cv) (movTo p s split (k + 1)).length (ints (movTo p s split (k + 1))) from by
              rw [HSU.out]
              simp only [Bool.false_eq_true, if_false, List.append_nil]
              rw [← HL.out]
              exact HO4.out)
            go_wp2_with fail
            go_roundw
            case rel => exact ⟨k + 1, by omega, fun e => (by cases e), by go_num, HO5, HK4, HV7⟩
            case measure => simp [intOf]; omega
          · go_wp2_with (at_builtin; refine wpList_append_rd rfl (.tmp 41) (.tmp 43) 24 rfl w.heap.size 3 (.int .i64 0) 1 8 Try.underlying24 Try.info_int rfl (by decide) _ _ _ rfl (HO4.out.alloc _) _ 1 1 [.int .i64 (k : Int)] rfl (rd_one w4 (k : Int) _) rfl (by simp [Value.oneCell']) (by omega) (by decide) (by simp; omega) ?_)
            intro v5 w5 hown5 hgrow5 hat5
            rw [ownBlock_slice] at hgrow5 hat5
            have hs5 := hgrow5.size
            simp only [World.size_alloc] at hs5
            have HO5 := hid (show w5.ownsRow w.heap.size 3 1 v5 (movTo p s split (k + 1)).length (ints (movTo p s split (k + 1))) from by
              rw [HSU.out]
              simp only [if_true, List.length_append, List.length_singleton]
              rw [← HL.out]
              have e : ints (movTo p s split k ++ [(k : Int)]) = ints (movTo p s split k) ++ [.int .i64 (k : Int)] := by simp
              rw [e]
              exact hown5)
            have HK5 := hid (show Keeps (· = w.heap.size) w3 w5 from by
              have h4 := HK4.out
              have h5 := hgrow5
              refine ⟨h5.os.trans h4.os, h5.tape.trans h4.tape, h5.output.trans h4.output, by have := h4.size; omega, fun x hx hne => ?_⟩
              have h4s := h4.size
              rw [h5.block x (by simp; omega) (fun e => by
                rcases HV7.out x (by rw [ownBlock_slice]; exact e.symm) with h | h
                · exact hne h
                · omega), heap_alloc_old _ _ (by omega)]
              exact h4.block x hx hne)
            have HV5 := hid (show ∀ x, v5.ownBlock = some x → x = w.heap.size ∨ w3.heap.size ≤ x from fun x hx => by
              rcases hat5 with h | h
              · exact HV7.out x (by rw [ownBlock_slice, ← h]; exact hx)
              · rw [h] at hx
                have h4s := HK4.out.size
                simp at hx
                omega)
            clear hown5 hgrow5 hat5
            go_wp2_with fail
            go_roundw
            case rel => exact ⟨k + 1, by omega, fun e => (by cases e), by go_num, HO5, HK5, HV5⟩
            case measure => simp [intOf]; omega
        · have HF := hid (show movAft p split ms = movTo p s split k from by
            rw [HRES.out]
            rcases HRU.out with h | h
            · exact absurd h.2 (by decide)
            · rw [h.1]
              have : k = p.length + s.buf.length := by rw [← HN.out, ← HBB.out]; omega
              rw [this]; rfl)
          have d1 : ¬ ((k : Int) < (n : Int) + (bl : Int)) := by omega
          go_wp2
          go_ret
          rw [HF.out]
          exact ⟨_, _, rfl, HO.out, HB.out⟩
  · have hv : progValid p = false := by simpa using hv
    rw [hv] at HV
    have HRES := hid (show movAft p split ms = [] by unfold movAft; rw [hv]; rfl)
    rw [HRES.out]
    have HRP := hid h
    clear hv h h' hl hl' HRES
    go_enter Try.func15, Try.ntmps15
    go_wp2_with fail
    refine (HV.out _ (HRP.out.below HB0.out)).mono ?_
    rintro e w1 ⟨rfl, hb1⟩
    have HB1 := hid (HB0.out.trans (hb1.mono HB0.out.size))
    have HO1 := hid (own_below HO0.out hb1)
    clear hb1
    go_wp2
    go_ret
    exact ⟨_, _, rfl, HO1.out, HB1.out⟩
end Go.Proofs.Ytloghcfkjcbjlaa
