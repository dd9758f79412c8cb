/-
  PROVED HERE: what spec.l3Done, l3Outcome do. what spec.RunSchedule does. CONDITIONS: as each theorem states.
-/
import Derived.Test.YtbncmeggnhggkaaSpe
import Derived.Test.YtbncmeggnhggkaaChn
import Derived.Test.YtbncmeggnhggkaaBf
namespace Go.Proofs.Ytbncmeggnhggkaa
open Go.RowKit
set_option linter.unusedVariables false
set_option linter.unusedSimpArgs false

/-- Where thread t's place stands. -/
theorem RdS.pcAt {w : World} {q : Sp} {s : St} {p : Prg} (h : RdS w q s) (hg : Good p s) {t : Nat} {xs : List Ins} (hx : p[t]? = some xs) :
    ∃ (b off k : Nat), q.a0 = some ⟨b, off, none⟩ ∧ b < w.heap.size ∧ s.pc[t]? = some (k : Int) ∧ k ≤ xs.length ∧ w.cell? ⟨b, off + t, none⟩ = some (.int .i64 k) := by
  obtain ⟨k, hk, hl⟩ := hg.pcb t xs hx
  obtain ⟨ht, he⟩ := List.getElem?_eq_some_iff.1 hk
  obtain ⟨b, off, h1, h2, h3⟩ := h.pc.int t ht
  rw [he] at h3
  exact ⟨b, off, k, h1, h2, hk, hl, h3⟩

set_option maxHeartbeats 1600000 in
theorem l3Done_c (w : World) (a : Option Addr) (cap : Nat) (p : Prg) (q : Sp) (s : St) (hp : RdP w a p) (h : RdS w q s) (hv : Shape p) (hg : Good p s) :
    Calls Try.prog 36 #[.slice a p.length cap, q.v s] w fun e w' => e = .returned (.bool (done3 p s)) ∧ Below w.heap.size w w' := by
  obtain ⟨a0, c0, a1, c1, a2, c2, a3, c3⟩ := q
  obtain ⟨n, hn⟩ : ∃ n, n = p.length := ⟨_, rfl⟩
  obtain ⟨m, hm⟩ : ∃ m, m = s.pc.length := ⟨_, rfl⟩
  have HN := hid hn
  have hnm : m = n := by rw [hm, hn]; exact hg.pcl
  have HNM := hid hnm
  have hn3 : n ≤ 3 := by rw [hn]; exact hv.len
  have HNO := hid (fun t (h : goes p s t = true) (ht : t < n) => show done3 p s = false from by
    unfold done3
    rw [List.all_eq_false]
    exact ⟨t, List.mem_range.2 (by omega), by simp [h]⟩)
  have HYES := hid (fun (h : ∀ t, t < n → goes p s t = false) => show done3 p s = true from by
    unfold done3
    rw [List.all_eq_true]
    intro t ht
    rw [h t (by have := List.mem_range.1 ht; omega)]; rfl)
  have HP := hid hp
  have HS := hid h
  have HG := hid hg
  unfold Sp.v
  dsimp only
  rw [← hn, ← hm]
  clear hn hm hnm hp h hg hv
  go_enter Try.func36, Try.ntmps36
  go_wp2_with fail
  obtain ⟨w1, hw1⟩ : ∃ w1, w1 = w.alloc (.cells #[.slice a0 m c0, .slice a1 s.regs.length c1, .slice a2 s.mem.length c2, .slice a3 s.buf.length c3] 44) := ⟨_, rfl⟩
  rw [← hw1]
  have hb1 : Below w.heap.size w w1 := by rw [hw1]; exact (Below.refl _ _).alloc (Nat.le_refl _) _
  have hc1 : w1.cell? ⟨w.heap.size, 0, none⟩ = some (.slice a0 m c0) := by rw [hw1]; simp
  have HB1 := hid hb1
  have hlt1 : w.heap.size < w1.heap.size := by rw [hw1]; simp
  clear hb1 hw1
  go_loopw [5] (fun i wr => ∃ k : Nat, k ≤ n ∧ i = .int .i64 k ∧ Hid (∀ t, t < k → goes p s t = false) ∧ Hid (Below w1.heap.size w1 wr)) (fun i _ => n - (intOf i).toNat)
  case atStart => exact ⟨0, Nat.zero_le _, rfl, hid (fun t ht => by omega), hid (Below.refl _ _)⟩
  case round =>
    obtain ⟨k, hk, rfl, HK, HB⟩ := hrel
    have HBW := hid (HB1.out.trans (HB.out.mono (by omega)))
    by_cases hlt : k < n
    · obtain ⟨b, off, r, rc, xs, hab, hbl, hxs, hcell, _, _⟩ := HP.out.at' k (by rw [← HN.out]; exact hlt)
      subst hab
      obtain ⟨sb, so, j, hsa, hsl, hj, hjl, hsc⟩ := HS.out.pcAt HG.out hxs
      have hsa : a0 = some ⟨sb, so, none⟩ := hsa
      subst hsa
      have HGO := hid (goes_of hxs hj)
      have c1 := (HBW.out.cell (p := ⟨b, off + k, none⟩) hbl).trans hcell
      have c2 := (HBW.out.cell (p := ⟨sb, so + k, none⟩) hsl).trans hsc
      have c3 := (HB.out.cell (p := ⟨w.heap.size, 0, none⟩) hlt1).trans hc1
      have hkm : k < m := by rw [HNM.out]; exact hlt
      obtain ⟨l, hl⟩ : ∃ l, l = xs.length := ⟨_, rfl⟩
      rw [← hl] at c1 hjl HGO
      clear hcell hsc hxs hj hl hbl hsl
      by_cases hjl2 : j < l
      · rw [decide_eq_true hjl2] at HGO
        go_wp2_with fail
        refine wp_region_mix (by kernel_rfl) (by kernel_rfl) ?_
        go_wp2_with (first | (with_reducible refine wpMix_nil ?_) | (with_reducible refine wpMix_rd rfl rfl (fun K hK => ?_); go_simp; (try go_bits); refine hK _ ?_; clear hK K))
        go_ret
        exact ⟨ret_bool (HNO.out k HGO.out hlt).symm, below_drewN 1 HBW.out⟩
      · rw [decide_eq_false hjl2] at HGO
        have hjl3 : ¬ ((j : Int) < (l : Int)) := by omega
        go_wp2_with fail
        refine wp_region_mix (by kernel_rfl) (by kernel_rfl) ?_
        go_wp2_with (first | (with_reducible refine wpMix_nil ?_) | (with_reducible refine wpMix_rd rfl rfl (fun K hK => ?_); go_simp; (try go_bits); refine hK _ ?_; clear hK K))
        go_roundw
        case rel => exact ⟨k + 1, by omega, by go_num, hid (fun t ht => by
          by_cases e : t = k
          · rw [e]; exact HGO.out
          · exact HK.out t (by omega)), hid (below_drewN 1 HB.out)⟩
        case measure => simp [intOf]; omega
    · go_wp2
      go_ret
      exact ⟨ret_bool (HYES.out fun t ht => HK.out t (by omega)).symm, HBW.out⟩

def outR (w1 : World) (s : St) (m : Nat) (ρ : Nat → Value) (w : World) : Prop :=
  if m = 1 then IsLit w1 w 3 (ρ 0) else if m = 2 then IsOwn w1.heap.size s.regs w (ρ 3) else if m = 3 then IsOwn w1.heap.size (s.regs ++ s.mem) w (ρ 6) else True
set_option maxRecDepth 100000 in
set_option maxHeartbeats 1600000 in
theorem l3Outcome_c (w : World) (q : Sp) (s : St) (h : RdS w q s) (l1 : s.regs.length ≤ 1000) (l2 : s.mem.length ≤ 1000) :
    Calls Try.prog 37 #[q.v s] w fun e w' => ∃ a cap, e = .returned (.slice a (out3 s).length cap) ∧ OwI w' w.heap.size a cap (out3 s) ∧ Below w.heap.size w w' := by
  obtain ⟨a0, c0, a1, c1, a2, c2, a3, c3⟩ := q
  obtain ⟨n1, hn1⟩ : ∃ n, n = s.regs.length := ⟨_, rfl⟩
  obtain ⟨n2, hn2⟩ : ∃ n, n = s.mem.length := ⟨_, rfl⟩
  have HN := hid (And.intro hn1 hn2)
  have HL := hid (show (out3 s).length = n1 + n2 by rw [hn1, hn2]; simp [out3])
  have HRD := hid h
  unfold OwI
  rw [HL.out]
  unfold Sp.v
  dsimp only
  rw [← hn1] at l1
  rw [← hn2] at l2
  rw [← hn1, ← hn2]
  clear hn1 hn2 h
  go_enter Try.func37, Try.ntmps37
  go_wp2_with fail
  obtain ⟨w1, hw1⟩ : ∃ w1, w1 = w.alloc (.cells #[.slice a0 s.pc.length c0, .slice a1 n1 c1, .slice a2 n2 c2, .slice a3 s.buf.length c3] 44) := ⟨_, rfl⟩
  rw [← hw1]
  have hb1 : Below w.heap.size w w1 := by rw [hw1]; exact (Below.refl _ _).alloc (Nat.le_refl _) _
  have hg1 : w1.heap[w.heap.size]? = some (.cells #[.slice a0 s.pc.length c0, .slice a1 n1 c1, .slice a2 n2 c2, .slice a3 s.buf.length c3] 44 (0, 0)) := by rw [hw1]; exact heap_alloc_new w _
  have hs1 : w1.heap.size = w.heap.size + 1 := by rw [hw1]; simp
  have HB1 := hid hb1
  have HG1 := hid hg1
  obtain ⟨J, hJ⟩ : ∃ J : World → Prop, J = fun w' => Below w1.heap.size w1 w' := ⟨_, rfl⟩
  have HJ := hid (fun w' (h : Below w1.heap.size w1 w') => show J w' by rw [hJ]; exact h)
  have HJB := hid (fun w' (h : J w') => show Below w1.heap.size w1 w' by rw [hJ] at h; exact h)
  have HC := hid (fun w' (h : J w') => show w'.cell? ⟨w.heap.size, 1, none⟩ = some (.slice a1 n1 c1) ∧ w'.cell? ⟨w.heap.size, 2, none⟩ = some (.slice a2 n2 c2) from by
    rw [hJ] at h
    have e := fun (i : Nat) => cell_of_row w' w.heap.size i _ _ _ ((h.block w.heap.size (by omega)).trans HG1.out)
    exact ⟨e 1, e 2⟩)
  have HJI := hid (fun S ρ w' (h : ChI [0, 3, 6] (outR w1 s) J S ρ w') => h.j)
  clear hb1 hg1 hw1 hJ
  refine FR.wp_region_free 7 (ChI [0, 3, 6] (outR w1 s) J) (by kernel_rfl) (by kernel_rfl) (by kernel_rfl) (fun _ => undef) (ChI.start (HJ.out _ (below_drewN 1 (Below.refl _ _))) trivial) fun V => ?_
  refine FR.frGo_act (k := 0) _ rfl (fun S ρ w' hI hS hp K hK => ?_) ?_
  · go_simp
    have hb := HJB.out w' hI.j
    refine hK _ _ (hI.next (i := 0) (by decide) rfl hS (by simp) (HJ.out _ (hb.alloc hb.size _)) ?_)
    show IsLit w1 _ 3 (FR.upd ρ 0 _ 0)
    rw [FR.upd_same]
    exact IsLit.new w1 w' _ hb.size
  (refine FR.frGo_pure _ rfl (fun K hK => ?_); go_simp; (first | refine hK _ ?_ | refine ⟨_, fun W hW => rfl, hK _ ?_⟩ | refine ⟨_, fun W hW => ⟨rfl, rfl⟩, hK _ ?_⟩); clear hK K)
  (refine FR.frGo_held _ rfl J (fun S ρ w' h _ => HJI.out S ρ w' h) (fun K hK => ?_); go_simp; apply Exists.intro; refine And.intro (fun W hW => ?_) (hK _ ?_); (focus (have hcs := HC.out W hW; go_simp; try rfl)); clear hK K)
  refine FR.frGo_act (k := 3) _ rfl (fun S ρ w' hI hS hp K hK => ?_) ?_
  · have hp0 := hp 0 (by kernel_rfl)
    have hb := HJB.out w' hI.j
    have q0 : IsLit w1 w' 3 (ρ 0) := hI.at (i := 1) (by decide) rfl hS (by simpa using hp0.1)
    rw [hp0.2] at q0
    refine oper_append_lit w1 _ _ 23 rfl 3 (.int .i64 0) 1 8 Try.underlying23 Try.info_int rfl (by decide) (V 0) rfl q0 a1 n1 c1 (ints s.regs) rfl ((HRD.out.regs.below HB1.out).below hb) (by simp [HN.out.1]) (ints_one _ _) (by omega) (by decide) ?_
    intro a' c' w'' hown hb2 hat
    refine hK _ _ (hI.next (i := 1) (by decide) rfl hS (by simpa using hp0.1) (HJ.out _ (hb.trans (hb2.mono hb.size))) ?_)
    show IsOwn w1.heap.size s.regs _ (FR.upd ρ 3 _ 3)
    rw [FR.upd_same]
    exact ⟨a', c', by rw [HN.out.1], by rw [← HN.out.1]; exact hown⟩
  (refine FR.frGo_pure _ rfl (fun K hK => ?_); go_simp; (first | refine hK _ ?_ | refine ⟨_, fun W hW => rfl, hK _ ?_⟩ | refine ⟨_, fun W hW => ⟨rfl, rfl⟩, hK _ ?_⟩); clear hK K)
  (refine FR.frGo_held _ rfl J (fun S ρ w' h _ => HJI.out S ρ w' h) (fun K hK => ?_); go_simp; apply Exists.intro; refine And.intro (fun W hW => ?_) (hK _ ?_); (focus (have hcs := HC.out W hW; go_simp; try rfl)); clear hK K)
  refine FR.frGo_act (k := 6) _ rfl (fun S ρ w' hI hS hp K hK => ?_) ?_
  · have hp0 := hp 0 (by kernel_rfl)
    have hp3 := hp 3 (by kernel_rfl)
    have hb := HJB.out w' hI.j
    have hpr : ∀ j ∈ ([0, 3, 6] : List Nat).take 2, S j = true := by
      intro j hj
      simp at hj
      rcases hj with rfl | rfl
      · exact hp0.1
      · exact hp3.1
    have q3 : IsOwn w1.heap.size s.regs w' (ρ 3) := hI.at (i := 2) (by decide) rfl hS hpr
    rw [hp3.2] at q3
    obtain ⟨b3, d3, e3, o3⟩ := q3
    rw [← HN.out.1] at e3 o3
    rw [e3] at o3
    refine oper_append_rd _ _ 23 rfl w1.heap.size 3 (.int .i64 0) 1 8 Try.underlying23 Try.info_int rfl (by decide) (.slice b3 n1 d3) n1 (ints s.regs) e3 o3 a2 n2 c2 (ints s.mem) rfl ((HRD.out.mem.below HB1.out).below hb) (by simp [HN.out.2]) (ints_one _ _) (by omega) (by decide) hb.size ?_
    intro a' c' w'' hown hg hat
    rw [ownBlock_slice] at hg
    refine hK _ _ (hI.next (i := 2) (by decide) rfl hS hpr (HJ.out _ (hb.grown hg hb.size fun b hb' => (own_blk o3 b hb').1)) ?_)
    show IsOwn w1.heap.size (s.regs ++ s.mem) _ (FR.upd ρ 6 _ 6)
    rw [FR.upd_same]
    have el : (s.regs ++ s.mem).length = n1 + n2 := by rw [List.length_append, ← HN.out.1, ← HN.out.2]
    exact ⟨a', c', by rw [el], by rw [el]; simpa [ints] using hown⟩
  refine FR.frGo_nil _ ?_
  intro S ρ w2 hI hS
  have h0 := hS 0 (by decide) (by kernel_rfl)
  have h3 := hS 3 (by decide) (by kernel_rfl)
  have h6 := hS 6 (by decide) (by kernel_rfl)
  have hall : ∀ j ∈ ([0, 3, 6] : List Nat), S j = true := by
    intro j hj
    simp at hj
    rcases hj with rfl | rfl | rfl
    · exact h0.1
    · exact h3.1
    · exact h6.1
  have q6 : IsOwn w1.heap.size (s.regs ++ s.mem) w2 (ρ 6) := hI.done (by decide) hall
  rw [h6.2] at q6
  obtain ⟨b6, d6, e6, o6⟩ := q6
  have el : (s.regs ++ s.mem).length = n1 + n2 := by rw [List.length_append, ← HN.out.1, ← HN.out.2]
  have hb2 := HJB.out w2 hI.j
  rw [el] at e6 o6
  rw [e6] at o6 ⊢
  have HO := hid o6
  have HB2 := hid hb2
  clear hall hI hS h0 h3 h6 e6 o6 el hb2
  refine wpMix_rd rfl rfl (fun K hK => ?_)
  go_simp
  refine hK _ ?_
  clear hK K
  (with_reducible refine wpMix_nil ?_)
  go_wp2
  go_ret
  exact ⟨b6, d6, rfl, own_base HO.out (by omega), HB1.out.trans (HB2.out.mono (by omega))⟩
end Go.Proofs.Ytbncmeggnhggkaa
namespace Go.Proofs.Ytbncmeggnhggkaa
open Go.RowKit
set_option linter.unusedVariables false
set_option linter.unusedSimpArgs false

theorem small_nil {s : St} (h : s.buf = []) : Small s := ⟨by rw [h]; simp, by rw [h]; simp⟩

set_option maxRecDepth 100000 in
set_option maxHeartbeats 3200000 in
theorem rsS_c (w : World) (a : Option Addr) (cap : Nat) (p : Prg) (a' : Option Addr) (cap' : Nat) (ms : List Int) (h : RdP w a p) (h' : Rd w a' (ints ms)) (hl : sizeP p ≤ 1048576) (hl' : ms.length ≤ 1048576) :
    Calls Try.prog 11 #[.slice a p.length cap, .slice a' ms.length cap'] w (RetLB w (runSch p ms)) := by
  have HV := hid (pvS_c w a cap p h hl)
  by_cases hv : progValid p = true
  · rw [hv] at HV
    have hsh := (valid_of hv).toShape
    have HRES := hid (show runSch p ms = runRes (done3 p) out3 (seqRun p ms) by unfold runSch; rw [if_pos hv])
    have HSTART := hid (fun w => l3Start_c w a cap p 0 (by have := hsh.len; omega) (by omega))
    have HDO := hid (fun w q s t (hp : RdP w a p) (h : RdS w q s) (hg : Good p s) (hb : s.buf = []) (hgo : goes p s t = true) => l3Do_c w a cap p q s t hp h hsh hg (small_nil hb) hgo)
    have HDN := hid (fun w q s (hp : RdP w a p) (h : RdS w q s) (hg : Good p s) => l3Done_c w a cap p q s hp h hsh hg)
    have HOUT := hid (fun w q s (h : RdS w q s) (hg : Good p s) => l3Outcome_c w q s h (by have := (good_small hg hsh).2.1; omega) (by have := (good_small hg hsh).2.2; omega))
    have HRP := hid h
    have HRM := hid h'
    have HSH := hid hsh
    obtain ⟨n, hn⟩ : ∃ n, n = p.length := ⟨_, rfl⟩
    obtain ⟨l, hll⟩ : ∃ l, l = ms.length := ⟨_, rfl⟩
    have HN := hid (And.intro hn hll)
    have hn3 : n ≤ 3 := by rw [hn]; exact hsh.len
    rw [HRES.out]
    rw [← hn] at HV HSTART HDO HDN ⊢
    rw [← hll] at hl' ⊢
    clear hv hsh h h' hl hn hll HRES
    unfold Sp.v at HDO HDN HOUT HSTART
    go_enter Try.func11, Try.ntmps11
    go_wp2_with fail
    refine HV.out.mono ?_
    rintro e w1 ⟨rfl, hb1⟩
    have HB1 := hid hb1
    clear hb1
    go_wp2_with fail
    refine (HSTART.out _).mono ?_
    rintro e w2 ⟨q, rfl, hrd, hb2⟩
    go_wp2_with fail
    have hbs := HB1.out.size
    have hst : (w2.alloc (.cells #[.slice q.a0 (start3 p 0).pc.length q.c0, .slice q.a1 (start3 p 0).regs.length q.c1, .slice q.a2 (start3 p 0).mem.length q.c2, .slice q.a3 (start3 p 0).buf.length q.c3] 44)).heap[w2.heap.size]? = some (.cells (q.cs (start3 p 0)) 44 (0, 0)) := heap_alloc_new w2 _
    have hs2 := hb2.size
    have hb3 := ((HB1.out.trans (hb2.mono (by omega))).alloc (by omega) (.cells #[.slice q.a0 (start3 p 0).pc.length q.c0, .slice q.a1 (start3 p 0).regs.length q.c1, .slice q.a2 (start3 p 0).mem.length q.c2, .slice q.a3 (start3 p 0).buf.length q.c3] 44))
    have hr3 := hrd.rd.below ((Below.refl w2.heap.size w2).alloc (Nat.le_refl _) (.cells #[.slice q.a0 (start3 p 0).pc.length q.c0, .slice q.a1 (start3 p 0).regs.length q.c1, .slice q.a2 (start3 p 0).mem.length q.c2, .slice q.a3 (start3 p 0).buf.length q.c3] 44))
    obtain ⟨w3, hw3⟩ : ∃ w3, w3 = w2.alloc (.cells #[.slice q.a0 (start3 p 0).pc.length q.c0, .slice q.a1 (start3 p 0).regs.length q.c1, .slice q.a2 (start3 p 0).mem.length q.c2, .slice q.a3 (start3 p 0).buf.length q.c3] 44) := ⟨_, rfl⟩
    rw [← hw3] at hst hb3 hr3 ⊢
    have hs3 : w3.heap.size = w2.heap.size + 1 := by rw [hw3]; simp
    have HREL0 := hid (show ∃ (q : Sp) (s : St), follow (moves3 p) (fun s m => do3 p s m.toNat) (start3 p 0) (ms.take 0) = some s ∧ w3.heap[w2.heap.size]? = some (.cells (q.cs s) 44 (0, 0)) ∧ RdS w3 q s ∧ Good p s ∧ s.buf = [] from
      ⟨q, start3 p 0, by simp [follow], hst, hr3, good_start p 0, by simp [start3]⟩)
    have HB3 := hid hb3
    clear hst hrd hb2 hb3 hr3 hw3
    go_loopw [7] (fun i wr => ∃ k : Nat, k ≤ l ∧ i = .int .i64 k ∧ Hid (∃ (q : Sp) (s : St), follow (moves3 p) (fun s m => do3 p s m.toNat) (start3 p 0) (ms.take k) = some s ∧ wr.heap[w2.heap.size]? = some (.cells (q.cs s) 44 (0, 0)) ∧ RdS wr q s ∧ Good p s ∧ s.buf = []) ∧ Hid (Below w.heap.size w wr)) (fun i _ => l - (intOf i).toNat)
    case atStart => exact ⟨0, Nat.zero_le _, rfl, HREL0, HB3⟩
    case round =>
      obtain ⟨k, hk, rfl, HR, HB⟩ := hrel
      obtain ⟨⟨e0, f0, e1, f1, e2, f2, e3, f3⟩, s, hfo, hgr, hrd, hgood, hbuf⟩ := HR.out
      dsimp only [Sp.cs] at hgr
      have HFO := hid hfo
      have HGR := hid hgr
      have HRD := hid hrd
      have HGD := hid hgood
      have HBF := hid hbuf
      clear HR hfo hgr hrd hgood hbuf
      by_cases hlt : k < l
      · have hkm : k < ms.length := by rw [← HN.out.2]; exact hlt
        obtain ⟨b, off, hab, hbl, hc⟩ := HRM.out.int k hkm
        subst hab
        obtain ⟨m, hm⟩ : ∃ m, m = ms[k] := ⟨_, rfl⟩
        rw [← hm] at hc
        have HX := hid (show ms[k]? = some m by rw [hm]; exact List.getElem?_eq_getElem hkm)
        have hcm := (HB.out.cell (p := ⟨b, off + k, none⟩) hbl).trans hc
        have cs : (wr.cell? ⟨w2.heap.size, 0, none⟩ = some (.slice e0 s.pc.length f0) ∧ wr.cell? ⟨w2.heap.size, 1, none⟩ = some (.slice e1 s.regs.length f1) ∧ wr.cell? ⟨w2.heap.size, 2, none⟩ = some (.slice e2 s.mem.length f2) ∧ wr.cell? ⟨w2.heap.size, 3, none⟩ = some (.slice e3 s.buf.length f3)) := by
          have e := fun (i : Nat) => cell_of_row wr w2.heap.size i _ _ _ HGR.out
          exact ⟨e 0, e 1, e 2, e 3⟩
        clear hc hm hkm hbl
        have STOP := hid (fun (h : m ∉ moves3 p s) => show runRes (done3 p) out3 (seqRun p ms) = ([], false) by unfold seqRun; rw [follow_stop HFO.out HX.out h]; rfl)
        by_cases hneg : m < 0
        · have hst := STOP.out (fun h => by obtain ⟨t, ht, _⟩ := (mem_moves3 m).1 h; omega)
          have HST := hid hst
          clear hst STOP
          have d0 : decide (m < 0) = true := decide_eq_true hneg
          go_wp2_with fail
          go_quiet (fail)
          go_wp2
          go_ret2
          rw [HST.out]
          exact ⟨_, 0, rfl, own_lit0 wr _ _ 1 HB.out.size, below_drewN _ (HB.out.alloc HB.out.size _)⟩
        · obtain ⟨t, rfl⟩ : ∃ t : Nat, m = t := ⟨m.toNat, by omega⟩
          have d0 : decide ((t : Int) < 0) = false := decide_eq_false (by omega)
          by_cases hge : n ≤ t
          · have HST := hid (STOP.out (fun h => by obtain ⟨t', ht, h2, _⟩ := (mem_moves3 _).1 h; have := HN.out.1; omega))
            have d1 : decide ((n : Int) ≤ (t : Int)) = true := decide_eq_true (by omega)
            clear STOP
            go_wp2_with fail
            go_quiet (fail)
            go_wp2
            go_ret2
            rw [HST.out]
            exact ⟨_, 0, rfl, own_lit0 wr _ _ 1 HB.out.size, below_drewN _ (HB.out.alloc HB.out.size _)⟩
          · have d1 : decide ((n : Int) ≤ (t : Int)) = false := decide_eq_false (by omega)
            have htn : t < n := by omega
            obtain ⟨pb, po, r, rc, xs, hpa, hpl, hxs, hpc, _, _⟩ := HRP.out.at' t (by rw [← HN.out.1]; exact htn)
            subst hpa
            obtain ⟨sb, so, j, hsa, hsl, hj, hjl, hsc⟩ := HRD.out.pcAt HGD.out hxs
            have HGO := hid (goes_of hxs hj)
            have c1 := (HB.out.cell (p := ⟨pb, po + t, none⟩) hpl).trans hpc
            obtain ⟨z, hz⟩ : ∃ z, z = xs.length := ⟨_, rfl⟩
            rw [← hz] at c1 hjl HGO
            have hsa : e0 = some ⟨sb, so, none⟩ := hsa
            subst hsa
            have htq : t < s.pc.length := by rw [HGD.out.pcl, ← HN.out.1]; exact htn
            clear hpc hxs hj hz hpl hsl
            by_cases hjz : j < z
            · have d2 : ((j : Int) == (z : Int)) = false := by simp; omega
              rw [decide_eq_true hjz] at HGO
              go_wp2_with fail
              go_quiet (fail)
              have HMV := hid (show ((t : Nat) : Int) ∈ moves3 p s from (mem_moves3 _).2 ⟨t, rfl, by have := HN.out.1; omega, HGO.out⟩)
              clear STOP
              go_wp2_with fail
              refine (HDO.out _ ⟨some ⟨sb, so, none⟩, f0, e1, f1, e2, f2, e3, f3⟩ s t ?_ ?_ HGD.out HBF.out HGO.out).mono ?_
              · exact HRP.out.below (below_drewN _ HB.out)
              · exact HRD.out.below (below_drewN _ (Below.refl _ _))
              rintro e w4 ⟨q', rfl, hfr, hb4⟩
              have hg6 : w2.heap.size < wr.heap.size := (Array.getElem?_eq_some_iff.1 HGR.out).1
              have HG4 := hid ((hb4.block _ hg6).trans HGR.out)
              have hb4' : Below wr.heap.size wr w4 := (below_drewN nq (Below.refl wr.heap.size wr)).trans hb4
              have HR5 := hid (show ∃ (q : Sp) (s' : St), follow (moves3 p) (fun s m => do3 p s m.toNat) (start3 p 0) (ms.take (k + 1)) = some s' ∧ (w4.setRow w2.heap.size (q'.cs (do3 p s t))).heap[w2.heap.size]? = some (.cells (q.cs s') 44 (0, 0)) ∧ RdS (w4.setRow w2.heap.size (q'.cs (do3 p s t))) q s' ∧ Good p s' ∧ s'.buf = [] from by
                refine ⟨q', do3 p s t, follow_step HFO.out HX.out HMV.out, setRow_heap _ _ _ _ _ _ HG4.out, (hfr.keeps (keeps_setRow w4 w2.heap.size _) (fun b hb e => ?_)).rd, HGD.out.do3 HSH.out HGO.out, HBF.out⟩
                have hb : wr.heap.size ≤ b := hb
                omega)
              have HB5 := hid (show Below w.heap.size w (w4.setRow w2.heap.size (q'.cs (do3 p s t))) from Proofs.Ytbncmeggnhggkaa.Below.keeps (HB.out.trans (hb4'.mono HB.out.size)) (keeps_setRow w4 w2.heap.size _) (by have := hb4'.size; have := HB.out.size; omega) (fun x e => by omega))
              clear hfr hb4 hb4' hjz d0 d1 d2 c1 hcm cs
              go_wp2_with (refine wpList_store_row rfl 44 (.tmp 6) (.tmp 50) rfl w2.heap.size (q'.cs (do3 p s t)) rfl rfl 44 _ HG4.out (by kernel_rfl) rfl (DoI.one _ _) ?_)
              go_roundw
              case rel => exact ⟨k + 1, by omega, by go_num, HR5, HB5⟩
              case measure => simp [intOf]; omega
            · have d2 : ((j : Int) == (z : Int)) = true := by simp; omega
              rw [decide_eq_false hjz] at HGO
              have HST := hid (STOP.out (fun h => by obtain ⟨t', ht, _, h2⟩ := (mem_moves3 _).1 h; have e : t = t' := by omega
                                                     subst e; rw [HGO.out] at h2; cases h2))
              clear STOP
              go_wp2_with fail
              go_quiet (fail)
              go_wp2
              go_ret2
              rw [HST.out]
              exact ⟨_, 0, rfl, own_lit0 wr _ _ 1 HB.out.size, below_drewN _ (HB.out.alloc HB.out.size _)⟩
      · have HALL := hid (follow_all HFO.out (show ms.length ≤ k by have := HN.out.2; omega))
        have cs : (wr.cell? ⟨w2.heap.size, 0, none⟩ = some (.slice e0 s.pc.length f0) ∧ wr.cell? ⟨w2.heap.size, 1, none⟩ = some (.slice e1 s.regs.length f1) ∧ wr.cell? ⟨w2.heap.size, 2, none⟩ = some (.slice e2 s.mem.length f2) ∧ wr.cell? ⟨w2.heap.size, 3, none⟩ = some (.slice e3 s.buf.length f3)) := by
          have e := fun (i : Nat) => cell_of_row wr w2.heap.size i _ _ _ HGR.out
          exact ⟨e 0, e 1, e 2, e 3⟩
        have hg6 : w2.heap.size < wr.heap.size := (Array.getElem?_eq_some_iff.1 HGR.out).1
        have HRS := hid (show runRes (done3 p) out3 (seqRun p ms) = if done3 p s then (out3 s, true) else ([], false) from by
          unfold seqRun
          rw [HALL.out]
          rfl)
        have HD1 := hid (HDN.out wr ⟨e0, f0, e1, f1, e2, f2, e3, f3⟩ s (HRP.out.below HB.out) HRD.out HGD.out)
        by_cases hd : done3 p s = true
        · rw [hd] at HD1
          have HRS2 := hid (HRS.out.trans (if_pos hd))
          go_wp2_with fail
          refine HD1.out.mono ?_
          rintro e w4 ⟨rfl, hb4⟩
          have hg4 := (hb4.block _ hg6).trans HGR.out
          have c4 : (w4.cell? ⟨w2.heap.size, 0, none⟩ = some (.slice e0 s.pc.length f0) ∧ w4.cell? ⟨w2.heap.size, 1, none⟩ = some (.slice e1 s.regs.length f1) ∧ w4.cell? ⟨w2.heap.size, 2, none⟩ = some (.slice e2 s.mem.length f2) ∧ w4.cell? ⟨w2.heap.size, 3, none⟩ = some (.slice e3 s.buf.length f3)) := by
            have e := fun (i : Nat) => cell_of_row w4 w2.heap.size i _ _ _ hg4
            exact ⟨e 0, e 1, e 2, e 3⟩
          have HRD4 := hid (HRD.out.below hb4)
          have HB4 := hid (HB.out.trans (hb4.mono HB.out.size))
          clear hb4 hg4 hd cs
          go_wp2_with fail
          refine (HOUT.out _ ⟨e0, f0, e1, f1, e2, f2, e3, f3⟩ s HRD4.out HGD.out).mono ?_
          rintro e w5 ⟨a5, c5, rfl, hown5, hb5⟩
          have HO5 := hid hown5
          have HB5 := hid hb5
          clear hown5 hb5 c4
          go_wp2
          go_ret2
          rw [HRS2.out]
          exact ⟨a5, c5, rfl, own_base HO5.out HB4.out.size, HB4.out.trans (HB5.out.mono HB4.out.size)⟩
        · have hd : done3 p s = false := by simpa using hd
          rw [hd] at HD1
          have HRS2 := hid (HRS.out.trans (if_neg (by rw [hd]; decide)))
          go_wp2_with fail
          refine HD1.out.mono ?_
          rintro e w4 ⟨rfl, hb4⟩
          have HB4 := hid (HB.out.trans (hb4.mono HB.out.size))
          clear hb4 hd cs
          go_wp2
          go_ret2
          rw [HRS2.out]
          exact retLB_lit HB4.out
  · have hv : progValid p = false := by simpa using hv
    rw [hv] at HV
    have HRES := hid (show runSch p ms = ([], false) by unfold runSch; rw [hv]; rfl)
    rw [HRES.out]
    clear hv h h' hl hl' HRES
    go_enter Try.func11, Try.ntmps11
    go_wp2_with fail
    refine HV.out.mono ?_
    rintro e w1 ⟨rfl, hb1⟩
    have HB1 := hid hb1
    clear hb1
    go_wp2
    go_ret2
    exact retLB_lit HB1.out
end Go.Proofs.Ytbncmeggnhggkaa
