/-
  PROVED HERE: what spec.l3Done, l3Outcome do. what spec.RunSchedule does. CONDITIONS: as each theorem states.
-/
import Derived.Test.YtloghcfkjcbjlaaSpe
import Derived.Test.YtloghcfkjcbjlaaChn
import Derived.Test.YtloghcfkjcbjlaaBf
namespace Go.Proofs.Ytloghcfkjcbjlaa
open Go.RowKit
set_option linter.unusedVariables false
set_option linter.unusedSimpArgs false

/-- Where thread t's place stands. -/
theorem RdS.pcAt {w : World} {q : Sp} {s : St} {p : Prg} (h : RdS w q s) (hg : Good p s) {t : Nat} {xs : List Ins} (hx : p[t]? = some xs) :
    ∃ (b off k : Nat), q.a0 = some ⟨b, off, none⟩ ∧ b < w.heap.size ∧ s.pc[t]? = some (k : Int) ∧ k ≤ xs.length ∧ w.cell? ⟨b, off + t, none⟩ = some (.int .i64 k) := by
  obtain ⟨k, hk, hl⟩ := hg.pcb t xs hx
  obtain ⟨ht, he⟩ := List.getElem?_eq_some_iff.1 hk
  obtain ⟨b, off, h1, h2, h3⟩ := h.pc.int t ht
  rw [he] at h3
  exact ⟨b, off, k, h1, h2, hk, hl, h3⟩

set_option maxHeartbeats 1600000 in
theorem l3Done_c (w : World) (a : Option Addr) (cap : Nat) (p : Prg) (q : Sp) (s : St) (hp : RdP w a p) (h : RdS w q s) (hv : Shape p) (hg : Good p s) :
    Calls Try.prog 55 #[.slice a p.length cap, q.v s] w fun e w' => e = .returned (.bool (done3 p s)) ∧ Below w.heap.size w w' := by
  obtain ⟨a0, c0, a1, c1, a2, c2, a3, c3⟩ := q
  obtain ⟨n, hn⟩ : ∃ n, n = p.length := ⟨_, rfl⟩
  obtain ⟨m, hm⟩ : ∃ m, m = s.pc.length := ⟨_, rfl⟩
  have HN := hid hn
  have hnm : m = n := by rw [hm, hn]; exact hg.pcl
  have HNM := hid hnm
  have hn3 : n ≤ 3 := by rw [hn]; exact hv.len
  have HNO := hid (fun t (h : goes p s t = true) (ht : t < n) => show done3 p s = false from by
    unfold done3
    rw [List.all_eq_false]
    exact ⟨t, List.mem_range.2 (by omega), by simp [h]⟩)
  have HYES := hid (fun (h : ∀ t, t < n → goes p s t = false) => show done3 p s = true from by
    unfold done3
    rw [List.all_eq_true]
    intro t ht
    rw [h t (by have := List.mem_range.1 ht; omega)]; rfl)
  have HP := hid hp
  have HS := hid h
  have HG := hid hg
  unfold Sp.v
  dsimp only
  rw [← hn, ← hm]
  clear hn hm hnm hp h hg hv
  go_enter Try.func55, Try.ntmps55
  go_wp2_with fail
  obtain ⟨w1, hw1⟩ : ∃ w1, w1 = w.alloc (.cells #[.slice a0 m c0, .slice a1 s.regs.length c1, .slice a2 s.mem.length c2, .slice a3 s.buf.length c3] 53) := ⟨_, rfl⟩
  rw [← hw1]
  have hb1 : Below w.heap.size w w1 := by rw [hw1]; exact (Below.refl _ _).alloc (Nat.le_refl _) _
  have hc1 : w1.cell? ⟨w.heap.size, 0, none⟩ = some (.slice a0 m c0) := by rw [hw1]; simp
  have HB1 := hid hb1
  have hlt1 : w.heap.size < w1.heap.size := by rw [hw1]; simp
  clear hb1 hw1
  go_loopw [5] (fun i wr => ∃ k : Nat, k ≤ n ∧ i = .int .i64 k ∧ Hid (∀ t, t < k → goes p s t = false) ∧ Hid (Below w1.heap.size w1 wr)) (fun i _ => n - (intOf i).toNat)
  case atStart => exact ⟨0, Nat.zero_le _, rfl, hid (fun t ht => by omega), hid (Below.refl _ _)⟩
  case round =>
    obtain ⟨k, hk, rfl, HK, HB⟩ := hrel
    have HBW := hid (HB1.out.trans (HB.out.mono (by omega)))
    by_cases hlt : k < n
    · obtain ⟨b, off, r, rc, xs, hab, hbl, hxs, hcell, _, _⟩ := HP.out.at' k (by rw [← HN.out]; exact hlt)
      subst hab
      obtain ⟨sb, so, j, hsa, hsl, hj, hjl, hsc⟩ := HS.out.pcAt HG.out hxs
      have hsa : a0 = some ⟨sb, so, none⟩ := hsa
      subst hsa
      have HGO := hid (goes_of hxs hj)
      have c1 := (HBW.out.cell (p := ⟨b, off + k, none⟩) hbl).trans hcell
      have c2 := (HBW.out.cell (p := ⟨sb, so + k, none⟩) hsl).trans hsc
      have c3 := (HB.out.cell (p := ⟨w.heap.size, 0, none⟩) hlt1).trans hc1
      have hkm : k < m := by rw [HNM.out]; exact hlt
      obtain ⟨l, hl⟩ : ∃ l, l = xs.length := ⟨_, rfl⟩
      rw [← hl] at c1 hjl HGO
      clear hcell hsc hxs hj hl hbl hsl
      by_cases hjl2 : j < l
      · rw [decide_eq_true hjl2] at HGO
        go_wp2_with fail
        refine wp_region_mix (by kernel_rfl) (by kernel_rfl) ?_
        go_wp2_with (first | (with_reducible refine wpMix_nil ?_) | (with_reducible refine wpMix_rd rfl rfl (fun K hK => ?_); go_simp; (try go_bits); refine hK _ ?_; clear hK K))
        go_ret
        exact ⟨ret_bool (HNO.out k HGO.out hlt).symm, below_drewN 1 HBW.out⟩
      · rw [decide_eq_false hjl2] at HGO
        have hjl3 : ¬ ((j : Int) < (l : Int)) := by omega
        go_wp2_with fail
        refine wp_region_mix (by kernel_rfl) (by kernel_rfl) ?_
        go_wp2_with (first | (with_reducible refine wpMix_nil ?_) | (with_reducible refine wpMix_rd rfl rfl (fun K hK => ?_); go_simp; (try go_bits); refine hK _ ?_; clear hK K))
        go_roundw
        case rel => exact ⟨k + 1, by omega, by go_num, hid (fun t ht => by
          by_cases e : t = k
          · rw [e]; exact HGO.out
          · exact HK.out t (by omega)), hid (below_drewN 1 HB.out)⟩
        case measure => simp [intOf]; omega
    · go_wp2
      go_ret
      exact ⟨ret_bool (HYES.out fun t ht => HK.out t (by omega)).symm, HBW.out⟩

def outR (w1 : World) (s : St) (m : Nat) (ρ : Nat → Value) (w : World) : Prop :=
  if m = 1 then IsLit w1 w 3 (ρ 0) else if m = 2 then IsOwn w1.heap.size s.regs w (ρ 3) else if m = 3 then IsOwn w1.heap.size (s.regs ++ s.mem) w (ρ 6) else True
set_option maxRecDepth 100000 in
set_option maxHeartbeats 1600000 in
theorem l3Outcome_c (w : World) (q : Sp) (s : St) (h : RdS w q s) (l1 : s.regs.length ≤ 1000) (l2 : s.mem.length ≤ 1000) :
    Calls Try.prog 34 #[q.v s] w fun e w' => ∃ a cap, e = .returned (.slice a (out3 s).length cap) ∧ OwI w' w.heap.size a cap (out3 s) ∧ Below w.heap.size w w' := by
  obtain ⟨a0, c0, a1, c1, a2, c2, a3, c3⟩ := q
  obtain ⟨n1, hn1⟩ : ∃ n, n = s.regs.length := ⟨_, rfl⟩
  obtain ⟨n2, hn2⟩ : ∃ n, n = s.mem.length := ⟨_, rfl⟩
  have HN := hid (And.intro hn1 hn2)
  have HL := hid (show (out3 s).length = n1 + n2 by rw [hn1, hn2]; simp [out3])
  have HRD := hid h
  unfold OwI
  rw [HL.out]
  unfold Sp.v
  dsimp only
  rw [← hn1] at l1
  rw [← hn2] at l2
  rw [← hn1, ← hn2]
  clear hn1 hn2 h
  go_enter Try.func34, Try.ntmps34
  go_wp2_with fail
  obtain ⟨w1, hw1⟩ : ∃ w1, w1 = w.alloc (.cells #[.slice a0 s.pc.length c0, .slice a1 n1 c1, .slice a2 n2 c2, .slice a3 s.buf.length c3] 53) := ⟨_, rfl⟩
  rw [← hw1]
  have hb1 : Below w.heap.size w w1 := by rw [hw1]; exact (Below.refl _ _).alloc (Nat.le_refl _) _
  have hg1 : w1.heap[w.heap.size]? = some (.cells #[.slice a0 s.pc.length c0, .slice a1 n1 c1, .slice a2 n2 c2, .slice a3 s.buf.length c3] 53 (0, 0)) := by rw [hw1]; exact heap_alloc_new w _
  have hs1 : w1.heap.size = w.heap.size + 1 := by rw [hw1]; simp
  have HB1 := hid hb1
  have HG1 := hid hg1
  obtain ⟨J, hJ⟩ : ∃ J : World → Prop, J = fun w' => Below w1.heap.size w1 w' := ⟨_, rfl⟩
  have HJ := hid (fun w' (h : Below w1.heap.size w1 w') => show J w' by rw [hJ]; exact h)
  have HJB := hid (fun w' (h : J w') => show Below w1.heap.size w1 w' by rw [hJ] at h; exact h)
  have HC := hid (fun w' (h : J w') => show w'.cell? ⟨w.heap.size, 1, none⟩ = some (.slice a1 n1 c1) ∧ w'.cell? ⟨w.heap.size, 2, none⟩ = some (.slice a2 n2 c2) from by
    rw [hJ] at h
    have e := fun (i : Nat) => cell_of_row w' w.heap.size i _ _ _ ((h.block w.heap.size (by omega)).trans HG1.out)
    exact ⟨e 1, e 2⟩)
  have HJI := hid (fun S ρ w' (h : ChI [0, 3, 6] (outR w1 s) J S ρ w') => h.j)
  clear hb1 hg1 hw1 hJ
  refine FR.wp_region_free 7 (ChI [0, 3, 6] (outR w1 s) J) (by kernel_rfl) (by kernel_rfl) (by kernel_rfl) (fun _ => undef) (ChI.start (HJ.out _ (below_drewN 1 (Below.refl _ _))) trivial) fun V => ?_
  refine FR.frGo_act (k := 0) _ rfl (fun S ρ w' hI hS hp K hK => ?_) ?_
  · go_simp
    have hb := HJB.out w' hI.j
    refine hK _ _ (hI.next (i := 0) (by decide) rfl hS (by simp) (HJ.out _ (hb.alloc hb.size _)) ?_)
    show IsLit w1 _ 3 (FR.upd ρ 0 _ 0)
    rw [FR.upd_same]
    exact IsLit.new w1 w' _ hb.size
  (refine FR.frGo_pure _ rfl (fun K hK => ?_); go_simp; (first | refine hK _ ?_ | refine ⟨_, fun W hW => rfl, hK _ ?_⟩ | refine ⟨_, fun W hW => ⟨rfl, rfl⟩, hK _ ?_⟩); clear hK K)
  (refine FR.frGo_held _ rfl J (fun S ρ w' h _ => HJI.out S ρ w' h) (fun K hK => ?_); go_simp; apply Exists.intro; refine And.intro (fun W hW => ?_) (hK _ ?_); (focus (have hcs := HC.out W hW; go_simp; try rfl)); clear hK K)
  refine FR.frGo_act (k := 3) _ rfl (fun S ρ w' hI hS hp K hK => ?_) ?_
  · have hp0 := hp 0 (by kernel_rfl)
    have hb := HJB.out w' hI.j
    have q0 : IsLit w1 w' 3 (ρ 0) := hI.at (i := 1) (by decide) rfl hS (by simpa using hp0.1)
    rw [hp0.2] at q0
    refine oper_append_lit w1 _ _ 24 rfl 3 (.int .i64 0) 1 8 Try.underlying24 Try.info_int rfl (by decide) (V 0) rfl q0 a1 n1 c1 (ints s.regs) rfl ((HRD.out.regs.below HB1.out).below hb) (by simp [HN.out.1]) (ints_one _ _) (by omega) (by decide) ?_
    intro a' c' w'' hown hb2 hat
    refine hK _ _ (hI.next (i := 1) (by decide) rfl hS (by simpa using hp0.1) (HJ.out _ (hb.trans (hb2.mono hb.size))) ?_)
    show IsOwn w1.heap.size s.regs _ (FR.upd ρ 3 _ 3)
    rw [FR.upd_same]
    exact ⟨a', c', by rw [HN.out.1], by rw [← HN.out.1]; exact hown⟩
  (refine FR.frGo_pure _ rfl (fun K hK => ?_); go_simp; (first | refine hK _ ?_ | refine ⟨_, fun W hW => rfl, hK _ ?_⟩ | refine ⟨_, fun W hW => ⟨rfl, rfl⟩, hK _ ?_⟩); clear hK K)
  (refine FR.frGo_held _ rfl J (fun S ρ w' h _ => HJI.out S ρ w' h) (fun K hK => ?_); go_simp; apply Exists.intro; refine And.intro (fun W hW => ?_) (hK _ ?_); (focus (have hcs := HC.out W hW; go_simp; try rfl)); clear hK K)
  refine FR.frGo_act (k := 6) _ rfl (fun S ρ w' hI hS hp K hK => ?_) ?_
  · have hp0 := hp 0 (by kernel_rfl)
    have hp3 := hp 3 (by kernel_rfl)
    have hb := HJB.out w' hI.j
    have hpr : ∀ j ∈ ([0, 3, 6] : List Nat).take 2, S j = true := by
      intro j hj
      simp at hj
      rcases hj with rfl | rfl
      · exact hp0.1
      · exact hp3.1
    have q3 : IsOwn w1.heap.size s.regs w' (ρ 3) := hI.at (i := 2) (by decide) rfl hS hpr
    rw [hp3.2] at q3
    obtain ⟨b3, d3, e3, o3⟩ := q3
    rw [← HN.out.1] at e3 o3
    rw [e3] at o3
    refine oper_append_rd _ _ 24 rfl w1.heap.size 3 (.int .i64 0) 1 8 Try.underlying24 Try.info_int rfl (by decide) (.slice b3 n1 d3) n1 (ints s.regs) e3 o3 a2 n2 c2 (ints s.mem) rfl ((HRD.out.mem.below HB1.out).below hb) (by simp [HN.out.2]) (ints_one _ _) (by omega) (by decide) hb.size ?_
    intro a' c' w'' hown hg hat
    rw [ownBlock_slice] at hg
    refine hK _ _ (hI.next (i := 2) (by decide) rfl hS hpr (HJ.out _ (hb.grown hg hb.size fun b hb' => (own_blk o3 b hb').1)) ?_)
    show IsOwn w1.heap.size (s.regs ++ s.mem) _ (FR.upd ρ 6 _ 6)
    rw [FR.upd_same]
    have el : (s.regs ++ s.mem).length = n1 + n2 := by rw [List.length_append, ← HN.out.1, ← HN.out.2]
    exact ⟨a', c', by rw [el], by rw [el]; simpa [ints] using hown⟩
  refine FR.frGo_nil _ ?_
  intro S ρ w2 hI hS
  have h0 := hS 0 (by decide) (by kernel_rfl)
  have h3 := hS 3 (by decide) (by kernel_rfl)
  have h6 := hS 6 (by decide) (by kernel_rfl)
  have hall : ∀ j ∈ ([0, 3, 6] : List Nat), S j = true := by
    intro j hj
    simp at hj
    rcases hj with rfl | rfl | rfl
    · exact h0.1
    · exact h3.1
    · exact h6.1
  have q6 : IsOwn w1.heap.size (s.regs ++ s.mem) w2 (ρ 6) := hI.done (by decide) hall
  rw [h6.2] at q6
  obtain ⟨b6, d6, e6, o6⟩ := q6
  have el : (s.regs ++ s.mem).length = n1 + n2 := by rw [List.length_append, ← HN.out.1, ← HN.out.2]
  have hb2 := HJB.out w2 hI.j
  rw [el] at e6 o6
  rw [e6] at o6 ⊢
  have HO := hid o6
  have HB2 := hid hb2
  clear hall hI hS h0 h3 h6 e6 o6 el hb2
  refine wpMix_rd rfl rfl (fun K hK => ?_)
  go_simp
  refine hK _ ?_
  clear hK K
  (with_reducible refine wpMix_nil ?_)
  go_wp2
  go_ret
  exact ⟨b6, d6, rfl, own_base HO.out (by omega), HB1.out.trans (HB2.out.mono (by omega))⟩
end Go.Proofs.Ytloghcfkjcbjlaa
namespace Go.Proofs.Ytloghcfkjcbjlaa
open Go.RowKit
set_option linter.unusedVariables false
set_option linter.unusedSimpArgs false

theorem small_nil {s : St} (h : s.buf = []) : Small s := ⟨by rw [h]; simp, by rw [h]; simp⟩

end Go.Proofs.Ytloghcfkjcbjlaa
