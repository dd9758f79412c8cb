/-
  PROVED HERE: what spec.l3Reg, l3Value do. CONDITIONS: as each theorem states.
-/
import Derived.Test.YtbncmeggnhggkaaSpb
namespace Go.Proofs.Ytbncmeggnhggkaa
open Go.RowKit
set_option linter.unusedVariables false
set_option linter.unusedSimpArgs false

theorem l3Reg_c (w : World) (t r i : Nat) (hi : i = t * 3 + r) (ht : t ≤ 1000000) (hr : r ≤ 1000000) : Calls Try.prog 64 #[.int .i64 t, .int .i64 r] w fun e w' => e = .returned (.int .i64 (i : Int)) ∧ w' = w := by
  subst hi
  go_enter Try.func64, Try.ntmps64
  go_wp2
  go_ret
  exact ⟨ret_int (by omega), rfl⟩

theorem callReg : ∀ args (w : World), (callFunc 64 args).run Try.prog w = .ok (.enter 64 args) w :=
  fun args w => run_callFunc Try.func64 rfl rfl args w

set_option maxRecDepth 100000 in
set_option maxHeartbeats 1600000 in
theorem l3Value_c (w : World) (q : Sp) (s : St) (t : Nat) (x : Ins) (h : RdS w q s) (hv : insValid x = true) (ht : t * 3 + 3 ≤ s.regs.length) (l1 : s.regs.length ≤ 1000) :
    Calls Try.prog 66 #[q.v s, .int .i64 t, x.v] w fun e w' => e = .returned (.int .i64 (wval s t x)) ∧ Below w.heap.size w w' := by
  obtain ⟨a0, c0, a1, c1, a2, c2, a3, c3⟩ := q
  obtain ⟨rn, hrn, hr2⟩ := valid_reg hv
  obtain ⟨op, loc, reg, val⟩ := x
  have hrn : reg = rn := hrn
  subst hrn
  obtain ⟨b, off, hab, hb, hc⟩ := h.regs.int (t * 3 + rn) (by omega)
  have hab : a1 = some ⟨b, off, none⟩ := hab
  subst hab
  have HW := hid (show wval s t ⟨op, loc, rn, val⟩ = if op = 3 then s.regs[t * 3 + rn]'(by omega) else val from by
    unfold wval
    simp [List.getD_eq_getElem?_getD, List.getElem?_eq_getElem (show t * 3 + rn < s.regs.length by omega)])
  obtain ⟨rv, hrv⟩ : ∃ rv, rv = s.regs[t * 3 + rn]'(by omega) := ⟨_, rfl⟩
  rw [← hrv] at hc HW
  obtain ⟨n1, hn1⟩ : ∃ n, n = s.regs.length := ⟨_, rfl⟩
  obtain ⟨i, hi⟩ : ∃ i, i = t * 3 + rn := ⟨_, rfl⟩
  have HC := hid (fun w (h1 : t ≤ 1000000) (h2 : rn ≤ 1000000) => l3Reg_c w t rn i hi h1 h2)
  unfold Sp.v
  rw [← hn1] at ht l1 ⊢
  rw [← hi] at hc
  have hin : (i : Int) < (n1 : Int) := by omega
  have ht' : t ≤ 1000 := by omega
  clear h hv hrv hn1 hi
  by_cases h3 : op = 3
  · subst h3
    rw [if_pos rfl] at HW
    have hcw := (((Below.refl w.heap.size w).alloc (Nat.le_refl _) (.cells #[.slice a0 s.pc.length c0, .slice (some ⟨b, off, none⟩) n1 c1, .slice a2 s.mem.length c2, .slice a3 s.buf.length c3] 44)).alloc (by simp) (.cells #[.int .i64 3, .int .i64 loc, .int .i64 rn, .int .i64 val] 79)).cell (p := ⟨b, off + i, none⟩) hb
    rw [hc] at hcw
    go_enter Try.func66, Try.ntmps66
    go_wp2_with fail
    refine MQ.wp_region_mix (q := [64]) (by kernel_rfl) (by kernel_rfl) ?_
    go_wp2_with (first | (with_reducible refine MQ.wpMix_nil ?_) | (with_reducible refine MQ.wpMix_rd rfl rfl rfl (fun K hK => ?_); go_simp; (try go_bits); refine hK _ ?_; clear hK K))
    refine MQ.wpMix_call rfl 64 _ _ rfl rfl #[.int .i64 t, .int .i64 rn] (by simp [Act.eval]) (callReg _ _) _ (HC.out _ (by omega) (by omega)) ?_
    go_wp2_with (first | (with_reducible refine MQ.wpMix_nil ?_) | (with_reducible refine MQ.wpMix_rd rfl rfl rfl (fun K hK => ?_); go_simp; (try go_bits); refine hK _ ?_; clear hK K))
    go_ret
    exact ⟨ret_int HW.out.symm, below_drewN 1 (((Below.refl w.heap.size w).alloc (Nat.le_refl _) _).alloc (by simp) _)⟩
  · rw [if_neg h3] at HW
    go_enter Try.func66, Try.ntmps66
    go_wp2
    go_ret
    exact ⟨ret_int HW.out.symm, ((Below.refl w.heap.size w).alloc (Nat.le_refl _) _).alloc (by simp) _⟩
end Go.Proofs.Ytbncmeggnhggkaa
