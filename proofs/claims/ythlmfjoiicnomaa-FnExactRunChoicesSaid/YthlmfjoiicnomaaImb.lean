/-
  PROVED HERE: what (*values).stored, allDone do. CONDITIONS: as each theorem states.
-/
import Derived.Test.YthlmfjoiicnomaaIma
namespace Go.Proofs.Ythlmfjoiicnomaa
open Go.RowKit
set_option linter.unusedVariables false
set_option linter.unusedSimpArgs false

theorem goes_thr {p : Prg} {s : St} (hg : Good p s) {t : Nat} (h : goes p s t = true) : t < p.length := by
  by_cases ht : t < p.length
  · exact ht
  · exfalso
    unfold goes at h
    simp only [decide_eq_true_eq, List.getD_eq_getElem?_getD] at h
    have e1 : p[t]? = none := List.getElem?_eq_none (by omega)
    have e2 : s.pc[t]? = none := List.getElem?_eq_none (by rw [hg.pcl]; omega)
    rw [e1, e2] at h
    simp at h

set_option maxHeartbeats 1600000 in
theorem stored_c (w : World) (g : Nat) (p : Prg) (s : St) (t : Nat) (x : Ins) (h : VAt w g p s) (hv : Shape p) (ht : t < p.length) (hx : insValid x = true) :
    Calls Try.prog 139 #[.pointer (some ⟨g, 0, none⟩), .int .i64 t, x.v] w fun e w' => e = .returned (.int .u8 (wval s t x)) ∧ Below w.heap.size w w' := by
  obtain ⟨a, cap, hrp, h0, _, hreg, _⟩ := h.cells hv
  obtain ⟨rn, hrn, hr2⟩ := valid_reg hx
  have hval := valid_val hx
  obtain ⟨op, loc, reg, val⟩ := x
  have hrn : reg = rn := hrn
  subst hrn
  have hval : 0 ≤ val ∧ val ≤ 3 := hval
  have hn3 : p.length ≤ 3 := hv.len
  have ht3 : (t : Int) < 3 := by omega
  have hr3 : (rn : Int) < 3 := by omega
  have hil : t * 3 + rn < s.regs.length := by rw [h.good.regl]; omega
  obtain ⟨rv, hrv⟩ : ∃ rv, s.regs[t * 3 + rn]? = some rv := ⟨_, List.getElem?_eq_getElem hil⟩
  have hc := hreg _ _ hrv
  rw [← Nat.add_assoc] at hc
  have hgl : g < w.heap.size := World.block_lt_of_cell? w ⟨g, 0, none⟩ h0
  have HW := hid (show wval s t ⟨op, loc, rn, val⟩ = if op = 3 then rv else val from by
    unfold wval
    simp [List.getD_eq_getElem?_getD, hrv])
  clear hreg hrp h hv hrv h0 hx
  by_cases h3 : op = 3
  · subst h3
    rw [if_pos rfl] at HW
    rw [HW.out]
    go_enter Try.func139, Try.ntmps139
    go_wp2_with fail
    refine wp_region_mix (by kernel_rfl) (by kernel_rfl) ?_
    go_wp2_with (first | (with_reducible refine wpMix_nil ?_) | (with_reducible refine wpMix_rd rfl rfl (fun K hK => ?_); go_simp; (try go_bits); refine hK _ ?_; clear hK K))
    go_ret
    exact ⟨rfl, below_drewN 1 ((Below.refl _ _).alloc (Nat.le_refl _) _)⟩
  · rw [if_neg h3] at HW
    rw [HW.out]
    have hw : IntKind.u8.wrap val = val := IntWalk.u8_in _ (by omega)
    go_enter Try.func139, Try.ntmps139
    go_wp2
    go_ret
    exact ⟨by first | rfl | rw [hw], (Below.refl _ _).alloc (Nat.le_refl _) _⟩

set_option maxHeartbeats 1600000 in
theorem allDone_c (w : World) (g : Nat) (p : Prg) (s : St) (h : VAt w g p s) (hv : Shape p) :
    Calls Try.prog 130 #[.pointer (some ⟨g, 0, none⟩)] w fun e w' => e = .returned (.bool (done3 p s)) ∧ Below w.heap.size w w' := by
  obtain ⟨a, cap, hrp, h0, _, _, _⟩ := h.cells hv
  have HAT := hid h
  have HNX := hid (fun w (h : VAt w g p s) (t : Nat) (ht : t < p.length) => next_c w g p s t h hv ht)
  obtain ⟨n, hn⟩ : ∃ n, n = p.length := ⟨_, rfl⟩
  have hn3 : n ≤ 3 := by rw [hn]; exact hv.len
  rw [← hn] at h0 HNX
  have hgl : g < w.heap.size := World.block_lt_of_cell? w ⟨g, 0, none⟩ h0
  have HNO := hid (fun t (h : goes p s t = true) (ht : t < n) => show done3 p s = false from by
    unfold done3
    rw [List.all_eq_false]
    exact ⟨t, List.mem_range.2 (by omega), by simp [h]⟩)
  have HYES := hid (fun (h : ∀ t, t < n → goes p s t = false) => show done3 p s = true from by
    unfold done3
    rw [List.all_eq_true]
    intro t ht
    rw [h t (by have := List.mem_range.1 ht; omega)]; rfl)
  clear hn h hv hrp
  go_enter Try.func130, Try.ntmps130
  go_wp2_with fail
  go_loopw [11] (fun i wr => ∃ k : Nat, k ≤ n ∧ i = .int .i64 k ∧ Hid (∀ t, t < k → goes p s t = false) ∧ Hid (Below w.heap.size w wr)) (fun i _ => n - (intOf i).toNat)
  case atStart => exact ⟨0, Nat.zero_le _, rfl, hid (fun t ht => by omega), hid (Below.refl _ _)⟩
  case round =>
    obtain ⟨k, hk, rfl, HK, HB⟩ := hrel
    by_cases hlt : k < n
    · have HC := hid (HNX.out wr (HAT.out.below HB.out) k hlt)
      by_cases hgo : goes p s k = true
      · have HF := hid (HNO.out k hgo hlt)
        rw [hgo] at HC
        clear hgo
        go_wp2_with fail
        refine HC.out.mono ?_
        rintro e w2 ⟨rfl, hb2⟩
        have HB2 := hid (HB.out.trans (hb2.mono HB.out.size))
        clear hb2
        go_wp2
        go_ret
        exact ⟨ret_bool HF.out.symm, (HB2.out.alloc HB2.out.size _)⟩
      · have hgo : goes p s k = false := by simpa using hgo
        have HGO := hid hgo
        rw [hgo] at HC
        clear hgo
        go_wp2_with fail
        refine HC.out.mono ?_
        rintro e w2 ⟨rfl, hb2⟩
        have HB2 := hid (HB.out.trans (hb2.mono HB.out.size))
        clear hb2
        go_wp2_with fail
        go_roundw
        case rel => exact ⟨k + 1, by omega, by go_num, hid (fun t ht => by
          by_cases e : t = k
          · rw [e]; exact HGO.out
          · exact HK.out t (by omega)), hid (HB2.out.alloc HB2.out.size _)⟩
        case measure => simp [intOf]; omega
    · go_wp2
      go_ret
      exact ⟨ret_bool (HYES.out fun t ht => HK.out t (by omega)).symm, HB.out⟩
end Go.Proofs.Ythlmfjoiicnomaa
