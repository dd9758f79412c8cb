/-
  PROVED HERE: what spec.l4Buffers, l4Place, l4Empty, l4Seen do. CONDITIONS: as each theorem states.
-/
import Derived.Test.YtbncmeggnhggkaaBf
import Derived.Test.YtbncmeggnhggkaaSpf
namespace Go.Proofs.Ytbncmeggnhggkaa
open Go.RowKit
set_option linter.unusedVariables false
set_option linter.unusedSimpArgs false

theorem l4Buffers_c (w : World) (split : Bool) : Calls Try.prog 89 #[.bool split] w fun e w' => e = .returned (.int .i64 (nb split : Nat)) ∧ w' = w := by
  cases split
  · go_enter Try.func89, Try.ntmps89
    go_wp2
    go_ret
    exact ⟨rfl, rfl⟩
  · go_enter Try.func89, Try.ntmps89
    go_wp2
    go_ret
    exact ⟨rfl, rfl⟩
theorem l4Place_c (w : World) (t loc i : Nat) (split : Bool) (hi : i = place t loc split) (ht : t ≤ 1000) (hl : loc ≤ 1000) : Calls Try.prog 96 #[.int .i64 t, .int .i64 loc, .bool split] w fun e w' => e = .returned (.int .i64 (i : Nat)) ∧ w' = w := by
  subst hi
  cases split
  · go_enter Try.func96, Try.ntmps96
    go_wp2
    go_ret
    exact ⟨rfl, rfl⟩
  · have e : ((place t loc true : Nat) : Int) = (t : Int) * 3 + loc := by simp [place]
    rw [e]
    go_enter Try.func96, Try.ntmps96
    go_wp2
    go_ret
    exact ⟨rfl, rfl⟩
theorem callPlace : ∀ args (w : World), (callFunc 96 args).run Try.prog w = .ok (.enter 96 args) w :=
  fun args w => run_callFunc Try.func96 rfl rfl args w
/-- One buffer of a state. -/
theorem RdS.bufAt {w : World} {q : Sp} {s : St} (h : RdS w q s) {b : Nat} (hb : b < s.buf.length) : ∃ (g off : Nat) (r : Option Addr) (c : Nat), q.a3 = some ⟨g, off, none⟩ ∧ g < w.heap.size ∧ w.cell? ⟨g, off + b, none⟩ = some (.slice r ((row4 s b).length * 2) c) ∧ Rd w r (ints (flatB (row4 s b))) ∧ (row4 s b).length * 2 ≤ c := by
  obtain ⟨g, off, r, c, ys, h1, h2, h3, h4, h5, h6⟩ := h.buf.at' b (by simpa using hb)
  rw [List.getElem?_map, row4_get hb] at h3
  simp only [Option.map_some, Option.some.injEq] at h3
  subst h3
  rw [length_flatB] at h4 h6
  exact ⟨g, off, r, c, h1, h2, h4, h5, h6⟩

set_option maxHeartbeats 800000 in
theorem l4Empty_c (w : World) (q : Sp) (s : St) (t : Nat) (split : Bool) (h : RdS w q s) (ht : t * nb split + nb split ≤ s.buf.length) (hl : s.buf.length ≤ 1000) :
    Calls Try.prog 73 #[q.v s, .int .i64 t, .bool split] w fun e w' => e = .returned (.bool (empty4 s t split)) ∧ Below w.heap.size w w' := by
  obtain ⟨a0, c0, a1, c1, a2, c2, a3, c3⟩ := q
  have HNB := hid (fun w => l4Buffers_c w split)
  obtain ⟨n, hn⟩ : ∃ n, n = nb split := ⟨_, rfl⟩
  obtain ⟨m, hm⟩ : ∃ m, m = s.buf.length := ⟨_, rfl⟩
  have hn1 : 1 ≤ n := by rw [hn]; exact nb_pos split
  have hn3 : n ≤ 3 := by rw [hn]; exact nb_le split
  have HM := hid hm
  have HRD := hid h
  have HNO := hid (fun i (hi : i < n) (hb : (row4 s (t * n + i)).length ≠ 0) => show empty4 s t split = false from by
    unfold empty4
    rw [List.all_eq_false]
    refine ⟨i, List.mem_range.2 (by omega), ?_⟩
    rw [← hn]
    intro e
    exact hb (by simpa using e))
  have HYES := hid (fun (hb : ∀ i, i < n → (row4 s (t * n + i)).length = 0) => show empty4 s t split = true from by
    unfold empty4
    rw [List.all_eq_true]
    intro i hi
    rw [← hn]
    have := hb i (by have := List.mem_range.1 hi; omega)
    simpa using List.eq_nil_of_length_eq_zero this)
  rw [← hn] at HNB ht
  rw [← hm] at ht hl
  unfold Sp.v
  dsimp only
  rw [← hm]
  have htn : t ≤ 1000 := by
    have : t * 1 ≤ t * n := Nat.mul_le_mul_left _ hn1
    omega
  have hb1 : Below w.heap.size w (w.alloc (.cells #[.slice a0 s.pc.length c0, .slice a1 s.regs.length c1, .slice a2 s.mem.length c2, .slice a3 m c3] 44)) := (Below.refl _ _).alloc (Nat.le_refl _) _
  have HB1 := hid hb1
  clear hn hm h hb1
  go_enter Try.func73, Try.ntmps73
  go_wp2_with fail
  refine (HNB.out _).mono ?_
  rintro e w1 ⟨rfl, rfl⟩
  go_wp2_with fail
  go_loop [8] (fun i => ∃ k : Nat, k ≤ n ∧ i = .int .i64 k ∧ Hid (∀ i, i < k → (row4 s (t * n + i)).length = 0)) (fun i => n - (intOf i).toNat)
  case atStart => exact ⟨0, Nat.zero_le _, rfl, hid (fun i hi => by omega)⟩
  case round =>
    obtain ⟨k, hk, rfl, HK⟩ := hrel
    by_cases hlt : k < n
    · have hbi : t * n + k < s.buf.length := by rw [← HM.out]; omega
      obtain ⟨g, off, r, c, hq, hgl, hcell, _, _⟩ := HRD.out.bufAt hbi
      have hq : a3 = some ⟨g, off, none⟩ := hq
      subst hq
      have hcw := (HB1.out.cell (p := ⟨g, off + (t * n + k), none⟩) hgl).trans hcell
      obtain ⟨j, hj⟩ : ∃ j, j = t * n + k := ⟨_, rfl⟩
      rw [← hj] at hcw
      have HJ := hid hj
      have hji : (t : Int) * (n : Int) + (k : Int) = (j : Int) := by rw [hj]; simp
      have hjm : j < m := by rw [hj]; omega
      obtain ⟨l, hl'⟩ : ∃ l, l = (row4 s j).length := ⟨_, rfl⟩
      rw [← hl'] at hcw
      have HLL := hid hl'
      have htn1 : (t : Int) * (n : Int) ≤ 1000 := by
        have : ((t * n : Nat) : Int) ≤ 1000 := by omega
        simpa using this
      have htn0 : (0 : Int) ≤ (t : Int) * (n : Int) := by
        have : (0 : Int) ≤ ((t * n : Nat) : Int) := by omega
        simpa using this
      clear hcell hbi hj hl' hgl
      by_cases h0 : l = 0
      · have d : ¬ ((0 : Int) < (l : Int) * 2) := by omega
        go_wp2_with fail
        go_round
        case rel => exact ⟨k + 1, by omega, by go_num, hid (fun i hi => by
          by_cases e : i = k
          · rw [e, ← HJ.out, ← HLL.out]; exact h0
          · exact HK.out i (by omega))⟩
        case measure => simp [intOf]; omega
      · have d : (0 : Int) < (l : Int) * 2 := by omega
        go_wp2
        go_ret
        exact ⟨ret_bool (HNO.out k hlt (by rw [← HJ.out, ← HLL.out]; exact h0)).symm, HB1.out⟩
    · go_wp2
      go_ret
      exact ⟨ret_bool (HYES.out fun i hi => HK.out i (by omega)).symm, HB1.out⟩

theorem inBuf_snoc (r : List (Int × Int)) (e : Int × Int) (loc : Int) : inBuf (r ++ [e]) loc = if e.1 = loc then some e.2 else inBuf r loc := by
  unfold inBuf
  rw [List.reverse_append]
  simp only [List.reverse_singleton, List.singleton_append, List.find?_cons]
  by_cases h : e.1 = loc
  · simp [h]
  · have : (e.1 == loc) = false := by simpa using h
    simp [h, this]
theorem inBuf_take {r : List (Int × Int)} {j : Nat} {e : Int × Int} (h : r[j]? = some e) (loc : Int) : inBuf (r.take (j + 1)) loc = if e.1 = loc then some e.2 else inBuf (r.take j) loc := by
  rw [List.take_add_one, h]
  exact inBuf_snoc _ _ _

set_option maxHeartbeats 1600000 in
theorem l4Seen_c (w : World) (q : Sp) (s : St) (t loc : Nat) (split : Bool) (h : RdS w q s) (hm : s.mem.length = 3) (hl2 : loc ≤ 2) (ht : t ≤ 100) (hp : place t loc split < s.buf.length) (hb : s.buf.length ≤ 1000) (hr : (row4 s (place t loc split)).length ≤ 1000) :
    Calls Try.prog 95 #[q.v s, .int .i64 t, .int .i64 loc, .bool split] w fun e w' => e = .returned (.int .i64 (seen4 s t loc split)) ∧ Below w.heap.size w w' := by
  obtain ⟨a0, c0, a1, c1, a2, c2, a3, c3⟩ := q
  obtain ⟨g, off, r, c, hq, hgl, hcell, hrd, _⟩ := h.bufAt hp
  have hq : a3 = some ⟨g, off, none⟩ := hq
  subst hq
  obtain ⟨mb, mo, hmb, hmlt, hmc⟩ := h.mem.int loc (by omega)
  have hmb : a2 = some ⟨mb, mo, none⟩ := hmb
  subst hmb
  obtain ⟨i, hi⟩ : ∃ i, i = place t loc split := ⟨_, rfl⟩
  have HPL := hid (fun w => l4Place_c w t loc i split hi (by omega) (by omega))
  obtain ⟨R, hR⟩ : ∃ R, R = row4 s i := ⟨_, rfl⟩
  rw [← hi] at hcell hrd hp hr
  rw [← hR] at hcell hrd hr
  obtain ⟨mv, hmv⟩ : ∃ mv, mv = s.mem[loc]'(by omega) := ⟨_, rfl⟩
  rw [← hmv] at hmc
  have HSEE := hid (show seen4 s t loc split = (inBuf R loc).getD mv from by
    unfold seen4
    rw [← hi, ← hR, hmv]
    simp [List.getD_eq_getElem?_getD, List.getElem?_eq_getElem (show loc < s.mem.length by omega)])
  obtain ⟨L, hL⟩ : ∃ L, L = R.length := ⟨_, rfl⟩
  rw [← hL] at hcell hr
  have HL := hid hL
  obtain ⟨m, hm'⟩ : ∃ m, m = s.buf.length := ⟨_, rfl⟩
  unfold Sp.v
  dsimp only
  rw [← hm'] at hp hb ⊢
  have hlm : loc < s.mem.length := by omega
  have hb1 : Below w.heap.size w (w.alloc (.cells #[.slice a0 s.pc.length c0, .slice a1 s.regs.length c1, .slice (some ⟨mb, mo, none⟩) s.mem.length c2, .slice (some ⟨g, off, none⟩) m c3] 44)) := (Below.refl _ _).alloc (Nat.le_refl _) _
  have HB1 := hid hb1
  have HRD := hid hrd
  have hcw := (hb1.cell (p := ⟨g, off + i, none⟩) hgl).trans hcell
  have hmw := (hb1.cell (p := ⟨mb, mo + loc, none⟩) hmlt).trans hmc
  clear hcell hmc hb1 hrd hL hR hi h hm hm' hmv
  go_enter Try.func95, Try.ntmps95
  go_wp2_with fail
  refine MQ.wp_region_mix (q := [96]) (by kernel_rfl) (by kernel_rfl) ?_
  repeat (with_reducible refine MQ.wpMix_rd rfl rfl rfl (fun K hK => ?_); go_simp; (try go_bits); refine hK _ ?_; clear hK K)
  refine MQ.wpMix_call rfl 96 _ _ rfl rfl #[.int .i64 t, .int .i64 loc, .bool split] (by simp [Act.eval]) (callPlace _ _) _ (HPL.out _) ?_
  repeat (with_reducible refine MQ.wpMix_rd rfl rfl rfl (fun K hK => ?_); go_simp; (try go_bits); refine hK _ ?_; clear hK K)
  (with_reducible refine MQ.wpMix_nil ?_)
  go_wp2_with fail
  go_loop [10] (fun i => ∃ j : Nat, j ≤ L ∧ i = .int .i64 ((j : Int) * 2 - 2) ∧ Hid (inBuf R loc = inBuf (R.take j) loc)) (fun i => (intOf i + 2).toNat)
  case atStart => exact ⟨L, Nat.le_refl _, by go_num, hid (by rw [List.take_of_length_le (by have := HL.out; omega)])⟩
  case round =>
    obtain ⟨j, hj, rfl, HI⟩ := hrel
    by_cases h0 : j = 0
    · subst h0
      have HF := hid (show seen4 s t loc split = mv from by rw [HSEE.out, HI.out]; rfl)
      go_wp2
      go_ret
      exact ⟨ret_int HF.out.symm, below_drewN 1 HB1.out⟩
    · obtain ⟨k, rfl⟩ : ∃ k, j = k + 1 := ⟨j - 1, by omega⟩
      have hkR : k < R.length := by have := HL.out; omega
      obtain ⟨e, he⟩ : ∃ e, R[k]? = some e := ⟨_, List.getElem?_eq_getElem hkR⟩
      obtain ⟨f1, f2⟩ := flatB_get R k e he
      obtain ⟨b0, o0, hr0, hbl, hc0⟩ := HRD.out.int (k * 2) (by rw [length_flatB]; omega)
      obtain ⟨b1, o1, hr1, _, hc1⟩ := HRD.out.int (k * 2 + 1) (by rw [length_flatB]; omega)
      subst hr0
      simp only [Option.some.injEq, Addr.mk.injEq] at hr1
      obtain ⟨rfl, rfl, _⟩ := hr1
      have e1 : (flatB R)[k * 2]'(by rw [length_flatB]; omega) = e.1 := (List.getElem?_eq_some_iff.1 f1).2
      have e2 : (flatB R)[k * 2 + 1]'(by rw [length_flatB]; omega) = e.2 := (List.getElem?_eq_some_iff.1 f2).2
      rw [e1] at hc0
      rw [e2] at hc1
      have hw0 := (HB1.out.cell (p := ⟨b0, o0 + k * 2, none⟩) hbl).trans hc0
      have hw1 := (HB1.out.cell (p := ⟨b0, o0 + (k * 2 + 1), none⟩) hbl).trans hc1
      have HT := hid (inBuf_take he (loc : Int))
      obtain ⟨el, ev⟩ := e
      dsimp only at hw0 hw1 HT
      clear hc0 hc1 e1 e2 f1 f2 he h0 hkR
      have ei : ((k + 1 : Nat) : Int) * 2 - 2 = ((k * 2 : Nat) : Int) := by omega
      rw [ei]
      by_cases hel : el = (loc : Int)
      · have HF := hid (show seen4 s t loc split = ev from by rw [HSEE.out, HI.out, HT.out, if_pos hel]; rfl)
        have d : (el == (loc : Int)) = true := by simpa using hel
        go_wp2
        go_ret
        exact ⟨ret_int HF.out.symm, below_drewN 1 HB1.out⟩
      · have HF := hid (show inBuf R loc = inBuf (R.take k) loc from by rw [HI.out, HT.out, if_neg hel])
        have d : (el == (loc : Int)) = false := by simpa using hel
        clear hel
        go_wp2_with fail
        go_round
        case rel => exact ⟨k, by omega, by go_num, HF⟩
        case measure => simp [intOf]; omega
end Go.Proofs.Ytbncmeggnhggkaa
