/-
  PROVED HERE: what spec.l4Buffers, l4Place, l4Empty, l4Seen do. what spec.l4Can does. CONDITIONS: as each theorem states.
-/
import Derived.Test.YtbncmeggnhggkaaBf
import Derived.Test.YtbncmeggnhggkaaSpg
namespace Go.Proofs.Ytbncmeggnhggkaa
open Go.RowKit
set_option linter.unusedVariables false
set_option linter.unusedSimpArgs false

theorem l4Buffers_c (w : World) (split : Bool) : Calls Try.prog 89 #[.bool split] w fun e w' => e = .returned (.int .i64 (nb split : Nat)) ∧ w' = w := by
  cases split
  · go_enter Try.func89, Try.ntmps89
    go_wp2
    go_ret
    exact ⟨rfl, rfl⟩
  · go_enter Try.func89, Try.ntmps89
    go_wp2
    go_ret
    exact ⟨rfl, rfl⟩
theorem l4Place_c (w : World) (t loc i : Nat) (split : Bool) (hi : i = place t loc split) (ht : t ≤ 1000) (hl : loc ≤ 1000) : Calls Try.prog 96 #[.int .i64 t, .int .i64 loc, .bool split] w fun e w' => e = .returned (.int .i64 (i : Nat)) ∧ w' = w := by
  subst hi
  cases split
  · go_enter Try.func96, Try.ntmps96
    go_wp2
    go_ret
    exact ⟨rfl, rfl⟩
  · have e : ((place t loc true : Nat) : Int) = (t : Int) * 3 + loc := by simp [place]
    rw [e]
    go_enter Try.func96, Try.ntmps96
    go_wp2
    go_ret
    exact ⟨rfl, rfl⟩
theorem callPlace : ∀ args (w : World), (callFunc 96 args).run Try.prog w = .ok (.enter 96 args) w :=
  fun args w => run_callFunc Try.func96 rfl rfl args w
/-- One buffer of a state. -/
theorem RdS.bufAt {w : World} {q : Sp} {s : St} (h : RdS w q s) {b : Nat} (hb : b < s.buf.length) : ∃ (g off : Nat) (r : Option Addr) (c : Nat), q.a3 = some ⟨g, off, none⟩ ∧ g < w.heap.size ∧ w.cell? ⟨g, off + b, none⟩ = some (.slice r ((row4 s b).length * 2) c) ∧ Rd w r (ints (flatB (row4 s b))) ∧ (row4 s b).length * 2 ≤ c := by
  obtain ⟨g, off, r, c, ys, h1, h2, h3, h4, h5, h6⟩ := h.buf.at' b (by simpa using hb)
  rw [List.getElem?_map, row4_get hb] at h3
  simp only [Option.map_some, Option.some.injEq] at h3
  subst h3
  rw [length_flatB] at h4 h6
  exact ⟨g, off, r, c, h1, h2, h4, h5, h6⟩

set_option maxHeartbeats 800000 in
theorem l4Empty_c (w : World) (q : Sp) (s : St) (t : Nat) (split : Bool) (h : RdS w q s) (ht : t * nb split + nb split ≤ s.buf.length) (hl : s.buf.length ≤ 1000) :
    Calls Try.prog 73 #[q.v s, .int .i64 t, .bool split] w fun e w' => e = .returned (.bool (empty4 s t split)) ∧ Below w.heap.size w w' := by
  obtain ⟨a0, c0, a1, c1, a2, c2, a3, c3⟩ := q
  have HNB := hid (fun w => l4Buffers_c w split)
  obtain ⟨n, hn⟩ : ∃ n, n = nb split := ⟨_, rfl⟩
  obtain ⟨m, hm⟩ : ∃ m, m = s.buf.length := ⟨_, rfl⟩
  have hn1 : 1 ≤ n := by rw [hn]; exact nb_pos split
  have hn3 : n ≤ 3 := by rw [hn]; exact nb_le split
  have HM := hid hm
  have HRD := hid h
  have HNO := hid (fun i (hi : i < n) (hb : (row4 s (t * n + i)).length ≠ 0) => show empty4 s t split = false from by
    unfold empty4
    rw [List.all_eq_false]
    refine ⟨i, List.mem_range.2 (by omega), ?_⟩
    rw [← hn]
    intro e
    exact hb (by simpa using e))
  have HYES := hid (fun (hb : ∀ i, i < n → (row4 s (t * n + i)).length = 0) => show empty4 s t split = true from by
    unfold empty4
    rw [List.all_eq_true]
    intro i hi
    rw [← hn]
    have := hb i (by have := List.mem_range.1 hi; omega)
    simpa using List.eq_nil_of_length_eq_zero this)
  rw [← hn] at HNB ht
  rw [← hm] at ht hl
  unfold Sp.v
  dsimp only
  rw [← hm]
  have htn : t ≤ 1000 := by
    have : t * 1 ≤ t * n := Nat.mul_le_mul_left _ hn1
    omega
  have hb1 : Below w.heap.size w (w.alloc (.cells #[.slice a0 s.pc.length c0, .slice a1 s.regs.length c1, .slice a2 s.mem.length c2, .slice a3 m c3] 44)) := (Below.refl _ _).alloc (Nat.le_refl _) _
  have HB1 := hid hb1
  clear hn hm h hb1
  go_enter Try.func73, Try.ntmps73
  go_wp2_with fail
  refine (HNB.out _).mono ?_
  rintro e w1 ⟨rfl, rfl⟩
  go_wp2_with fail
  go_loop [8] (fun i => ∃ k : Nat, k ≤ n ∧ i = .int .i64 k ∧ Hid (∀ i, i < k → (row4 s (t * n + i)).length = 0)) (fun i => n - (intOf i).toNat)
  case atStart => exact ⟨0, Nat.zero_le _, rfl, hid (fun i hi => by omega)⟩
  case round =>
    obtain ⟨k, hk, rfl, HK⟩ := hrel
    by_cases hlt : k < n
    · have hbi : t * n + k < s.buf.length := by rw [← HM.out]; omega
      obtain ⟨g, off, r, c, hq, hgl, hcell, _, _⟩ := HRD.out.bufAt hbi
      have hq : a3 = some ⟨g, off, none⟩ := hq
      subst hq
      have hcw := (HB1.out.cell (p := ⟨g, off + (t * n + k), none⟩) hgl).trans hcell
      obtain ⟨j, hj⟩ : ∃ j, j = t * n + k := ⟨_, rfl⟩
      rw [← hj] at hcw
      have HJ := hid hj
      have hji : (t : Int) * (n : Int) + (k : Int) = (j : Int) := by rw [hj]; simp
      have hjm : j < m := by rw [hj]; omega
      obtain ⟨l, hl'⟩ : ∃ l, l = (row4 s j).length := ⟨_, rfl⟩
      rw [← hl'] at hcw
      have HLL := hid hl'
      have htn1 : (t : Int) * (n : Int) ≤ 1000 := by
        have : ((t * n : Nat) : Int) ≤ 1000 := by omega
        simpa using this
      have htn0 : (0 : Int) ≤ (t : Int) * (n : Int) := by
        have : (0 : Int) ≤ ((t * n : Nat) : Int) := by omega
        simpa using this
      clear hcell hbi hj hl' hgl
      by_cases h0 : l = 0
      · have d : ¬ ((0 : Int) < (l : Int) * 2) := by omega
        go_wp2_with fail
        go_round
        case rel => exact ⟨k + 1, by omega, by go_num, hid (fun i hi => by
          by_cases e : i = k
          · rw [e, ← HJ.out, ← HLL.out]; exact h0
          · exact HK.out i (by omega))⟩
        case measure => simp [intOf]; omega
      · have d : (0 : Int) < (l : Int) * 2 := by omega
        go_wp2
        go_ret
        exact ⟨ret_bool (HNO.out k hlt (by rw [← HJ.out, ← HLL.out]; exact h0)).symm, HB1.out⟩
    · go_wp2
      go_ret
      exact ⟨ret_bool (HYES.out fun i hi => HK.out i (by omega)).symm, HB1.out⟩

theorem inBuf_snoc (r : List (Int × Int)) (e : Int × Int) (loc : Int) : inBuf (r ++ [e]) loc = if e.1 = loc then some e.2 else inBuf r loc := by
  unfold inBuf
  rw [List.reverse_append]
  simp only [List.reverse_singleton, List.singleton_append, List.find?_cons]
  by_cases h : e.1 = loc
  · simp [h]
  · have : (e.1 == loc) = false := by simpa using h
    simp [h, this]
theorem inBuf_take {r : List (Int × Int)} {j : Nat} {e : Int × Int} (h : r[j]? = some e) (loc : Int) : inBuf (r.take (j + 1)) loc = if e.1 = loc then some e.2 else inBuf (r.take j) loc := by
  rw [List.take_add_one, h]
  exact inBuf_snoc _ _ _

set_option maxHeartbeats 1600000 in
theorem l4Seen_c (w : World) (q : Sp) (s : St) (t loc : Nat) (split : Bool) (h : RdS w q s) (hm : s.mem.length = 3) (hl2 : loc ≤ 2) (ht : t ≤ 100) (hp : place t loc split < s.buf.length) (hb : s.buf.length ≤ 1000) (hr : (row4 s (place t loc split)).length ≤ 1000) :
    Calls Try.prog 95 #[q.v s, .int .i64 t, .int .i64 loc, .bool split] w fun e w' => e = .returned (.int .i64 (seen4 s t loc split)) ∧ Below w.heap.size w w' := by
  obtain ⟨a0, c0, a1, c1, a2, c2, a3, c3⟩ := q
  obtain ⟨g, off, r, c, hq, hgl, hcell, hrd, _⟩ := h.bufAt hp
  have hq : a3 = some ⟨g, off, none⟩ := hq
  subst hq
  obtain ⟨mb, mo, hmb, hmlt, hmc⟩ := h.mem.int loc (by omega)
  have hmb : a2 = some ⟨mb, mo, none⟩ := hmb
  subst hmb
  obtain ⟨i, hi⟩ : ∃ i, i = place t loc split := ⟨_, rfl⟩
  have HPL := hid (fun w => l4Place_c w t loc i split hi (by omega) (by omega))
  obtain ⟨R, hR⟩ : ∃ R, R = row4 s i := ⟨_, rfl⟩
  rw [← hi] at hcell hrd hp hr
  rw [← hR] at hcell hrd hr
  obtain ⟨mv, hmv⟩ : ∃ mv, mv = s.mem[loc]'(by omega) := ⟨_, rfl⟩
  rw [← hmv] at hmc
  have HSEE := hid (show seen4 s t loc split = (inBuf R loc).getD mv from by
    unfold seen4
    rw [← hi, ← hR, hmv]
    simp [List.getD_eq_getElem?_getD, List.getElem?_eq_getElem (show loc < s.mem.length by omega)])
  obtain ⟨L, hL⟩ : ∃ L, L = R.length := ⟨_, rfl⟩
  rw [← hL] at hcell hr
  have HL := hid hL
  obtain ⟨m, hm'⟩ : ∃ m, m = s.buf.length := ⟨_, rfl⟩
  unfold Sp.v
  dsimp only
  rw [← hm'] at hp hb ⊢
  have hlm : loc < s.mem.length := by omega
  have hb1 : Below w.heap.size w (w.alloc (.cells #[.slice a0 s.pc.length c0, .slice a1 s.regs.length c1, .slice (some ⟨mb, mo, none⟩) s.mem.length c2, .slice (some ⟨g, off, none⟩) m c3] 44)) := (Below.refl _ _).alloc (Nat.le_refl _) _
  have HB1 := hid hb1
  have HRD := hid hrd
  have hcw := (hb1.cell (p := ⟨g, off + i, none⟩) hgl).trans hcell
  have hmw := (hb1.cell (p := ⟨mb, mo + loc, none⟩) hmlt).trans hmc
  clear hcell hmc hb1 hrd hL hR hi h hm hm' hmv
  go_enter Try.func95, Try.ntmps95
  go_wp2_with fail
  refine MQ.wp_region_mix (q := [96]) (by kernel_rfl) (by kernel_rfl) ?_
  repeat (with_reducible refine MQ.wpMix_rd rfl rfl rfl (fun K hK => ?_); go_simp; (try go_bits); refine hK _ ?_; clear hK K)
  refine MQ.wpMix_call rfl 96 _ _ rfl rfl #[.int .i64 t, .int .i64 loc, .bool split] (by simp [Act.eval]) (callPlace _ _) _ (HPL.out _) ?_
  repeat (with_reducible refine MQ.wpMix_rd rfl rfl rfl (fun K hK => ?_); go_simp; (try go_bits); refine hK _ ?_; clear hK K)
  (with_reducible refine MQ.wpMix_nil ?_)
  go_wp2_with fail
  go_loop [10] (fun i => ∃ j : Nat, j ≤ L ∧ i = .int .i64 ((j : Int) * 2 - 2) ∧ Hid (inBuf R loc = inBuf (R.take j) loc)) (fun i => (intOf i + 2).toNat)
  case atStart => exact ⟨L, Nat.le_refl _, by go_num, hid (by rw [List.take_of_length_le (by have := HL.out; omega)])⟩
  case round =>
    obtain ⟨j, hj, rfl, HI⟩ := hrel
    by_cases h0 : j = 0
    · subst h0
      have HF := hid (show seen4 s t loc split = mv from by rw [HSEE.out, HI.out]; rfl)
      go_wp2
      go_ret
      exact ⟨ret_int HF.out.symm, below_drewN 1 HB1.out⟩
    · obtain ⟨k, rfl⟩ : ∃ k, j = k + 1 := ⟨j - 1, by omega⟩
      have hkR : k < R.length := by have := HL.out; omega
      obtain ⟨e, he⟩ : ∃ e, R[k]? = some e := ⟨_, List.getElem?_eq_getElem hkR⟩
      obtain ⟨f1, f2⟩ := flatB_get R k e he
      obtain ⟨b0, o0, hr0, hbl, hc0⟩ := HRD.out.int (k * 2) (by rw [length_flatB]; omega)
      obtain ⟨b1, o1, hr1, _, hc1⟩ := HRD.out.int (k * 2 + 1) (by rw [length_flatB]; omega)
      subst hr0
      simp only [Option.some.injEq, Addr.mk.injEq] at hr1
      obtain ⟨rfl, rfl, _⟩ := hr1
      have e1 : (flatB R)[k * 2]'(by rw [length_flatB]; omega) = e.1 := (List.getElem?_eq_some_iff.1 f1).2
      have e2 : (flatB R)[k * 2 + 1]'(by rw [length_flatB]; omega) = e.2 := (List.getElem?_eq_some_iff.1 f2).2
      rw [e1] at hc0
      rw [e2] at hc1
      have hw0 := (HB1.out.cell (p := ⟨b0, o0 + k * 2, none⟩) hbl).trans hc0
      have hw1 := (HB1.out.cell (p := ⟨b0, o0 + (k * 2 + 1), none⟩) hbl).trans hc1
      have HT := hid (inBuf_take he (loc : Int))
      obtain ⟨el, ev⟩ := e
      dsimp only at hw0 hw1 HT
      clear hc0 hc1 e1 e2 f1 f2 he h0 hkR
      have ei : ((k + 1 : Nat) : Int) * 2 - 2 = ((k * 2 : Nat) : Int) := by omega
      rw [ei]
      by_cases hel : el = (loc : Int)
      · have HF := hid (show seen4 s t loc split = ev from by rw [HSEE.out, HI.out, HT.out, if_pos hel]; rfl)
        have d : (el == (loc : Int)) = true := by simpa using hel
        go_wp2
        go_ret
        exact ⟨ret_int HF.out.symm, below_drewN 1 HB1.out⟩
      · have HF := hid (show inBuf R loc = inBuf (R.take k) loc from by rw [HI.out, HT.out, if_neg hel])
        have d : (el == (loc : Int)) = false := by simpa using hel
        clear hel
        go_wp2_with fail
        go_round
        case rel => exact ⟨k, by omega, by go_num, HF⟩
        case measure => simp [intOf]; omega
end Go.Proofs.Ytbncmeggnhggkaa
namespace Go.Proofs.Ytbncmeggnhggkaa
open Go.RowKit
set_option linter.unusedVariables false
set_option linter.unusedSimpArgs false

/-- What is read at a thread that goes on. -/
theorem RdP.insAt {w : World} {a : Option Addr} {p : Prg} (h : RdP w a p) {t k : Nat} {xs : List Ins} {x : Ins} (hp : p[t]? = some xs) (hx : xs[k]? = some x) :
    ∃ (pb po rb ro rc : Nat), a = some ⟨pb, po, none⟩ ∧ pb < w.heap.size ∧ rb < w.heap.size ∧ w.cell? ⟨pb, po + t, none⟩ = some (.slice (some ⟨rb, ro, none⟩) xs.length rc) ∧ InsAt w rb ro k x := by
  obtain ⟨pb, po, r, rc, xs', h1, h2, h3, h4, h5, _⟩ := h.at' t (List.getElem?_eq_some_iff.1 hp).1
  rw [hp] at h3
  cases h3
  obtain ⟨rb, ro, x', h6, h7, h8, h9⟩ := h5.ins k (List.getElem?_eq_some_iff.1 hx).1
  rw [hx] at h8
  cases h8
  subst h6
  exact ⟨pb, po, rb, ro, rc, h1, h2, h7, h4, h9⟩
theorem in_moves4 {p : Prg} {s : St} {split : Bool} (k : Nat) : decide ((k : Int) ∈ moves4 p s split) = (decide (k < p.length + s.buf.length) && can4 p s split k) := by
  by_cases h : (k : Int) ∈ moves4 p s split
  · obtain ⟨j, hj, h1, h2⟩ := (mem_moves4 _).1 h
    have : k = j := by omega
    subst this
    rw [decide_eq_true h, decide_eq_true h1, h2]
    rfl
  · rw [decide_eq_false h]
    by_cases h1 : k < p.length + s.buf.length
    · have h2 : can4 p s split k = false := by
        cases hc : can4 p s split k with
        | false => rfl
        | true => exact absurd ((mem_moves4 _).2 ⟨k, rfl, h1, hc⟩) h
      rw [h2, Bool.and_false]
    · rw [decide_eq_false h1, Bool.false_and]
theorem not_moves4 {p : Prg} {s : St} {split : Bool} {m : Int} (h : m < 0 ∨ (p.length : Int) + s.buf.length ≤ m) : decide (m ∈ moves4 p s split) = false := by
  apply decide_eq_false
  intro hm
  obtain ⟨k, rfl, h1, _⟩ := (mem_moves4 _).1 hm
  omega

set_option maxRecDepth 100000 in
set_option maxHeartbeats 3200000 in
theorem l4Can_c (w : World) (a : Option Addr) (cap : Nat) (p : Prg) (q : Sp) (s : St) (split : Bool) (m : Int) (hp : RdP w a p) (h : RdS w q s) (hv : Shape p) (hg : Good4 p split s) :
    Calls Try.prog 45 #[.slice a p.length cap, q.v s, .bool split, .int .i64 m] w fun e w' => e = .returned (.bool (decide (m ∈ moves4 p s split))) ∧ Below w.heap.size w w' := by
  have hbl := hg.blen hv
  have hpl := hv.len
  obtain ⟨n, hn⟩ : ∃ n, n = p.length := ⟨_, rfl⟩
  obtain ⟨bl, hbn⟩ : ∃ bl, bl = s.buf.length := ⟨_, rfl⟩
  have HN := hid (And.intro hn hbn)
  obtain ⟨a0, c0, a1, c1, a2, c2, a3, c3⟩ := q
  have HP := hid hp
  have HS := hid h
  have HG := hid hg
  have HSH := hid hv
  have hb1 : Below w.heap.size w (w.alloc (.cells #[.slice a0 s.pc.length c0, .slice a1 s.regs.length c1, .slice a2 s.mem.length c2, .slice a3 bl c3] 44)) := (Below.refl _ _).alloc (Nat.le_refl _) _
  have HB1 := hid hb1
  have HOUT := hid (not_moves4 (p := p) (s := s) (split := split) (m := m))
  unfold Sp.v
  dsimp only
  rw [← hn] at hpl HOUT ⊢
  rw [← hbn] at hbl HOUT ⊢
  clear hn hbn hp h hg hv hb1
  by_cases hneg : m < 0
  · have HF := hid (HOUT.out (.inl hneg))
    rw [HF.out]
    have d0 : decide (m < 0) = true := decide_eq_true hneg
    go_enter Try.func45, Try.ntmps45
    go_wp2
    go_ret
    exact ⟨rfl, HB1.out⟩
  · obtain ⟨k, rfl⟩ : ∃ k : Nat, m = k := ⟨m.toNat, by omega⟩
    have d0 : decide ((k : Int) < 0) = false := decide_eq_false (by omega)
    by_cases hge : n + bl ≤ k
    · have HF := hid (HOUT.out (.inr (by omega)))
      rw [HF.out]
      have d1 : decide ((n : Int) + (bl : Int) ≤ (k : Int)) = true := decide_eq_true (by omega)
      go_enter Try.func45, Try.ntmps45
      go_wp2
      go_ret
      exact ⟨rfl, HB1.out⟩
    · have d1 : decide ((n : Int) + (bl : Int) ≤ (k : Int)) = false := decide_eq_false (by omega)
      have HE := hid (show decide ((k : Int) ∈ moves4 p s split) = can4 p s split k from by
        rw [in_moves4, ← HN.out.1, ← HN.out.2, decide_eq_true (by omega : k < n + bl), Bool.true_and])
      rw [HE.out]
      by_cases hkn : n ≤ k
      · obtain ⟨j, rfl⟩ : ∃ j, k = n + j := ⟨k - n, by omega⟩
        obtain ⟨g, off, r, c, hq, hgl, hcell, _, _⟩ := HS.out.bufAt (b := j) (by rw [← HN.out.2]; omega)
        have hq : a3 = some ⟨g, off, none⟩ := hq
        subst hq
        have hcw := (HB1.out.cell (p := ⟨g, off + j, none⟩) hgl).trans hcell
        obtain ⟨l, hl⟩ : ∃ l, l = (row4 s j).length := ⟨_, rfl⟩
        rw [← hl] at hcw
        have HF := hid (show can4 p s split (n + j) = decide (0 < l) from by
          unfold can4
          rw [if_neg (by rw [← HN.out.1]; omega), ← HN.out.1, Nat.add_sub_cancel_left, hl]
          cases row4 s j <;> simp)
        rw [HF.out]
        have d2 : (n : Int) ≤ ((n + j : Nat) : Int) := by omega
        have hjb : j < bl := by omega
        have e1 : (n : Int) + (j : Int) - (n : Int) = (j : Int) := by omega
        have e2 : decide ((n : Int) + (j : Int) < 0) = false := decide_eq_false (by omega)
        have e3 : decide ((n : Int) + (bl : Int) ≤ (n : Int) + (j : Int)) = false := decide_eq_false (by omega)
        clear hcell hl hgl hneg hge d0 d1 d2 hkn
        go_enter Try.func45, Try.ntmps45
        go_wp2
        go_ret
        exact ⟨ret_bool (decide_eq_decide.2 (by omega)), HB1.out⟩
      · have htn : k < n := by omega
        have HCAN := hid (show can4 p s split k = ready4 p s split k from by unfold can4; rw [if_pos (by rw [← HN.out.1]; exact htn)])
        rw [HCAN.out]
        have d2 : ¬ ((n : Int) ≤ (k : Int)) := by omega
        obtain ⟨xs, hxs⟩ : ∃ xs, p[k]? = some xs := ⟨_, List.getElem?_eq_getElem (by rw [← HN.out.1]; exact htn)⟩
        obtain ⟨sb, so, j, hsa, hsl, hj, hjl, hsc⟩ := HS.out.pcAt HG.out.toGood hxs
        have hsa : a0 = some ⟨sb, so, none⟩ := hsa
        subst hsa
        have HGO := hid (goes_of hxs hj)
        have hcs := (HB1.out.cell (p := ⟨sb, so + k, none⟩) hsl).trans hsc
        have htq : k < s.pc.length := by rw [HG.out.pcl, ← HN.out.1]; exact htn
        obtain ⟨z, hz⟩ : ∃ z, z = xs.length := ⟨_, rfl⟩
        rw [← hz] at hjl HGO
        by_cases hjz : j < z
        · rw [decide_eq_true hjz] at HGO
          have d3 : ((j : Int) == (z : Int)) = false := by simp; omega
          obtain ⟨x, hx⟩ : ∃ x, xs[j]? = some x := ⟨_, List.getElem?_eq_getElem (by omega)⟩
          obtain ⟨pb, po, rb, ro, rc, hpa, hpl', hrl, hpc, hins⟩ := HP.out.insAt hxs hx
          subst hpa
          rw [← hz] at hpc
          have HNX := hid (nxt_of hxs hj hx)
          have hcp := (HB1.out.cell (p := ⟨pb, po + k, none⟩) hpl').trans hpc
          have HR := hid (show ready4 p s split k = (!waits4 x || empty4 s k split) from by unfold ready4; rw [HGO.out, HNX.out, Bool.true_and])
          rw [HR.out]
          have HEM := hid (fun w h => l4Empty_c w ⟨some ⟨sb, so, none⟩, c0, a1, c1, a2, c2, a3, c3⟩ s k split h (by
            rw [HG.out.bufl, ← HN.out.1]
            have : (k + 1) * nb split ≤ n * nb split := Nat.mul_le_mul_right _ htn
            rw [Nat.add_mul] at this
            omega) (by rw [← HN.out.2]; omega))
          unfold Sp.v at HEM
          dsimp only at HEM
          rw [← HN.out.2] at HEM
          obtain ⟨op, loc, reg, val⟩ := x
          have HINS := hid hins
          have HW4 := hid (show waits4 ⟨op, loc, reg, val⟩ = ((op == 4) || (op == 5)) from rfl)
          clear hsc hxs hj hz hx hpc hneg hge hins
          obtain ⟨w1, hw1⟩ : ∃ w1, w1 = w.alloc (.cells #[.slice (some ⟨sb, so, none⟩) s.pc.length c0, .slice a1 s.regs.length c1, .slice a2 s.mem.length c2, .slice a3 bl c3] 44) := ⟨_, rfl⟩
          obtain ⟨J, hJ⟩ : ∃ J : World → Prop, J = fun w' => Below w1.heap.size w1 w' := ⟨_, rfl⟩
          have HJ := hid (fun w' (h : Below w1.heap.size w1 w') => show J w' by rw [hJ]; exact h)
          rw [← hw1] at hcs hcp HB1
          have hs1 : w1.heap.size = w.heap.size + 1 := by rw [hw1]; simp
          have HBC := hid (show w1.cell? ⟨w.heap.size, 0, none⟩ = some (.slice (some ⟨sb, so, none⟩) s.pc.length c0) ∧ w1.cell? ⟨w.heap.size, 1, none⟩ = some (.slice a1 s.regs.length c1) ∧ w1.cell? ⟨w.heap.size, 2, none⟩ = some (.slice a2 s.mem.length c2) ∧ w1.cell? ⟨w.heap.size, 3, none⟩ = some (.slice a3 bl c3) by rw [hw1]; simp)
          have hbox := HBC.out.1
          have HC := hid (fun w' (h : J w') => show w'.cell? ⟨pb, po + k, none⟩ = some (.slice (some ⟨rb, ro, none⟩) z rc) ∧ w'.cell? ⟨sb, so + k, none⟩ = some (.int .i64 j) ∧ w'.cell? ⟨w.heap.size, 0, none⟩ = some (.slice (some ⟨sb, so, none⟩) s.pc.length c0) ∧ (w'.cell? ⟨rb, ro + j * 4, none⟩ = some (.int .i64 op) ∧ w'.cell? ⟨rb, ro + j * 4 + 1, none⟩ = some (.int .i64 loc) ∧ w'.cell? ⟨rb, ro + j * 4 + 2, none⟩ = some (.int .i64 reg) ∧ w'.cell? ⟨rb, ro + j * 4 + 3, none⟩ = some (.int .i64 val)) from by
            rw [hJ] at h
            have hb : Below w.heap.size w w' := HB1.out.trans (h.mono (by omega))
            exact ⟨(h.cell (p := ⟨pb, po + k, none⟩) (by show pb < _; omega)).trans hcp, (h.cell (p := ⟨sb, so + k, none⟩) (by show sb < _; omega)).trans hcs, (h.cell (p := ⟨w.heap.size, 0, none⟩) (by show w.heap.size < _; omega)).trans hbox, HINS.out.below hb hrl⟩)
          clear hJ
          go_enter Try.func45, Try.ntmps45
          go_wp2_with fail
          rw [← hw1]
          clear hw1
          refine wp_region_mix (by kernel_rfl) (by kernel_rfl) ?_
          go_wp2_with (first | (with_reducible refine wpMix_nil ?_) | (with_reducible refine wpMix_rd rfl rfl (fun K hK => ?_); go_simp; (try go_bits); refine hK _ ?_; clear hK K))
          have hbw : Below w1.heap.size w1 w1.drew := below_drewN 1 (Below.refl _ _)
          obtain ⟨w2, hw2⟩ : ∃ w2, w2 = w1.drew := ⟨_, rfl⟩
          rw [← hw2] at hbw ⊢
          have hs2 : w2.heap.size = w1.heap.size := by rw [hw2]; rfl
          clear hw2
          have hJ0 : J w2.drew := HJ.out _ (below_drewN 1 hbw)
          have hJ1 : J ((w2.alloc (.cells #[.int .i64 0, .int .i64 0, .int .i64 0, .int .i64 0] 79)).drew) := HJ.out _ (below_drewN 1 (hbw.alloc (by omega) _))
          refine MJ.wp_region_mix (J := J) (by kernel_rfl) (by kernel_rfl) ?_
          repeat (first | (refine MJ.wpMix_pure rfl rfl (fun K hK => ?_); go_simp; (first | refine hK _ ?_ | refine ⟨_, fun W hW => rfl, hK _ ?_⟩ | refine ⟨_, fun W hW => ⟨rfl, rfl⟩, hK _ ?_⟩); clear hK K) | (refine MJ.wpMix_held rfl rfl (by assumption) (fun K hK => ?_); go_simp; apply Exists.intro; refine And.intro (fun W hW => ?_) (hK _ ?_); (focus (have hcs := HC.out W hW; go_simp; try rfl)); clear hK K))
          (with_reducible refine MJ.wpMix_make rfl rfl (fun K hK => ?_); go_simp)
          refine hK _ _ (by assumption) ?_
          clear hK K
          (with_reducible refine MJ.wpMix_act rfl rfl rfl (fun K hK => ?_); go_simp)
          refine hK _ _ ?_
          clear hK K
          refine MJ.wpMix_nil ?_
          have hx3 : Box (w2.alloc (.cells #[.int .i64 op, .int .i64 loc, .int .i64 reg, .int .i64 val] 79)).drew w2.heap.size ⟨op, loc, reg, val⟩ := Box.new w2 ⟨op, loc, reg, val⟩ _
          have hb3 : Below w1.heap.size w1 (w2.alloc (.cells #[.int .i64 op, .int .i64 loc, .int .i64 reg, .int .i64 val] 79)).drew := below_drewN 1 (hbw.alloc (by omega) _)
          have x3 := Box.four hx3
          rw [hs2, hs1] at x3
          have HB3 := hid (HB1.out.trans (hb3.mono (by omega)))
          have HRS3 := hid (HS.out.below HB3.out)
          have HBX := hid (fun (i : Nat) v (hi : w1.cell? ⟨w.heap.size, i, none⟩ = some v) => (hb3.cell (p := ⟨w.heap.size, i, none⟩) (by show w.heap.size < _; omega)).trans hi)
          have b0 := HBX.out 0 _ HBC.out.1
          have b1 := HBX.out 1 _ HBC.out.2.1
          have b2 := HBX.out 2 _ HBC.out.2.2.1
          have b3 := HBX.out 3 _ HBC.out.2.2.2
          obtain ⟨w3, hw3⟩ : ∃ w3, w3 = (w2.alloc (.cells #[.int .i64 op, .int .i64 loc, .int .i64 reg, .int .i64 val] 79)).drew := ⟨_, rfl⟩
          rw [← hw3] at x3 HB3 HRS3 b0 b1 b2 b3 ⊢
          clear hx3 hb3 hw3 hJ0 hJ1 HJ HC hbw hbox hcs hcp
          have HEM3 := hid (HEM.out w3 HRS3.out)
          by_cases h45 : op = 4 ∨ op = 5
          · have HF := hid (show (!waits4 ⟨op, loc, reg, val⟩ || empty4 s k split) = empty4 s k split from by
              rw [HW4.out]
              rcases h45 with rfl | rfl <;> rfl)
            rcases h45 with rfl | rfl
            · go_wp2_with fail
              refine HEM3.out.mono ?_
              rintro e w4 ⟨rfl, hb4⟩
              go_wp2
              go_ret
              exact ⟨ret_bool HF.out.symm, HB3.out.trans (hb4.mono HB3.out.size)⟩
            · go_wp2_with fail
              refine HEM3.out.mono ?_
              rintro e w4 ⟨rfl, hb4⟩
              go_wp2
              go_ret
              exact ⟨ret_bool HF.out.symm, HB3.out.trans (hb4.mono HB3.out.size)⟩
          · have d4 : (op != 4) = true := by simp; omega
            have d5 : (op != 5) = true := by simp; omega
            have HF := hid (show (!waits4 ⟨op, loc, reg, val⟩ || empty4 s k split) = true from by
              rw [HW4.out]
              have e4 : (op == 4) = false := by simp; omega
              have e5 : (op == 5) = false := by simp; omega
              rw [e4, e5]; rfl)
            clear h45
            go_wp2
            go_ret
            exact ⟨ret_bool HF.out.symm, HB3.out⟩
        · rw [decide_eq_false hjz] at HGO
          have d3 : ((j : Int) == (z : Int)) = true := by simp; omega
          have HR := hid (show ready4 p s split k = false from by unfold ready4; rw [HGO.out, Bool.false_and])
          rw [HR.out]
          obtain ⟨pb, po, r, rc, xs', hpa, hpl', hxs', hpc, _, _⟩ := HP.out.at' k (by rw [← HN.out.1]; exact htn)
          subst hpa
          obtain rfl : xs = xs' := by rw [hxs] at hxs'; exact Option.some.inj hxs'
          rw [← hz] at hpc
          have hcp := (HB1.out.cell (p := ⟨pb, po + k, none⟩) hpl').trans hpc
          clear hsc hxs hj hz hpc hneg hge hxs'
          go_enter Try.func45, Try.ntmps45
          go_wp2_with fail
          refine wp_region_mix (by kernel_rfl) (by kernel_rfl) ?_
          go_wp2_with (first | (with_reducible refine wpMix_nil ?_) | (with_reducible refine wpMix_rd rfl rfl (fun K hK => ?_); go_simp; (try go_bits); refine hK _ ?_; clear hK K))
          go_ret
          exact ⟨rfl, below_drewN 1 HB1.out⟩
end Go.Proofs.Ytbncmeggnhggkaa
