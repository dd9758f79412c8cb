/-
  PROVED HERE: what laws.eqInstr, eqInstrS, eqInstrSS do. CONDITIONS: as each theorem states.
-/
import Derived.Test.YthlmfjoiicnomaaPrgA
namespace Go.Proofs.Ythlmfjoiicnomaa
open Go.RowKit
set_option linter.unusedVariables false
set_option linter.unusedSimpArgs false

theorem ins_eq_iff (x y : Ins) : x = y ↔ x.op = y.op ∧ x.loc = y.loc ∧ x.reg = y.reg ∧ x.val = y.val := by
  obtain ⟨a, b, c, d⟩ := x
  obtain ⟨a', b', c', d'⟩ := y
  simp

set_option maxHeartbeats 1600000 in
theorem eqInstr_c (w : World) (x y : Ins) :
    Calls Try.prog 74 #[x.v, y.v] w fun e w' => e = .returned (.bool (decide (x = y))) ∧ Below w.heap.size w w' := by
  have H := hid (ins_eq_iff x y)
  obtain ⟨o, l, r, v⟩ := x
  obtain ⟨o', l', r', v'⟩ := y
  go_enter Try.func74, Try.ntmps74
  go_wp2
  all_goals
    go_ret
    refine ⟨ret_bool ?_, ((Below.refl _ _).alloc (Nat.le_refl _) _).alloc (by simp) _⟩
  all_goals (have h := H.out; rw [Bool.eq_iff_iff]; simp_all)

theorem eqInstrS_c (w : World) (a a' : Option Addr) (cap cap' : Nat) (xs ys : List Ins) (h : Rd w a (insV xs)) (h' : Rd w a' (insV ys)) (hl : xs.length ≤ 1048576) (hl' : ys.length ≤ 1048576) :
    Calls Try.prog 47 #[.slice a xs.length cap, .slice a' ys.length cap'] w fun e w' => e = .returned (.bool (decide (xs = ys))) ∧ Below w.heap.size w w' := by
  by_cases hlen : xs.length = ys.length
  · obtain ⟨n, hn⟩ : ∃ n, n = ys.length := ⟨_, rfl⟩
    have HN : Hid (xs.length = n ∧ ys.length = n) := ⟨hlen.trans hn.symm, hn.symm⟩
    rw [hlen, ← hn]
    rw [← hn] at hl'
    clear hn hlen hl
    go_enter Try.func47, Try.ntmps47
    go_wp2
    go_loopw [5] (fun i wr => ∃ k : Nat, k ≤ n ∧ i = .int .i64 k ∧ (∀ j, j < k → xs[j]? = ys[j]?) ∧ Below w.heap.size w wr) (fun i _ => n - (intOf i).toNat)
    case atStart => exact ⟨0, Nat.zero_le _, rfl, fun j hj => by omega, Below.refl _ _⟩
    case round =>
      obtain ⟨k, hk, rfl, hsame, hbel⟩ := hrel
      have HS : Hid _ := hsame
      have HB := hid hbel
      clear hsame
      by_cases hlt : k < n
      · obtain ⟨b, off, x, rfl, hb, hx, hat⟩ := h.ins k (by rw [HN.out.1]; exact hlt)
        obtain ⟨b', off', y, rfl, hb', hy, hat'⟩ := h'.ins k (by rw [HN.out.2]; exact hlt)
        obtain ⟨c0, c1, c2, c3⟩ := hat.below hbel hb
        obtain ⟨d0, d1, d2, d3⟩ := hat'.below hbel hb'
        have hX : Hid (xs[k]? = some x ∧ ys[k]? = some y) := ⟨hx, hy⟩
        have hlt' : (k : Int) < n := by omega
        clear hat hat' hx hy h h' hbel
        by_cases he : x = y
        · have hd : decide (x = y) = true := by simpa using he
          have HE := hid he
          have HC := hid (fun w => eqInstr_c w x y)
          rw [hd] at HC
          clear he hd
          go_wp2_with fail
          refine wp_region_mix (by kernel_rfl) (by kernel_rfl) ?_
          go_wp2_with (first | (with_reducible refine wpMix_rd rfl rfl (fun K hK => ?_); go_simp; (try go_bits); refine hK _ ?_; clear hK K) | (with_reducible refine wpMix_act (o := ⟨_, .call _, _, _, _, _⟩) rfl rfl (fun K hK => ?_)))
          refine (HC.out _).mono ?_
          rintro e w3 ⟨rfl, hb3⟩
          go_wp2_with (first | (with_reducible refine wpMix_nil ?_) | (with_reducible refine wpMix_rd rfl rfl (fun K hK => ?_); go_simp; (try go_bits); refine hK _ ?_; clear hK K))
          go_roundw
          case rel => exact ⟨k + 1, by omega, by go_num, fun j hj => by
            by_cases hjk : j = k
            · subst hjk; rw [hX.out.1, hX.out.2, HE.out]
            · exact HS.out j (by omega), HB.out.drew.trans (hb3.mono HB.out.size)⟩
          case measure => simp [intOf]; omega
        · have hd : decide (x = y) = false := by simpa using he
          have HE := hid he
          have HC := hid (fun w => eqInstr_c w x y)
          rw [hd] at HC
          clear he hd
          go_wp2_with fail
          refine wp_region_mix (by kernel_rfl) (by kernel_rfl) ?_
          go_wp2_with (first | (with_reducible refine wpMix_rd rfl rfl (fun K hK => ?_); go_simp; (try go_bits); refine hK _ ?_; clear hK K) | (with_reducible refine wpMix_act (o := ⟨_, .call _, _, _, _, _⟩) rfl rfl (fun K hK => ?_)))
          refine (HC.out _).mono ?_
          rintro e w3 ⟨rfl, hb3⟩
          go_wp2_with (first | (with_reducible refine wpMix_nil ?_) | (with_reducible refine wpMix_rd rfl rfl (fun K hK => ?_); go_simp; (try go_bits); refine hK _ ?_; clear hK K))
          go_ret
          refine ⟨ret_bool ?_, HB.out.drew.trans (hb3.mono HB.out.size)⟩
          symm
          rw [decide_eq_false_iff_not]
          intro e
          subst e
          have := hX.out.1.symm.trans hX.out.2
          simp at this
          exact HE.out this
      · go_wp2
        go_ret
        refine ⟨ret_bool ?_, hbel⟩
        symm
        rw [decide_eq_true_eq]
        apply List.ext_getElem?
        intro j
        by_cases hj : j < k
        · exact HS.out j hj
        · rw [List.getElem?_eq_none (by rw [HN.out.1]; omega), List.getElem?_eq_none (by rw [HN.out.2]; omega)]
  · have hd : decide (xs = ys) = false := by
      rw [decide_eq_false_iff_not]; intro e; rw [e] at hlen; exact hlen rfl
    have hne : ((xs.length : Int) == ys.length) = false := by simp; omega
    have hne' : ((xs.length : Int) != ys.length) = true := by simp; omega
    rw [hd]
    go_enter Try.func47, Try.ntmps47
    go_wp2
    go_ret
    exact ⟨rfl, Below.refl _ _⟩

theorem eqInstrSS_c (w : World) (a a' : Option Addr) (cap cap' : Nat) (p q : Prg) (h : RdP w a p) (h' : RdP w a' q) (hl : sizeP p ≤ 1048576) (hl' : sizeP q ≤ 1048576) :
    Calls Try.prog 20 #[.slice a p.length cap, .slice a' q.length cap'] w fun e w' => e = .returned (.bool (decide (p = q))) ∧ Below w.heap.size w w' := by
  have h1 := sizeP_len p
  by_cases hlen : p.length = q.length
  · obtain ⟨n, hn⟩ : ∃ n, n = q.length := ⟨_, rfl⟩
    have HN : Hid (p.length = n ∧ q.length = n) := ⟨hlen.trans hn.symm, hn.symm⟩
    have HL := hid (And.intro hl hl')
    rw [hlen, ← hn]
    have hln : n ≤ 1048576 := by omega
    clear hn hlen hl hl' h1
    go_enter Try.func20, Try.ntmps20
    go_wp2
    go_loopw [5] (fun i wr => ∃ k : Nat, k ≤ n ∧ i = .int .i64 k ∧ (∀ j, j < k → p[j]? = q[j]?) ∧ Below w.heap.size w wr) (fun i _ => n - (intOf i).toNat)
    case atStart => exact ⟨0, Nat.zero_le _, rfl, fun j hj => by omega, Below.refl _ _⟩
    case round =>
      obtain ⟨k, hk, rfl, hsame, hbel⟩ := hrel
      have HS : Hid _ := hsame
      have HB := hid hbel
      clear hsame
      by_cases hlt : k < n
      · obtain ⟨b, off, r, c, xs, rfl, hb, hx, hc, hr⟩ := h.at k (by rw [HN.out.1]; exact hlt)
        obtain ⟨b', off', r', c', ys, rfl, hb', hy, hc', hr'⟩ := h'.at k (by rw [HN.out.2]; exact hlt)
        have hcx := (hbel.cell (p := ⟨b, off + k, none⟩) hb).trans hc
        have hcx' := (hbel.cell (p := ⟨b', off' + k, none⟩) hb').trans hc'
        have hX : Hid (p[k]? = some xs ∧ q[k]? = some ys) := ⟨hx, hy⟩
        have HR := hid (And.intro (hr.below hbel) (hr'.below hbel))
        have hlt' : (k : Int) < n := by omega
        have HC := hid (fun w a cap a' cap' h h' => eqInstrS_c w a a' cap cap' xs ys h h' (Nat.le_trans (sizeP_row hX.out.1) HL.out.1) (Nat.le_trans (sizeP_row hX.out.2) HL.out.2))
        obtain ⟨m, hm⟩ : ∃ m, m = xs.length := ⟨_, rfl⟩
        obtain ⟨m', hm'⟩ : ∃ m', m' = ys.length := ⟨_, rfl⟩
        rw [← hm] at hcx HC
        rw [← hm'] at hcx' HC
        clear hc hc' hx hy h h' hbel hr hr' hm hm'
        by_cases he : xs = ys
        · have hd : decide (xs = ys) = true := by simpa using he
          have HE := hid he
          rw [hd] at HC
          clear he hd
          go_wp2_with fail
          refine wp_region_mix (by kernel_rfl) (by kernel_rfl) ?_
          go_wp2_with (first | (with_reducible refine wpMix_rd rfl rfl (fun K hK => ?_); go_simp; (try go_bits); refine hK _ ?_; clear hK K) | (with_reducible refine wpMix_act (o := ⟨_, .call _, _, _, _, _⟩) rfl rfl (fun K hK => ?_)))
          refine (HC.out _ _ _ _ _ HR.out.1.drew HR.out.2.drew).mono ?_
          rintro e w3 ⟨rfl, hb3⟩
          go_wp2_with (first | (with_reducible refine wpMix_nil ?_) | (with_reducible refine wpMix_rd rfl rfl (fun K hK => ?_); go_simp; (try go_bits); refine hK _ ?_; clear hK K))
          go_roundw
          case rel => exact ⟨k + 1, by omega, by go_num, fun j hj => by
            by_cases hjk : j = k
            · subst hjk; rw [hX.out.1, hX.out.2, HE.out]
            · exact HS.out j (by omega), HB.out.drew.trans (hb3.mono HB.out.size)⟩
          case measure => simp [intOf]; omega
        · have hd : decide (xs = ys) = false := by simpa using he
          have HE := hid he
          rw [hd] at HC
          clear he hd
          go_wp2_with fail
          refine wp_region_mix (by kernel_rfl) (by kernel_rfl) ?_
          go_wp2_with (first | (with_reducible refine wpMix_rd rfl rfl (fun K hK => ?_); go_simp; (try go_bits); refine hK _ ?_; clear hK K) | (with_reducible refine wpMix_act (o := ⟨_, .call _, _, _, _, _⟩) rfl rfl (fun K hK => ?_)))
          refine (HC.out _ _ _ _ _ HR.out.1.drew HR.out.2.drew).mono ?_
          rintro e w3 ⟨rfl, hb3⟩
          go_wp2_with (first | (with_reducible refine wpMix_nil ?_) | (with_reducible refine wpMix_rd rfl rfl (fun K hK => ?_); go_simp; (try go_bits); refine hK _ ?_; clear hK K))
          go_ret
          refine ⟨ret_bool ?_, HB.out.drew.trans (hb3.mono HB.out.size)⟩
          symm
          rw [decide_eq_false_iff_not]
          intro e
          subst e
          have := hX.out.1.symm.trans hX.out.2
          simp at this
          exact HE.out this
      · go_wp2
        go_ret
        refine ⟨ret_bool ?_, hbel⟩
        symm
        rw [decide_eq_true_eq]
        apply List.ext_getElem?
        intro j
        by_cases hj : j < k
        · exact HS.out j hj
        · rw [List.getElem?_eq_none (by rw [HN.out.1]; omega), List.getElem?_eq_none (by rw [HN.out.2]; omega)]
  · have hd : decide (p = q) = false := by
      rw [decide_eq_false_iff_not]; intro e; rw [e] at hlen; exact hlen rfl
    have h2 := sizeP_len q
    have hne : ((p.length : Int) == q.length) = false := by simp; omega
    have hne' : ((p.length : Int) != q.length) = true := by simp; omega
    rw [hd]
    go_enter Try.func20, Try.ntmps20
    go_wp2
    go_ret
    exact ⟨rfl, Below.refl _ _⟩
theorem eqSameSS_c (w : World) (a a' : Option Addr) (cap cap' : Nat) (p : Prg) (h : RdP w a p) (h' : RdP w a' p) (hl : sizeP p ≤ 1048576) :
    Calls Try.prog 20 #[.slice a p.length cap, .slice a' p.length cap'] w fun e w' => e = .returned (.bool true) ∧ Below w.heap.size w w' :=
  (eqInstrSS_c w a a' cap cap' p p h h' hl hl).mono fun e w' h => by simpa using h
end Go.Proofs.Ythlmfjoiicnomaa
