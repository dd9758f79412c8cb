/-
  PROVED HERE: what ProgramSame of both packages does. CONDITIONS: as each theorem states.
-/
import Derived.Test.YtciplfdgjbehgaaPrgB
import Derived.Laws.StructEq
namespace Go.Proofs.Ytciplfdgjbehgaa
open Go.RowKit
set_option linter.unusedVariables false
set_option linter.unusedSimpArgs false

theorem equalIns (w : World) (x y : Ins) : (Op.equalIn 10000 24 x.v y.v).run Try.prog w = .ok (decide (x = y)) w := by
  have h1 : Try.prog.underlying 24 = some (.struct (Try.prog.fieldsOf 24)) := by kernel_rfl
  have h2 : Try.prog.stoodInHeld 24 = false := by kernel_rfl
  rw [run_equalIn_struct w 9999 _ _ _ h1 h2]
  obtain ⟨o, l, r, v⟩ := x
  obtain ⟨o', l', r', v'⟩ := y
  simp only [Program.fieldsOf, Try.underlying24]
  simp only [Op.eqFields]
  simp [go_sem]
  by_cases e0 : o = o' <;> by_cases e1 : l = l' <;> by_cases e2 : r = r' <;> by_cases e3 : v = v' <;> simp [e0, e1, e2, e3]
theorem neq_ins {ρ : Operand → Value} {o : Oper} {s t : Operand} {x y : Ins} (w : World) (ho : o.op = .binOp .neq 24 s t 24) (hs : ρ s = x.v) (ht : ρ t = y.v) :
    (execOp ρ o).run Try.prog w = .ok (.value (.bool (!decide (x = y)))) w := by
  have h3 : Try.prog.eqGuardType Try.prog.depth 24 = false := by kernel_rfl
  unfold execOp
  rw [ho]
  simp only [hs, ht, Sem.run_bind]
  rw [run_eqGuard_agg w _ _ _ _ _ _ h3]
  simp only [Result.andThen_ok]
  rw [run_neq_struct]
  rw [equalIns]
  rfl

theorem slicesEqual_c (w : World) (a a' : Option Addr) (cap cap' : Nat) (xs ys : List Ins) (h : Rd w a (insV xs)) (h' : Rd w a' (insV ys)) (hl : xs.length ≤ 1048576) (hl' : ys.length ≤ 1048576) :
    Calls Try.prog 58 #[.slice a xs.length cap, .slice a' ys.length cap'] w fun e w' => e = .returned (.bool (decide (xs = ys))) ∧ Below w.heap.size w w' := by
  by_cases hlen : xs.length = ys.length
  · obtain ⟨n, hn⟩ : ∃ n, n = ys.length := ⟨_, rfl⟩
    have HN : Hid (xs.length = n ∧ ys.length = n) := ⟨hlen.trans hn.symm, hn.symm⟩
    rw [hlen, ← hn]
    rw [← hn] at hl'
    clear hn hlen hl
    go_enter Try.func58, Try.ntmps58
    go_wp2
    go_loopw [13] (fun i wr => ∃ k : Nat, k ≤ n ∧ i = .int .i64 k ∧ (∀ j, j < k → xs[j]? = ys[j]?) ∧ Below w.heap.size w wr) (fun i _ => n - (intOf i).toNat)
    case atStart => exact ⟨0, Nat.zero_le _, rfl, fun j hj => by omega, Below.refl _ _⟩
    case round =>
      obtain ⟨k, hk, rfl, hsame, hbel⟩ := hrel
      have HS : Hid _ := hsame
      have HB := hid hbel
      clear hsame
      by_cases hlt : k < n
      · obtain ⟨b, off, x, rfl, hb, hx, hat⟩ := h.ins k (by rw [HN.out.1]; exact hlt)
        obtain ⟨b', off', y, rfl, hb', hy, hat'⟩ := h'.ins k (by rw [HN.out.2]; exact hlt)
        obtain ⟨c0, c1, c2, c3⟩ := hat.below hbel hb
        obtain ⟨d0, d1, d2, d3⟩ := hat'.below hbel hb'
        have hX : Hid (xs[k]? = some x ∧ ys[k]? = some y) := ⟨hx, hy⟩
        have hlt' : (k : Int) < n := by omega
        clear hat hat' hx hy h h' hbel
        go_wp2_with fail
        refine wp_region_mix (by kernel_rfl) (by kernel_rfl) ?_
        go_wp2_with (with_reducible refine wpMix_rd rfl rfl (fun K hK => ?_); go_simp; (try go_bits); refine hK _ ?_; clear hK K)
        refine wpMix_read (.bool (!decide (x = y))) rfl rfl (neq_ins (s := .tmp 19) (t := .tmp 23) _ rfl rfl rfl) ?_
        by_cases he : x = y
        · have hd : decide (x = y) = true := by simpa using he
          have HE := hid he
          rw [hd]
          clear he hd
          go_wp2_with (first | (with_reducible refine wpMix_nil ?_) | (with_reducible refine wpMix_rd rfl rfl (fun K hK => ?_); go_simp; (try go_bits); refine hK _ ?_; clear hK K))
          go_roundw
          case rel => exact ⟨k + 1, by omega, by go_num, fun j hj => by
            by_cases hjk : j = k
            · subst hjk; rw [hX.out.1, hX.out.2, HE.out]
            · exact HS.out j (by omega), HB.out.drew⟩
          case measure => simp [intOf]; omega
        · have hd : decide (x = y) = false := by simpa using he
          have HE := hid he
          rw [hd]
          clear he hd
          go_wp2_with (first | (with_reducible refine wpMix_nil ?_) | (with_reducible refine wpMix_rd rfl rfl (fun K hK => ?_); go_simp; (try go_bits); refine hK _ ?_; clear hK K))
          go_ret
          refine ⟨ret_bool ?_, HB.out.drew⟩
          symm
          rw [decide_eq_false_iff_not]
          intro e
          subst e
          have := hX.out.1.symm.trans hX.out.2
          simp at this
          exact HE.out this
      · go_wp2
        go_ret
        refine ⟨ret_bool ?_, hbel⟩
        symm
        rw [decide_eq_true_eq]
        apply List.ext_getElem?
        intro j
        by_cases hj : j < k
        · exact HS.out j hj
        · rw [List.getElem?_eq_none (by rw [HN.out.1]; omega), List.getElem?_eq_none (by rw [HN.out.2]; omega)]
  · have hd : decide (xs = ys) = false := by
      rw [decide_eq_false_iff_not]; intro e; rw [e] at hlen; exact hlen rfl
    have hne : ((xs.length : Int) == ys.length) = false := by simp; omega
    have hne' : ((xs.length : Int) != ys.length) = true := by simp; omega
    rw [hd]
    go_enter Try.func58, Try.ntmps58
    go_wp2
    go_ret
    exact ⟨rfl, Below.refl _ _⟩

theorem same1_c (w : World) (a a' : Option Addr) (cap cap' : Nat) (xs ys : List Ins) (h : Rd w a (insV xs)) (h' : Rd w a' (insV ys)) (hl : xs.length ≤ 1048576) (hl' : ys.length ≤ 1048576) :
    Calls Try.prog 57 #[.slice a xs.length cap, .slice a' ys.length cap'] w fun e w' => e = .returned (.bool (decide (xs = ys))) ∧ Below w.heap.size w w' := by
  have HC := hid (slicesEqual_c w a a' cap cap' xs ys h h' hl hl')
  clear h h' hl hl'
  go_enter Try.func57, Try.ntmps57
  go_wp2_with fail
  refine HC.out.mono ?_
  rintro e w1 ⟨rfl, hb⟩
  go_wp2
  go_ret
  exact ⟨rfl, hb⟩
theorem callSame : ∀ args (w : World), (callFunc 57 args).run Try.prog w = .ok (.enter 57 args) w :=
  fun args w => run_callFunc Try.func57 (by kernel_rfl) rfl args w

theorem equalFunc_c (w : World) (a a' : Option Addr) (cap cap' : Nat) (p q : Prg) (h : RdP w a p) (h' : RdP w a' q) (hl : sizeP p ≤ 1048576) (hl' : sizeP q ≤ 1048576) :
    Calls Try.prog 56 #[.slice a p.length cap, .slice a' q.length cap', .func (.func 57) #[] #[]] w fun e w' => e = .returned (.bool (decide (p = q))) ∧ Below w.heap.size w w' := by
  have h1 := sizeP_len p
  have h2 := sizeP_len q
  have hcf := callSame
  by_cases hlen : p.length = q.length
  · obtain ⟨n, hn⟩ : ∃ n, n = q.length := ⟨_, rfl⟩
    have HN : Hid (p.length = n ∧ q.length = n) := ⟨hlen.trans hn.symm, hn.symm⟩
    have HL := hid (And.intro hl hl')
    rw [hlen, ← hn]
    have hln : n ≤ 1048576 := by omega
    clear hn hlen hl hl' h1 h2
    go_enter Try.func56, Try.ntmps56
    go_wp2
    go_loopw [17] (fun i wr => ∃ k : Nat, k ≤ n ∧ i = .int .i64 k ∧ (∀ j, j < k → p[j]? = q[j]?) ∧ Below w.heap.size w wr) (fun i _ => n - (intOf i).toNat)
    case atStart => exact ⟨0, Nat.zero_le _, rfl, fun j hj => by omega, Below.refl _ _⟩
    case round =>
      obtain ⟨k, hk, rfl, hsame, hbel⟩ := hrel
      have HS : Hid _ := hsame
      have HB := hid hbel
      clear hsame
      by_cases hlt : k < n
      · obtain ⟨b, off, r, c, xs, rfl, hb, hx, hc, hr⟩ := h.at k (by rw [HN.out.1]; exact hlt)
        obtain ⟨b', off', r', c', ys, rfl, hb', hy, hc', hr'⟩ := h'.at k (by rw [HN.out.2]; exact hlt)
        have hcx := (hbel.cell (p := ⟨b, off + k, none⟩) hb).trans hc
        have hcx' := (hbel.cell (p := ⟨b', off' + k, none⟩) hb').trans hc'
        have hX : Hid (p[k]? = some xs ∧ q[k]? = some ys) := ⟨hx, hy⟩
        have HR := hid (And.intro (hr.below hbel) (hr'.below hbel))
        have hlt' : (k : Int) < n := by omega
        have HC := hid (fun w a cap a' cap' h h' => same1_c w a a' cap cap' xs ys h h' (Nat.le_trans (sizeP_row hX.out.1) HL.out.1) (Nat.le_trans (sizeP_row hX.out.2) HL.out.2))
        obtain ⟨m, hm⟩ : ∃ m, m = xs.length := ⟨_, rfl⟩
        obtain ⟨m', hm'⟩ : ∃ m', m' = ys.length := ⟨_, rfl⟩
        rw [← hm] at hcx HC
        rw [← hm'] at hcx' HC
        clear hc hc' hx hy h h' hbel hr hr' hm hm'
        by_cases he : xs = ys
        · have hd : decide (xs = ys) = true := by simpa using he
          have HE := hid he
          rw [hd] at HC
          clear he hd
          go_wp2_with fail
          refine (HC.out _ _ _ _ _ HR.out.1 HR.out.2).mono ?_
          rintro e w3 ⟨rfl, hb3⟩
          go_wp2_with fail
          go_roundw
          case rel => exact ⟨k + 1, by omega, by go_num, fun j hj => by
            by_cases hjk : j = k
            · subst hjk; rw [hX.out.1, hX.out.2, HE.out]
            · exact HS.out j (by omega), HB.out.trans (hb3.mono HB.out.size)⟩
          case measure => simp [intOf]; omega
        · have hd : decide (xs = ys) = false := by simpa using he
          have HE := hid he
          rw [hd] at HC
          clear he hd
          go_wp2_with fail
          refine (HC.out _ _ _ _ _ HR.out.1 HR.out.2).mono ?_
          rintro e w3 ⟨rfl, hb3⟩
          go_wp2_with fail
          go_ret
          refine ⟨ret_bool ?_, HB.out.trans (hb3.mono HB.out.size)⟩
          symm
          rw [decide_eq_false_iff_not]
          intro e
          subst e
          have := hX.out.1.symm.trans hX.out.2
          simp at this
          exact HE.out this
      · go_wp2
        go_ret
        refine ⟨ret_bool ?_, hbel⟩
        symm
        rw [decide_eq_true_eq]
        apply List.ext_getElem?
        intro j
        by_cases hj : j < k
        · exact HS.out j hj
        · rw [List.getElem?_eq_none (by rw [HN.out.1]; omega), List.getElem?_eq_none (by rw [HN.out.2]; omega)]
  · have hd : decide (p = q) = false := by
      rw [decide_eq_false_iff_not]; intro e; rw [e] at hlen; exact hlen rfl
    have hne : ((p.length : Int) == q.length) = false := by simp; omega
    have hne' : ((p.length : Int) != q.length) = true := by simp; omega
    rw [hd]
    go_enter Try.func56, Try.ntmps56
    go_wp2
    go_ret
    exact ⟨rfl, Below.refl _ _⟩

theorem sameI_c (w : World) (a : Option Addr) (cap : Nat) (p : Prg) (a' : Option Addr) (cap' : Nat) (q : Prg) (h : RdP w a p) (h' : RdP w a' q) (hl : sizeP p ≤ 1048576) (hl' : sizeP q ≤ 1048576) :
    Calls Try.prog 32 #[.slice a p.length cap, .slice a' q.length cap'] w fun e w' => e = .returned (.bool (decide (p = q))) ∧ Below w.heap.size w w' := by
  have HC := hid (equalFunc_c w a a' cap cap' p q h h' hl hl')
  clear h h' hl hl'
  go_enter Try.func32, Try.ntmps32
  go_wp2_with fail
  refine HC.out.mono ?_
  rintro e w1 ⟨rfl, hb⟩
  go_wp2
  go_ret
  exact ⟨rfl, hb⟩

theorem sameS_c (w : World) (a : Option Addr) (cap : Nat) (p : Prg) (a' : Option Addr) (cap' : Nat) (q : Prg) (h : RdP w a p) (h' : RdP w a' q) (hl : sizeP p ≤ 1048576) (hl' : sizeP q ≤ 1048576) :
    Calls Try.prog 33 #[.slice a p.length cap, .slice a' q.length cap'] w fun e w' => e = .returned (.bool (decide (p = q))) ∧ Below w.heap.size w w' := by
  have h1 := sizeP_len p
  have h2 := sizeP_len q
  by_cases hlen : p.length = q.length
  · obtain ⟨n, hn⟩ : ∃ n, n = q.length := ⟨_, rfl⟩
    have HN : Hid (p.length = n ∧ q.length = n) := ⟨hlen.trans hn.symm, hn.symm⟩
    have HL := hid (And.intro hl hl')
    rw [hlen, ← hn]
    have hln : n ≤ 1048576 := by omega
    clear hn hlen hl hl' h1 h2
    go_enter Try.func33, Try.ntmps33
    go_wp2
    go_loopw [5] (fun i wr => ∃ k : Nat, k ≤ n ∧ i = .int .i64 k ∧ (∀ j, j < k → p[j]? = q[j]?) ∧ Below w.heap.size w wr) (fun i _ => n - (intOf i).toNat)
    case atStart => exact ⟨0, Nat.zero_le _, rfl, fun j hj => by omega, Below.refl _ _⟩
    case round =>
      obtain ⟨k, hk, rfl, hsame, hbel⟩ := hrel
      obtain ⟨wo, rfl⟩ : ∃ wo : World, wo = wr := ⟨_, rfl⟩
      have HS : Hid _ := hsame
      have HB := hid hbel
      clear hsame
      by_cases hlt : k < n
      · obtain ⟨b, off, r, c, xs, rfl, hb, hx, hc, hr⟩ := h.at k (by rw [HN.out.1]; exact hlt)
        obtain ⟨b', off', r', c', ys, rfl, hb', hy, hc', hr'⟩ := h'.at k (by rw [HN.out.2]; exact hlt)
        have hcx := (hbel.cell (p := ⟨b, off + k, none⟩) hb).trans hc
        have hcx' := (hbel.cell (p := ⟨b', off' + k, none⟩) hb').trans hc'
        have hX : Hid (p[k]? = some xs ∧ q[k]? = some ys) := ⟨hx, hy⟩
        have HR := hid (And.intro hr hr')
        have HCX := hid (And.intro hc hc')
        have HLT := hid (And.intro hb hb')
        have hlt' : (k : Int) < n := by omega
        have hm1 := Nat.le_trans (sizeP_row hx) HL.out.1
        have hm2 := Nat.le_trans (sizeP_row hy) HL.out.2
        obtain ⟨m, hm⟩ : ∃ m, m = xs.length := ⟨_, rfl⟩
        obtain ⟨m', hm'⟩ : ∃ m', m' = ys.length := ⟨_, rfl⟩
        have HM := hid (And.intro hm hm')
        rw [← hm] at hcx hm1 HCX
        rw [← hm'] at hcx' hm2 HCX
        clear hc hc' hx hy h h' hbel hr hr' hm hm'
        by_cases he : m = m'
        · subst he
          go_wp2_with fail
          refine wp_region_mix (by kernel_rfl) (by kernel_rfl) ?_
          go_wp2_with (first | (with_reducible refine wpMix_nil ?_) | (with_reducible refine wpMix_rd rfl rfl (fun K hK => ?_); go_simp; (try go_bits); refine hK _ ?_; clear hK K))
          clear hcx hcx'
          go_loopw [6] (fun i wr => ∃ t : Nat, t ≤ m ∧ i = .int .i64 t ∧ (∀ j, j < t → xs[j]? = ys[j]?) ∧ Below w.heap.size w wr) (fun i _ => m - (intOf i).toNat)
          case atStart => exact ⟨0, Nat.zero_le _, rfl, fun j hj => by omega, HB.out.drew⟩
          case round =>
            obtain ⟨t, ht, rfl, hsame2, hbel2⟩ := hrel
            have HS2 := hid hsame2
            have HB2 := hid hbel2
            have hcx := (hbel2.cell (p := ⟨b, off + k, none⟩) HLT.out.1).trans HCX.out.1
            have hcx' := (hbel2.cell (p := ⟨b', off' + k, none⟩) HLT.out.2).trans HCX.out.2
            clear hsame2
            by_cases hlm : t < m
            · obtain ⟨bx, ox, x, rfl, hbx, hx, hat⟩ := HR.out.1.ins t (by rw [← HM.out.1]; exact hlm)
              obtain ⟨by', oy, y, rfl, hby, hy, hat'⟩ := HR.out.2.ins t (by rw [← HM.out.2]; exact hlm)
              obtain ⟨c0, c1, c2, c3⟩ := hat.below hbel2 hbx
              obtain ⟨d0, d1, d2, d3⟩ := hat'.below hbel2 hby
              have hX2 := hid (And.intro hx hy)
              have hltm : (t : Int) < m := by omega
              clear hat hat' hx hy hbel2
              go_wp2_with fail
              refine wp_region_mix (by kernel_rfl) (by kernel_rfl) ?_
              go_wp2_with (with_reducible refine wpMix_rd rfl rfl (fun K hK => ?_); go_simp; (try go_bits); refine hK _ ?_; clear hK K)
              refine wpMix_read (.bool (!decide (x = y))) rfl rfl (neq_ins (s := .tmp 44) (t := .tmp 51) _ rfl rfl rfl) ?_
              by_cases he : x = y
              · have hd : decide (x = y) = true := by simpa using he
                have HE := hid he
                rw [hd]
                clear he hd
                go_wp2_with (first | (with_reducible refine wpMix_nil ?_) | (with_reducible refine wpMix_rd rfl rfl (fun K hK => ?_); go_simp; (try go_bits); refine hK _ ?_; clear hK K))
                go_roundw
                case rel => exact ⟨t + 1, by omega, by go_num, fun j hj => by
                  by_cases hjk : j = t
                  · subst hjk; rw [hX2.out.1, hX2.out.2, HE.out]
                  · exact HS2.out j (by omega), HB2.out.drew⟩
                case measure => simp [intOf]; omega
              · have hd : decide (x = y) = false := by simpa using he
                have HE := hid he
                rw [hd]
                clear he hd
                go_wp2_with (first | (with_reducible refine wpMix_nil ?_) | (with_reducible refine wpMix_rd rfl rfl (fun K hK => ?_); go_simp; (try go_bits); refine hK _ ?_; clear hK K))
                go_ret
                refine ⟨ret_bool ?_, HB2.out.drew⟩
                symm
                rw [decide_eq_false_iff_not]
                intro e
                subst e
                have h1 := hX.out.1.symm.trans hX.out.2
                simp only [Option.some.injEq] at h1
                subst h1
                have h2 := hX2.out.1.symm.trans hX2.out.2
                simp only [Option.some.injEq] at h2
                exact HE.out h2
            · have HT := hid (show t = m by omega)
              go_wp2
              go_roundw
              case rel => exact ⟨k + 1, by omega, by go_num, fun j hj => by
                by_cases hjk : j = k
                · subst hjk
                  rw [hX.out.1, hX.out.2]
                  congr 1
                  apply List.ext_getElem?
                  intro i
                  by_cases hi : i < t
                  · exact HS2.out i hi
                  · rw [List.getElem?_eq_none (by rw [← HM.out.1]; have := HT.out; omega), List.getElem?_eq_none (by rw [← HM.out.2]; have := HT.out; omega)]
                · exact HS.out j (by omega), HB2.out⟩
              case measure => simp [intOf]; omega
        · have hne : ((m : Int) == m') = false := by simp; omega
          have hne' : ((m : Int) != m') = true := by simp; omega
          have HE := hid he
          clear he
          go_wp2_with fail
          refine wp_region_mix (by kernel_rfl) (by kernel_rfl) ?_
          go_wp2_with (first | (with_reducible refine wpMix_nil ?_) | (with_reducible refine wpMix_rd rfl rfl (fun K hK => ?_); go_simp; (try go_bits); refine hK _ ?_; clear hK K))
          go_ret
          refine ⟨ret_bool ?_, HB.out.drew⟩
          symm
          rw [decide_eq_false_iff_not]
          intro e
          subst e
          have h1 := hX.out.1.symm.trans hX.out.2
          simp only [Option.some.injEq] at h1
          subst h1
          exact HE.out (HM.out.1.trans HM.out.2.symm)
      · go_wp2
        go_ret
        refine ⟨ret_bool ?_, hbel⟩
        symm
        rw [decide_eq_true_eq]
        apply List.ext_getElem?
        intro j
        by_cases hj : j < k
        · exact HS.out j hj
        · rw [List.getElem?_eq_none (by rw [HN.out.1]; omega), List.getElem?_eq_none (by rw [HN.out.2]; omega)]
  · have hd : decide (p = q) = false := by
      rw [decide_eq_false_iff_not]; intro e; rw [e] at hlen; exact hlen rfl
    have hne : ((p.length : Int) == q.length) = false := by simp; omega
    have hne' : ((p.length : Int) != q.length) = true := by simp; omega
    rw [hd]
    go_enter Try.func33, Try.ntmps33
    go_wp2
    go_ret
    exact ⟨rfl, Below.refl _ _⟩
end Go.Proofs.Ytciplfdgjbehgaa
