/-
  PROVED HERE: what laws.szInstrS, szInstrSS, toInstrS, toInstrSS, eqInstr, eqInstrS, eqInstrSS do. CONDITIONS: as each theorem states.
-/
import Derived.Test.YthlmfjoiicnomaaIns
import Derived.Test.YthlmfjoiicnomaaPrg
namespace Go.Proofs.Ythlmfjoiicnomaa
open Go.RowKit
set_option linter.unusedVariables false
set_option linter.unusedSimpArgs false

def szRes (left : Int) (n : Nat) : Int := if (n : Int) ≤ left then left - n else -1
theorem szS_c (w : World) (a : Option Addr) (cap n : Nat) (left : Int) (h0 : 0 ≤ left) (h1 : left ≤ 1048576) (hn : n ≤ maxLen) :
    Calls Try.prog 45 #[.slice a n cap, .int .i64 left] w fun e w' => e = .returned (.int .i64 (szRes left n)) ∧ w = w' := by
  unfold maxLen at hn
  by_cases hle : (n : Int) ≤ left
  · have H := hid (show szRes left n = left - n by simp [szRes, hle])
    go_enter Try.func45, Try.ntmps45
    go_wp2
    go_ret
    exact ⟨ret_int H.out.symm, rfl⟩
  · have H := hid (show szRes left n = -1 by simp [szRes, hle])
    go_enter Try.func45, Try.ntmps45
    go_wp2
    go_ret
    exact ⟨ret_int H.out.symm, rfl⟩

def BdP (p : Prg) : Prop := p.length ≤ maxLen ∧ ∀ xs ∈ p, xs.length ≤ maxLen
theorem szSS_c (w : World) (a : Option Addr) (cap : Nat) (p : Prg) (left : Int) (h : RdP w a p) (hb : BdP p) (h0 : 0 ≤ left) (h1 : left ≤ 1048576) :
    Calls Try.prog 16 #[.slice a p.length cap, .int .i64 left] w fun e w' => e = .returned (.int .i64 (szRes left (sizeP p))) ∧ w = w' := by
  have hb1 := hb.1
  have HB := hid hb.2
  have HS := hid (fun k => sumTo_le p k)
  have HA := hid (sumTo_all p)
  have HSZ := hid (show sizeP p = p.length + (p.map List.length).sum from rfl)
  obtain ⟨n, hn⟩ : ∃ n, n = p.length := ⟨_, rfl⟩
  have HN := hid hn
  rw [← hn] at hb1 HA HSZ ⊢
  clear hb hn
  unfold maxLen at hb1
  by_cases hle : (n : Int) ≤ left
  · go_enter Try.func16, Try.ntmps16
    go_wp2
    go_loop [1, 5] (fun l i => ∃ k : Nat, k ≤ n ∧ i = .int .i64 k ∧ (sumTo k p : Int) ≤ left - n ∧ l = .int .i64 (left - n - sumTo k p)) (fun _ i => n - (intOf i).toNat)
    case atStart => exact ⟨0, Nat.zero_le _, rfl, by simp [sumTo_zero]; omega, by simp [sumTo_zero]⟩
    case round =>
      obtain ⟨k, hk, rfl, hs, rfl⟩ := hrel
      by_cases hlt : k < n
      · obtain ⟨b, off, r, c, xs, rfl, hbl, hx, hc, hr⟩ := h.at k (by rw [← HN.out]; exact hlt)
        have hl := HB.out xs (List.mem_of_getElem? hx)
        have HX := hid (sumTo_succ hx)
        have HS' := hid (HS.out (k + 1))
        obtain ⟨m, hm⟩ : ∃ m, m = xs.length := ⟨_, rfl⟩
        obtain ⟨s, hs'⟩ : ∃ s, s = sumTo k p := ⟨_, rfl⟩
        rw [← hm] at hc HX hl
        rw [← hs'] at hs HX ⊢
        clear hx hr hm hs' h
        by_cases hfit : (m : Int) ≤ left - n - s
        · have HF := hid (show szRes (left - n - s) m = left - n - s - m by simp [szRes, hfit])
          go_wp2_with fail
          refine (szS_c _ _ _ _ _ (by omega) (by omega) hl).mono ?_
          rintro e w' ⟨rfl, rfl⟩
          rw [HF.out]
          go_wp2
          go_round
          case rel => exact ⟨k + 1, by omega, by go_num, by rw [HX.out]; omega, by rw [HX.out]; go_num⟩
          case measure => simp [intOf]; omega
        · have HF := hid (show szRes (left - n - s) m = -1 by simp [szRes, hfit])
          go_wp2_with fail
          refine (szS_c _ _ _ _ _ (by omega) (by omega) hl).mono ?_
          rintro e w' ⟨rfl, rfl⟩
          rw [HF.out]
          go_wp2
          go_ret
          refine ⟨ret_int ?_, rfl⟩
          have h3 := HS'.out
          rw [HX.out] at h3
          rw [HSZ.out, szRes, if_neg (by omega)]
      · have hkn : k = n := by omega
        have HK := hid hkn
        clear hkn
        go_wp2
        go_ret
        refine ⟨ret_int ?_, rfl⟩
        have h3 := HA.out
        rw [← HK.out] at h3
        rw [HSZ.out, szRes, if_pos (by omega)]
        omega
  · go_enter Try.func16, Try.ntmps16
    go_wp2
    go_ret
    refine ⟨ret_int ?_, rfl⟩
    rw [HSZ.out, szRes, if_neg (by omega)]

theorem ins_step (xs : List Ins) (k n : Nat) (x : Ins) (hn : xs.length = n) (hk : xs[k]? = some x) :
    (xs.take k ++ List.replicate (n - k) insZ).set k x = xs.take (k+1) ++ List.replicate (n - (k+1)) insZ := by
  obtain ⟨hi, rfl⟩ := List.getElem?_eq_some_iff.1 hk
  have e : List.replicate (n - k) insZ = insZ :: List.replicate (n - (k + 1)) insZ := by
    rw [show n - k = (n - (k + 1)) + 1 by omega]; rfl
  rw [e, List.set_append_right _ _ (by simp; omega), List.take_succ_eq_append_getElem hi, List.append_assoc]
  congr 1
  simp [show k - min k xs.length = 0 by omega]

theorem toInstrS_c (w : World) (a : Option Addr) (cap : Nat) (xs : List Ins) (h : Rd w a (insV xs)) (hl : xs.length ≤ 1048576) :
    Calls Try.prog 46 #[.slice a xs.length cap] w fun e w' => ∃ a' cap', e = .returned (.slice a' xs.length cap') ∧ OwX w' w.heap.size a' cap' xs ∧ Below w.heap.size w w' := by
  obtain ⟨n, hn⟩ : ∃ n, xs.length = n := ⟨_, rfl⟩
  unfold OwX
  rw [hn] at hl ⊢
  have HN : Hid (xs.length = n) := hn
  clear hn
  obtain ⟨i0, hi, hz0, hz1, hz2⟩ := info_parts Try.info_instr
  go_enter Try.func46, Try.ntmps46
  go_wp2_with (at_make; refine wpList_make_full _ rfl _ _ 30 rfl w.heap.size 70 i0 _ 4 Try.underlying30 hi hz0 hz1 .i64 .i64 _ _ n rfl rfl rfl rfl (by rw [hz2]; omega) (by unfold maxLen; omega) (Nat.le_refl _) ?_; intro w1 hown hgrow)
  go_loopw [4] (fun i wr => ∃ k : Nat, k ≤ n ∧ i = .int .i64 k ∧ wr.ownsRow w.heap.size 70 4 (.slice (some ⟨w.heap.size, 0, none⟩) n n) n (insV (xs.take k ++ List.replicate (n - k) insZ)) ∧ Below w.heap.size w wr) (fun i _ => n - (intOf i).toNat)
  case atStart => exact ⟨0, Nat.zero_le _, rfl, by rw [insV_made] at hown; simpa using hown, (Below.refl _ _).grown hgrow (Nat.le_refl _) (by simp)⟩
  case round =>
    obtain ⟨k, hk, rfl, hown, hbel⟩ := hrel
    by_cases hlt : k < n
    · obtain ⟨b, off, x, rfl, hb, hx, hat⟩ := h.ins k (by rw [HN.out]; exact hlt)
      have hat := hat.below hbel hb
      have HX := hid hx
      have HO := hid hown
      have HB := hid hbel
      obtain ⟨c0, c1, c2, c3⟩ := hat
      clear hgrow hi hz0 hz1 hz2 h hx hown hbel
      go_wp2_with fail
      refine (toInstr_c _ x).mono ?_
      rintro e w1 ⟨rfl, hb1⟩
      have HO1 := hid (own_below HO.out hb1)
      have HB1 := hid (HB.out.trans (hb1.mono HB.out.size))
      obtain ⟨z, ⟨z0, z1, z2, z3⟩, f0, f1, f2, f3⟩ := own_slots HO1.out k (by have := HN.out; simp; omega)
      have HST := hid (own_setIns HO1.out k x (by have := HN.out; simp; omega))
      clear hb1
      go_wp2_with fail
      go_roundw
      case rel => exact ⟨k + 1, by omega, by go_num, by rw [← ins_step xs k n x HN.out HX.out]; exact HST.out, below_set4 HB1.out (Nat.le_refl _) _ _ _ _ _ _ _ _⟩
      case measure => simp [intOf]; omega
    · have hkn : k = n := by omega
      have HK := hid hkn
      clear hkn
      go_wp2
      go_ret
      have ho := hown
      rw [HK.out] at ho
      exact ⟨_, _, rfl, by simpa [HN.out, List.take_of_length_le (Nat.le_of_eq HN.out)] using ho, hbel⟩

theorem rows_step (rs : List (Option Addr × Nat)) (p : Prg) (k n g : Nat) (r : Option Addr × Nat) (xs : List Ins) (hn : p.length = n) (hr : rs.length = k) (hk : p[k]? = some xs) :
    (rowsV rs (p.take k) ++ List.replicate (n - k) (Value.slice none 0 0)).set k (.slice r.1 xs.length r.2) = rowsV (rs ++ [r]) (p.take (k + 1)) ++ List.replicate (n - (k + 1)) (.slice none 0 0) := by
  obtain ⟨hi, rfl⟩ := List.getElem?_eq_some_iff.1 hk
  have e : List.replicate (n - k) (Value.slice none 0 0) = .slice none 0 0 :: List.replicate (n - (k + 1)) (.slice none 0 0) := by
    rw [show n - k = (n - (k + 1)) + 1 by omega]; rfl
  have hl : (rowsV rs (p.take k)).length = k := by simp [rowsV, hr]; omega
  have e2 : rowsV (rs ++ [r]) (p.take (k + 1)) = rowsV rs (p.take k) ++ [.slice r.1 p[k].length r.2] := by
    rw [List.take_succ_eq_append_getElem hi, rowsV, rowsV, List.zipWith_append (by simp; omega)]
    rfl
  rw [e, e2, List.set_append_right _ _ (by omega), hl, Nat.sub_self, List.append_assoc]
  rfl

/-- What holds after k rows have been copied. -/
structure SSRel (w : World) (n : Nat) (p : Prg) (wr : World) (k : Nat) (rs : List (Option Addr × Nat)) : Prop where
  len : rs.length = k
  out : wr.ownsRow w.heap.size 30 1 (.slice (some ⟨w.heap.size, 0, none⟩) n n) n (rowsV rs (p.take k) ++ List.replicate (n - k) (.slice none 0 0))
  row : ∀ (j : Nat) r xs, rs[j]? = some r → p[j]? = some xs → OwX wr (w.heap.size + 1) r.1 r.2 xs
  one : ∀ (i j : Nat) r s b, rs[i]? = some r → rs[j]? = some s → blk r.1 = some b → blk s.1 = some b → i = j
  bel : Below w.heap.size w wr
theorem SSRel.step {w wr w1 : World} {n k : Nat} {p : Prg} {rs : List (Option Addr × Nat)} {r : Option Addr × Nat} {xs : List Ins} (h : SSRel w n p wr k rs) (hn : p.length = n) (hk : p[k]? = some xs) (ho : OwX w1 wr.heap.size r.1 r.2 xs) (hb : Below wr.heap.size wr w1) (hw : w.heap.size < wr.heap.size) :
    SSRel w n p (w1.setCell ⟨w.heap.size, k, none⟩ (.slice r.1 xs.length r.2)) (k + 1) (rs ++ [r]) := by
  have hkp := (List.getElem?_eq_some_iff.1 hk).1
  have hl := h.len
  have bk : Keeps (· = w.heap.size) w1 (w1.setCell ⟨w.heap.size, k, none⟩ (.slice r.1 xs.length r.2)) := Keeps.setCell w1 ⟨w.heap.size, k, none⟩ _
  have old : ∀ (j : Nat) r' , rs[j]? = some r' → ∀ b, blk r'.1 = some b → w.heap.size + 1 ≤ b ∧ b < wr.heap.size := fun j r' hr => by
    have hj := (List.getElem?_eq_some_iff.1 hr).1
    exact own_blk (h.row j r' _ hr (List.getElem?_eq_getElem (by omega)))
  have new : ∀ b, blk r.1 = some b → wr.heap.size ≤ b ∧ b < w1.heap.size := own_blk ho
  refine ⟨by simp [hl], ?_, ?_, ?_, ?_⟩
  · rw [← rows_step rs p k n w.heap.size r xs hn hl hk]
    exact ((own_below h.out hb).stored k _).1
  · intro j r' ys hr hy
    by_cases hj : j < rs.length
    · rw [List.getElem?_append_left hj] at hr
      exact own_keeps (own_below (h.row j r' ys hr hy) hb) bk fun b hb' e => by have := (old j r' hr b hb').1; omega
    · rw [List.getElem?_append_right (by omega)] at hr
      have hj0 : j - rs.length = 0 := by
        have := (List.getElem?_eq_some_iff.1 hr).1
        simp at this
        omega
      rw [hj0] at hr
      simp only [List.getElem?_cons_zero, Option.some.injEq] at hr
      subst hr
      have hjk : j = k := by omega
      subst hjk
      rw [hk] at hy
      cases hy
      exact own_base (own_keeps ho bk fun b hb' e => by have := (new b hb').1; omega) (by omega)
  · intro i j a b c hi hj ha hb'
    by_cases hi' : i < rs.length <;> by_cases hj' : j < rs.length
    · rw [List.getElem?_append_left hi'] at hi
      rw [List.getElem?_append_left hj'] at hj
      exact h.one i j a b c hi hj ha hb'
    · rw [List.getElem?_append_left hi'] at hi
      rw [List.getElem?_append_right (by omega)] at hj
      have hj0 : j - rs.length = 0 := by have := (List.getElem?_eq_some_iff.1 hj).1; simp at this; omega
      rw [hj0] at hj
      simp only [List.getElem?_cons_zero, Option.some.injEq] at hj
      subst hj
      have := (old i a hi c ha).2
      have := (new c hb').1
      omega
    · rw [List.getElem?_append_left hj'] at hj
      rw [List.getElem?_append_right (by omega)] at hi
      have hi0 : i - rs.length = 0 := by have := (List.getElem?_eq_some_iff.1 hi).1; simp at this; omega
      rw [hi0] at hi
      simp only [List.getElem?_cons_zero, Option.some.injEq] at hi
      subst hi
      have := (old j b hj c hb').2
      have := (new c ha).1
      omega
    · have h1 := (List.getElem?_eq_some_iff.1 hi).1
      have h2 := (List.getElem?_eq_some_iff.1 hj).1
      simp at h1 h2
      omega
  · exact (h.bel.trans (hb.mono h.bel.size)).setCell (Nat.le_refl _) _

theorem toInstrSS_c (w : World) (a : Option Addr) (cap : Nat) (p : Prg) (h : RdP w a p) (hl : sizeP p ≤ 1048576) :
    Calls Try.prog 17 #[.slice a p.length cap] w fun e w' => ∃ a' cap', e = .returned (.slice a' p.length cap') ∧ OwP w' w.heap.size w'.heap.size a' cap' p ∧ Below w.heap.size w w' := by
  have hpl := sizeP_len p
  have HROW := hid (fun k xs (hx : p[k]? = some xs) => sizeP_row hx)
  obtain ⟨n, hn⟩ : ∃ n, p.length = n := ⟨_, rfl⟩
  rw [hn] at hpl ⊢
  have HN : Hid (p.length = n) := hn
  have HL := hid hl
  have hln : n ≤ 1048576 := by omega
  clear hn hl hpl
  obtain ⟨i0, hi, hz0, hz1, hz2⟩ := info_parts Try.info_row
  go_enter Try.func17, Try.ntmps17
  go_wp2_with (at_make; refine wpList_make_full _ rfl _ _ 23 rfl w.heap.size 30 i0 _ 1 Try.underlying23 hi hz0 hz1 .i64 .i64 _ _ n rfl rfl rfl rfl (by rw [hz2]; omega) (by unfold maxLen; omega) (Nat.le_refl _) ?_; intro w1 hown hgrow)
  have hsz : w.heap.size < w1.heap.size := by
    rcases hown.2 with ⟨h', _⟩ | ⟨g, c, cur, h', _, hg, _⟩
    · simp at h'
    · simp only [Value.slice.injEq, Option.some.injEq, Addr.mk.injEq, and_true, true_and] at h'
      obtain ⟨rfl, rfl⟩ := h'
      exact (Array.getElem?_eq_some_iff.1 hg).1
  have HS0 := hid hsz
  have H0 := hid (show SSRel w n p w1 0 [] from ⟨rfl, by simpa [toList_madeCells_one, Value.cells, rowsV] using hown, fun j r xs hr => by simp at hr, fun i j r s b hr => by simp at hr, (Below.refl _ _).grown hgrow (Nat.le_refl _) (by simp)⟩)
  clear hsz hown hgrow hi hz0 hz1 hz2
  go_loopw [4] (fun i wr => ∃ k : Nat, k ≤ n ∧ i = .int .i64 k ∧ (∃ rs, SSRel w n p wr k rs) ∧ w.heap.size < wr.heap.size) (fun i _ => n - (intOf i).toNat)
  case atStart => exact ⟨0, Nat.zero_le _, rfl, ⟨_, H0.out⟩, HS0.out⟩
  case round =>
    obtain ⟨k, hk, rfl, ⟨rs, hrel⟩, hws⟩ := hrel
    have HR := hid hrel
    have HW := hid hws
    by_cases hlt : k < n
    · obtain ⟨b, off, r, c, xs, rfl, hb, hx, hc, hrd⟩ := h.at k (by rw [HN.out]; exact hlt)
      have hcx := (hrel.bel.cell (p := ⟨b, off + k, none⟩) hb).trans hc
      have hxl : xs.length ≤ 1048576 := Nat.le_trans (HROW.out k xs hx) HL.out
      have HX := hid hx
      have HRD := hid (hrd.below hrel.bel)
      obtain ⟨m, hm⟩ : ∃ m, m = xs.length := ⟨_, rfl⟩
      have HM := hid hm
      rw [← hm] at hcx hxl
      have HC := hid (fun (w : World) a cap h => toInstrS_c w a cap xs h (by rw [← hm]; exact hxl))
      rw [← hm] at HC
      clear h hx hc hrd hrel hm
      go_wp2_with fail
      refine (HC.out _ _ _ HRD.out).mono ?_
      rintro e w2 ⟨a', c', rfl, ho, hb2⟩
      have hcell := ((own_below HR.out.out hb2).cellAt k (by omega)).trans (show _ = some (Value.slice none 0 0) by
        rw [List.getElem?_append_right (by rw [length_rowsV (by rw [HR.out.len, List.length_take, HN.out]; omega), List.length_take]; omega), List.getElem?_replicate, if_pos]
        rw [length_rowsV (by rw [HR.out.len, List.length_take, HN.out]; omega), List.length_take, HN.out]; omega)
      have hfr := (own_below HR.out.out hb2).frozenAt k
      have HST := hid (SSRel.step (r := (a', c')) HR.out HN.out HX.out ho hb2 HW.out)
      have HW2 := hid (show w.heap.size < w2.heap.size from Nat.lt_of_lt_of_le HW.out hb2.size)
      rw [← HM.out] at HST
      clear ho hb2
      go_wp2_with fail
      go_roundw
      case rel => exact ⟨k + 1, by omega, by go_num, ⟨_, HST.out⟩, by simpa [World.setCell] using HW2.out⟩
      case measure => simp [intOf]; omega
    · have HK := hid (show k = n by omega)
      go_wp2
      go_ret
      have hr := HR.out
      rw [HK.out] at hr
      refine ⟨_, _, rfl, ⟨rs, by rw [hr.len, HN.out], ?_, fun j r xs h1 h2 => own_base (hr.row j r xs h1 h2) (by omega), hr.one, fun j r b h1 h2 => ?_, fun b hb => ?_⟩, hr.bel⟩
      have this := hr.out
      have e : p.take n = p := by rw [← HN.out, List.take_length]
      rw [Nat.sub_self, e] at this
      · rw [HN.out]
        simpa using this
      · exact (own_blk (hr.row j r _ h1 (List.getElem?_eq_getElem (by have := (List.getElem?_eq_some_iff.1 h1).1; have := hr.len; have := HN.out; omega))) b h2).2
      · simp only [blk, Option.some.injEq] at hb
        subst hb
        exact hws
end Go.Proofs.Ythlmfjoiicnomaa
