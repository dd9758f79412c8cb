/-
  PROVED HERE: what ComposeRel of both packages does. CONDITIONS: as each theorem states.
-/
import Derived.Test.YtdppidhnlbfpmaaRelG
namespace Go.Proofs.Ytdppidhnlbfpmaa
open Go.RowKit
set_option linter.unusedVariables false
set_option linter.unusedSimpArgs false

/-- Append of one cell that has just been laid in a block of its own, in a region that draws nothing. -/
theorem wpList_append_one {P : Program} {ops : Array Oper} {Q : Exit → Act → World → Prop} {a : Act} {w : World} {o : Oper} {rest : List Oper} (hgd : o.guard = none) (s x : Operand) (t : TypeId)
    (ho : o.op = .call { callee := .builtin .append, args := #[s, x], argTypes := #[t, t] })
    (base : Nat) (e : TypeId) (z : Value) (bytes : Nat) (ht : P.underlying t = some (.slice e)) (hi : (P.info? e).map (fun i => (i.zero, i.size, i.bytes)) = some (some z, 1, bytes)) (hzs : z.cells.size = 1)
    (v : Value) (n : Nat) (xs : List Value) (hs : a.eval s = v) (hown : w.ownsRow base e 1 v n xs)
    (ad : Addr) (u : Value) (hx : a.eval x = .slice (some ad) 1 1) (hu : w.cell? ad = some u) (h1 : u.oneCell' = true)
    (h63 : n + 1 ≤ 1000000000) (hbytes : bytes ≤ 1000) (hbase : base ≤ w.heap.size)
    (h : ∀ v' w', w'.ownsRow base e 1 v' (n + 1) (xs ++ [u]) → w.grownBy w' v.ownBlock → wpList P ops Q rest (a.put o.dst v') w') : wpList P ops Q (o :: rest) a w := by
  obtain ⟨i, h2, hz, h3, h4⟩ := info_parts hi
  refine wpList_append_own _ hgd s x t ho base e i z 1 bytes ht h2 hz h3 h4 hzs (by omega) v n xs hs hown ad 1 1 [u] hx rfl ?_ (by simpa using h1) (by unfold maxLen; omega) ?_ hbase fun v' w' h2 h3 _ => h v' w' h2 h3
  · intro j u' hj
    match j, hj with
    | 0, hj => simp at hj; subst hj; simpa [Addr.add] using hu
  · have : (n + 1) * bytes ≤ 1000000000 * 1000 := Nat.mul_le_mul h63 hbytes
    omega

/-- Some m below j lies between. -/
def midB (us vs : List Nat) (i c : Nat) (j : Nat) : Bool := (List.range j).any fun m => bit us i m && bit vs m c
theorem mid_succ (us vs : List Nat) (i c j : Nat) : midB us vs i c (j + 1) = (midB us vs i c j || (bit us i j && bit vs j c)) := by
  simp [midB, List.range_succ]
theorem mid_zero (us vs : List Nat) (i c : Nat) : midB us vs i c 0 = false := rfl
def composeN (us vs : List Nat) : List Nat := ofBits us.length fun i c => midB us vs i c us.length
theorem length_composeN (us vs : List Nat) : (composeN us vs).length = us.length := length_ofBits _ _

theorem row_eq {x n : Nat} {p : Nat → Bool} (hx : x < 2 ^ n) (h : ∀ c, c < n → x.testBit c = p c) : x = rowN p n := by
  apply Nat.eq_of_testBit_eq
  intro c
  rw [testBit_rowN]
  by_cases hc : c < n
  · rw [h c hc]; simp [hc]
  · rw [Nat.testBit_lt_two_pow (Nat.lt_of_lt_of_le hx (Nat.pow_le_pow_right (by omega) (by omega)))]; simp [hc]

set_option maxHeartbeats 800000 in
theorem l2Compose_c (w : World) (a a' : Option Addr) (cap cap' : Nat) (us vs : List Nat) (h : Rd w a (natV us)) (h' : Rd w a' (natV vs)) (ha : Ok us) (hb : Ok vs) (hl : vs.length = us.length) :
    Calls Try.prog 50 #[.slice a us.length cap, .slice a' us.length cap'] w (RetN w (composeN us vs)) := by
  have C := hid (fun (w : World) (i k : Nat) h hi hk => l2Has_c w a cap us i k h ha hi hk)
  have hlen := ha.len
  obtain ⟨n, hn⟩ : ∃ n, n = us.length := ⟨_, rfl⟩
  have HP := hid (fun e w' (h : ∃ a cap, e = .returned (.slice a n cap) ∧ w'.ownsRow w.heap.size 3 1 (.slice a n cap) n (natV (composeN us vs)) ∧ Below w.heap.size w w') => (show RetN w (composeN us vs) e w' by unfold RetN; rw [length_composeN, ← hn]; exact h))
  have HC := hid (fun k (hk : k < n) => show (composeN us vs)[k]? = some (rowN (fun c => midB us vs k c n) n) by unfold composeN ofBits; rw [← hn]; simp [hk])
  have HCL := hid (show (composeN us vs).length = n by rw [length_composeN, hn])
  rw [← hn] at C hl hlen ⊢
  refine Calls.mono ?_ (fun e w' h => HP.out e w' h)
  clear HP hn
  have HR := hid h
  have HR' := hid h'
  have HO := hid hb
  have HL := hid hl
  obtain ⟨ys, hys⟩ : ∃ ys, ys = composeN us vs := ⟨_, rfl⟩
  rw [← hys] at HC HCL ⊢
  clear h h' ha hb hl hys
  go_enter Try.func50, Try.ntmps50
  go_wp2
  go_loopw [5, 6] (fun v i wr => ∃ k : Nat, k ≤ n ∧ i = .int .i64 k ∧ wr.ownsRow w.heap.size 3 1 v k (natV (ys.take k)) ∧ Below w.heap.size w wr) (fun _ i _ => n - (intOf i).toNat)
  case atStart => exact ⟨0, Nat.zero_le _, rfl, by simpa [natV] using own_lit0 w w.heap.size 3 (Nat.le_refl _), (Below.refl _ _).alloc (Nat.le_refl _) _⟩
  case round =>
    obtain ⟨k, hk, rfl, hown, hbel⟩ := hrel
    by_cases hlt : k < n
    · have Ck := hid (fun m hm => C.out wr k m (HR.out.below hbel) hlt (show m ≤ 16 by omega))
      go_wp2
      go_loop [7, 8] (fun r j => ∃ (m x : Nat), m ≤ n ∧ j = .int .i64 m ∧ r = .int .i64 x ∧ x < 2 ^ n ∧ ∀ c, x.testBit c = midB us vs k c m) (fun _ j => n - (intOf j).toNat)
      case atStart => exact ⟨0, 0, Nat.zero_le _, rfl, rfl, Nat.two_pow_pos _, fun c => by rw [mid_zero]; simp⟩
      case round =>
        obtain ⟨m, x, hm, rfl, rfl, hx, hbits⟩ := hrel
        have HX := hid hx
        have HB := hid hbits
        clear hx hbits
        by_cases hlm : m < n
        · by_cases hbt : bit us k m = true
          · obtain ⟨b, off, y, rfl, hbb, hy, hc⟩ := HR'.out.nat m (by rw [HL.out]; exact hlm)
            have hcx := (hbel.cell (p := ⟨b, off + m, none⟩) hbb).trans hc
            have hm' : (m : Int) < n := by omega
            have hx6 : x < 65536 := Nat.lt_of_lt_of_le HX.out (Nat.pow_le_pow_right (n := 2) (by omega) hlen)
            have hor := bits_or_i64 x y hx6 (HO.out.at? hy)
            have HY := hid hy
            have Cm := hid (Ck.out m (by omega))
            rw [show (us.getD k 0).testBit m = true from hbt] at Cm
            clear hc hy
            go_wp2_with fail
            refine Cm.out.mono ?_
            rintro e w2 ⟨rfl, rfl⟩
            go_wp2
            go_round
            case rel =>
              refine ⟨m + 1, x ||| y, by omega, by go_num, rfl, Nat.or_lt_two_pow HX.out (by have := HO.out.row y (List.mem_of_getElem? HY.out); rw [HL.out] at this; exact this), fun c => ?_⟩
              rw [Nat.testBit_or, HB.out, mid_succ, hbt, bit_at HY.out, Bool.true_and]
            case measure => simp [intOf]; omega
          · have hbt : bit us k m = false := by simpa using hbt
            have Cm := hid (Ck.out m (by omega))
            rw [show (us.getD k 0).testBit m = false from hbt] at Cm
            go_wp2_with fail
            refine Cm.out.mono ?_
            rintro e w2 ⟨rfl, rfl⟩
            go_wp2
            go_round
            case rel => exact ⟨m + 1, x, by omega, by go_num, rfl, HX.out, fun c => by rw [HB.out, mid_succ, hbt]; simp⟩
            case measure => simp [intOf]; omega
        · have HT := hid (show natV (ys.take k) ++ [Value.int .i64 (x : Nat)] = natV (ys.take (k + 1)) from take_natV (by
            rw [HC.out k hlt]
            congr 1
            refine (row_eq HX.out fun c hc => ?_).symm
            rw [HB.out, show m = n by omega]))
          go_wp2_with (at_builtin; refine wpList_append_one rfl (.tmp 32) (.tmp 34) 23 rfl w.heap.size 3 (.int .i64 0) 8 Try.underlying23 Try.info_int rfl _ _ _ rfl (hown.alloc _) _ (.int .i64 (x : Nat)) rfl (by simp) rfl (by omega) (by omega) (by have := hbel.size; simp; omega) ?_)
          intro v1 w1 hown1 hgrow1
          rw [HT.out] at hown1
          have hbel1 := (hbel.alloc hbel.size _).grown hgrow1 (by simp; have := hbel.size; omega) (fun b hb => (hown.lt b hb).1)
          clear hown hgrow1
          go_wp2
          go_roundw
          case rel => exact ⟨k + 1, by omega, by go_num, hown1, hbel1⟩
          case measure => simp [intOf]; omega
    · obtain ⟨a1, cap1, rfl, _⟩ := own_shape hown
      go_wp2
      go_ret
      obtain rfl : k = n := by omega
      rw [List.take_of_length_le (Nat.le_of_eq HCL.out)] at hown
      exact ⟨_, _, rfl, hown, hbel⟩

set_option maxHeartbeats 800000 in
theorem implComposeYes_c (w : World) (a a' : Option Addr) (cap cap' : Nat) (us vs : List Nat) (h : Rd w a (natV us)) (h' : Rd w a' (natV vs)) (ha : Ok us) (hb : Ok vs) (hl : vs.length = us.length) :
    Calls Try.prog 15 #[.slice a us.length cap, .slice a' us.length cap'] w (RetN w (composeN us vs)) := by
  have C := hid (fun (w : World) (i k : Nat) h hi hk => related_c w a cap us i k h ha hi hk)
  have C1 := hid (areRels_c w a a' cap cap' (castI us) (castI vs) (by rw [ints_castI]; exact h) (by rw [ints_castI]; exact h') (by rw [length_castI]; have := ha.len; omega) (by rw [length_castI]; have := hb.len; omega))
  rw [fit_castI ha hb hl.symm, length_castI, length_castI, hl] at C1
  have hlen := ha.len
  obtain ⟨n, hn⟩ : ∃ n, n = us.length := ⟨_, rfl⟩
  have HP := hid (fun e w' (h : ∃ a cap rs, e = .returned (.slice a n cap) ∧ w'.ownsRow w.heap.size 3 1 (.slice a n cap) n (natV rs) ∧ Ok rs ∧ rs.length = n ∧ (∀ i k, i < n → bit rs i k = midB us vs i k n) ∧ Below w.heap.size w w') => (show RetN w (composeN us vs) e w' by
    obtain ⟨a, cap, rs, rfl, h1, h2, h3, h4, h5⟩ := h
    have e : rs = composeN us vs := eq_ofBits h2 (h3.trans hn) fun i k hi hk => by rw [h4 i k (by omega), hn]
    subst e
    refine ⟨a, cap, ret_slice h3.symm, ?_, h5⟩
    rw [h3]; exact h1))
  rw [← hn] at C C1 hl hlen ⊢
  refine Calls.mono ?_ (fun e w' h => HP.out e w' h)
  clear HP hn
  have HR := hid h
  have HR' := hid h'
  have HO' := hid hb
  have HL' := hid hl
  clear h h' ha hb hl
  obtain ⟨i0, hi, hz0, hz1, hz2⟩ := info_parts Try.info_int
  go_enter Try.func15, Try.ntmps15
  go_wp2_with fail
  refine C1.out.mono ?_
  rintro e w1 ⟨rfl, hb1⟩
  go_wp2_with (at_make; refine wpList_make_full _ rfl _ _ 23 rfl w.heap.size 3 i0 (.int .i64 0) 1 Try.underlying23 hi hz0 hz1 .i64 .i64 _ _ n rfl rfl rfl rfl (by rw [hz2]; omega) (by unfold maxLen; omega) hb1.size ?_; intro w2 hown hgrow)
  clear hi hz0 hz1 hz2
  have hbel0 := hb1.grown hgrow hb1.size (by simp)
  clear hgrow
  go_loopw [17] (fun i wr => ∃ (k : Nat) (rs : List Nat), k ≤ n ∧ i = .int .i64 k ∧ wr.ownsRow w.heap.size 3 1 (.slice (some ⟨w1.heap.size, 0, none⟩) n n) n (natV rs) ∧ Ok rs ∧ rs.length = n ∧ (∀ a b, a < n → bit rs a b = (decide (a < k) && midB us vs a b n)) ∧ Below w.heap.size w wr) (fun i _ => n - (intOf i).toNat)
  case atStart => exact ⟨0, List.replicate n 0, Nat.zero_le _, rfl, by simpa [toList_madeCells_one, Value.cells, natV] using hown, ok_zero n hlen, by simp, fun a b _ => by rw [bit_zero]; simp, hbel0⟩
  case round =>
    clear hown hbel0
    obtain ⟨k, rs, hk, rfl, hown, hok, hrl, hbits, hbel⟩ := hrel
    have HB := hid hbits
    have HO := hid hok
    have HL := hid hrl
    clear hbits hok hrl
    by_cases hlt : k < n
    · obtain ⟨wo, rfl⟩ : ∃ wo : World, wo = wr := ⟨_, rfl⟩
      go_wp2
      go_loopw [22] (fun j wr => ∃ (m : Nat) (rs : List Nat), m ≤ n ∧ j = .int .i64 m ∧ wr.ownsRow w.heap.size 3 1 (.slice (some ⟨w1.heap.size, 0, none⟩) n n) n (natV rs) ∧ Ok rs ∧ rs.length = n ∧ (∀ a b, a < n → bit rs a b = ((decide (a < k) && midB us vs a b n) || (decide (a = k) && midB us vs a b m))) ∧ Below w.heap.size w wr) (fun j _ => n - (intOf j).toNat)
      case atStart => exact ⟨0, rs, Nat.zero_le _, rfl, hown, HO.out, HL.out, fun a b ha => by rw [HB.out a b ha, mid_zero]; simp, hbel⟩
      case round =>
        clear hown hbel HB HO HL rs
        obtain ⟨m, rs, hm, rfl, hown, hok, hrl, hbits, hbel⟩ := hrel
        have HB := hid hbits
        have HO := hid hok
        have HL := hid hrl
        clear hbits hok hrl
        by_cases hlm : m < n
        · have Cm := hid (C.out wr k m (HR.out.below hbel) hlt (by omega))
          by_cases hbt : bit us k m = true
          · rw [show (us.getD k 0).testBit m = true from hbt] at Cm
            obtain ⟨x, hx⟩ : ∃ x, rs[k]? = some x := ⟨_, List.getElem?_eq_getElem (by have := HL.out; omega)⟩
            obtain ⟨b, off, y, rfl, hbb, hy, hc⟩ := HR'.out.nat m (by rw [HL'.out]; exact hlm)
            have hcx := (hbel.cell (p := ⟨b, off + m, none⟩) hbb).trans hc
            have hcell := (hown.cellAt k (by omega)).trans (at_natV hx)
            have hfo := hown.frozenAt k
            have hst := hown.stored k (.int .i64 (x ||| y : Nat))
            rw [natV_set] at hst
            have hbor := bits_or_i64 x y (HO.out.at? hx) (HO'.out.at? hy)
            have HS := hid hst
            have HX := hid hx
            have HY := hid hy
            have hk' : (k : Int) < n := by omega
            have hm' : (m : Int) < n := by omega
            clear hst hx hown hc hy
            go_wp2_with fail
            refine Cm.out.mono ?_
            rintro e w3 ⟨rfl, rfl⟩
            go_wp2_with fail
            refine wp_region_mix (by kernel_rfl) (by kernel_rfl) ?_
            go_wp2_with (first | (with_reducible refine wpMix_nil ?_) | (with_reducible refine wpMix_rd rfl rfl (fun K hK => ?_); go_simp; (try go_bits); refine hK _ ?_; clear hK K) | (with_reducible refine wpMix_act (o := ⟨_, .store _ _ _, _, _, _, _⟩) rfl rfl (fun K hK => ?_)))
            go_roundw
            case rel =>
              have hkl : k < rs.length := by rw [HL.out]; exact hlt
              have hxl : x < 2 ^ rs.length := HO.out.row x (List.mem_of_getElem? HX.out)
              have hyl : y < 2 ^ rs.length := by
                have := HO'.out.row y (List.mem_of_getElem? HY.out)
                rw [HL'.out] at this
                rw [HL.out]; exact this
              refine ⟨m + 1, rs.set k (x ||| y), by omega, by go_num, HS.out.1, ok_set HO.out (Nat.or_lt_two_pow hxl hyl), by rw [List.length_set]; exact HL.out, fun a b ha => ?_, hbel.drew.setCell hb1.size _⟩
              rw [bit_set hkl, mid_succ]
              split
              · rename_i hak
                subst hak
                rw [Nat.testBit_or, ← bit_at HX.out, HB.out _ _ ha, ← bit_at HY.out, hbt]
                simp
              · rename_i hak
                rw [HB.out _ _ ha]
                simp [hak]
            case measure => simp [intOf]; omega
          · have hbt : bit us k m = false := by simpa using hbt
            rw [show (us.getD k 0).testBit m = false from hbt] at Cm
            go_wp2_with fail
            refine Cm.out.mono ?_
            rintro e w2 ⟨rfl, rfl⟩
            go_wp2
            go_roundw
            case rel =>
              refine ⟨m + 1, rs, by omega, by go_num, hown, HO.out, HL.out, fun a b ha => ?_, hbel⟩
              rw [HB.out _ _ ha, mid_succ]
              by_cases hak : a = k
              · subst hak; simp [hbt]
              · simp [hak]
            case measure => simp [intOf]; omega
        · go_wp2
          go_roundw
          case rel =>
            refine ⟨k + 1, rs, by omega, by go_num, hown, HO.out, HL.out, fun a b ha => ?_, hbel⟩
            rw [HB.out _ _ ha, show m = n by omega]
            by_cases hak : a = k
            · subst hak; simp
            · have : (a < k + 1) = (a < k) := by apply propext; omega
              simp [hak, this]
          case measure => simp [intOf]; omega
    · go_wp2
      go_ret
      have hkn : k = n := by omega
      exact ⟨_, _, rs, rfl, hown, HO.out, HL.out, fun i j hi => by rw [HB.out i j hi, hkn]; simp [hi], hbel⟩

theorem specCompose_c (w : World) (a a' : Option Addr) (cap cap' : Nat) (xs ys : List Int) (h : Rd w a (ints xs)) (h' : Rd w a' (ints ys)) (hl : xs.length ≤ 1048576) (hl' : ys.length ≤ 1048576) :
    Calls Try.prog 17 #[.slice a xs.length cap, .slice a' ys.length cap'] w (RetI w (lift2 composeN xs ys)) := by
  have C1 := hid (l2Fit_c w a a' cap cap' xs ys h h' hl hl')
  by_cases hfit : fitB xs ys = true
  · rw [hfit] at C1
    obtain ⟨us, vs, rfl, rfl, ha, hb, hlen⟩ := ok_of_fit hfit
    rw [lift2_yes ha hb hlen]
    rw [ints_castI] at h h'
    rw [length_castI, length_castI, ← hlen] at C1 ⊢
    have C2 := hid (fun w h h' => l2Compose_c w a a' cap cap' us vs h h' ha hb hlen.symm)
    have H1 := hid h
    have H2 := hid h'
    refine Calls.mono (R := RetN w (composeN us vs)) ?_ (fun e w' h => h.castI)
    clear h h' hfit hlen ha hb hl hl'
    go_enter Try.func17, Try.ntmps17
    go_wp2_with fail
    refine C1.out.mono ?_
    rintro e w1 ⟨rfl, hb1⟩
    go_wp2_with fail
    refine (C2.out _ (H1.out.below hb1) (H2.out.below hb1)).mono ?_
    rintro e w2 ⟨a2, cap2, rfl, hown2, hb2⟩
    go_wp2
    go_ret
    exact ⟨a2, cap2, rfl, own_after hown2 hb1, hb1.trans (hb2.mono hb1.size)⟩
  · have hfit : fitB xs ys = false := by simpa using hfit
    rw [hfit] at C1
    rw [lift2_no hfit]
    refine Calls.mono (R := fun e w' => ∃ w1, e = .returned (.slice (some ⟨w1.heap.size, 0, none⟩) 0 0) ∧ w' = w1.alloc (.cells #[] 3) ∧ Below w.heap.size w w1) ?_ (fun e w' h => by
      obtain ⟨w1, rfl, rfl, hb⟩ := h
      exact ⟨_, _, rfl, own_lit0 w1 w.heap.size _ hb.size, hb.alloc hb.size _⟩)
    clear hfit
    go_enter Try.func17, Try.ntmps17
    go_wp2_with fail
    refine C1.out.mono ?_
    rintro e w1 ⟨rfl, hb1⟩
    go_wp2
    go_ret
    exact ⟨w1, rfl, rfl, hb1⟩

theorem implCompose_c (w : World) (a a' : Option Addr) (cap cap' : Nat) (xs ys : List Int) (h : Rd w a (ints xs)) (h' : Rd w a' (ints ys)) (hl : xs.length ≤ 1048576) (hl' : ys.length ≤ 1048576) :
    Calls Try.prog 15 #[.slice a xs.length cap, .slice a' ys.length cap'] w (RetI w (lift2 composeN xs ys)) := by
  by_cases hfit : fitB xs ys = true
  · obtain ⟨us, vs, rfl, rfl, ha, hb, hlen⟩ := ok_of_fit hfit
    rw [lift2_yes ha hb hlen]
    rw [ints_castI] at h h'
    rw [length_castI, length_castI, ← hlen]
    exact (implComposeYes_c w a a' cap cap' us vs h h' ha hb hlen.symm).mono fun e w' h => h.castI
  · have hfit : fitB xs ys = false := by simpa using hfit
    have C1 := hid (areRels_c w a a' cap cap' xs ys h h' hl hl')
    rw [hfit] at C1
    rw [lift2_no hfit]
    refine Calls.mono (R := fun e w' => e = .returned (.slice none 0 0) ∧ Below w.heap.size w w') ?_ (fun e w' h => ⟨none, 0, h.1, own_none _ _ _ _, h.2⟩)
    clear hfit h h'
    go_enter Try.func15, Try.ntmps15
    go_wp2_with fail
    refine C1.out.mono ?_
    rintro e w1 ⟨rfl, hb1⟩
    go_wp2
    go_ret
    exact ⟨rfl, hb1⟩
end Go.Proofs.Ytdppidhnlbfpmaa
