/-
  PROVED HERE: what impl.pairsOf and InverseRel of both packages do. CONDITIONS: as each theorem states.
-/
import Derived.Test.YtdppidhnlbfpmaaRelF
namespace Go.Proofs.Ytdppidhnlbfpmaa
open Go.RowKit
set_option linter.unusedVariables false
set_option linter.unusedSimpArgs false

set_option maxHeartbeats 800000 in
theorem pairsOf_c (w : World) (f : Nat) (c : Value) (p : Nat → Nat → Bool) (n : Nat) (hlen : n ≤ 16)
    (hcf : ∀ args (w : World), (callFunc f args).run Try.prog w = .ok (.enter f args) w)
    (hf : ∀ (w' : World) (i k : Nat), Below w.heap.size w w' → i < n → k < n → Calls Try.prog f #[.int .i64 i, .int .i64 k, c] w' fun e w'' => e = .returned (.bool (p i k)) ∧ w' = w'') :
    Calls Try.prog 56 #[.int .i64 n, .func (.func f) #[] #[c]] w (RetN w (ofBits n p)) := by
  have HP := hid (fun e w' (h : ∃ a cap rs, e = .returned (.slice a n cap) ∧ w'.ownsRow w.heap.size 3 1 (.slice a n cap) n (natV rs) ∧ Ok rs ∧ rs.length = n ∧ (∀ i k, k < n → bit rs i k = (decide (i < n) && p i k)) ∧ Below w.heap.size w w') => (show RetN w (ofBits n p) e w' by
    obtain ⟨a, cap, rs, rfl, h1, h2, h3, h4, h5⟩ := h
    have e : rs = ofBits n p := eq_ofBits h2 h3 fun i k hi hk => by rw [h4 i k hk]; simp [hi]
    subst e
    refine ⟨a, cap, ret_slice h3.symm, ?_, h5⟩
    rw [h3]; exact h1))
  refine Calls.mono ?_ (fun e w' h => HP.out e w' h)
  clear HP
  have C := hid hf
  clear hf
  obtain ⟨i0, hi, hz0, hz1, hz2⟩ := info_parts Try.info_int
  go_enter Try.func56, Try.ntmps56
  go_wp2_with (at_make; refine wpList_make_full _ rfl _ _ 23 rfl w.heap.size 3 i0 (.int .i64 0) 1 Try.underlying23 hi hz0 hz1 .i64 .i64 _ _ n rfl rfl rfl rfl (by rw [hz2]; omega) (by unfold maxLen; omega) (Nat.le_refl _) ?_; intro w1 hown hgrow)
  clear hi hz0 hz1 hz2
  go_loopw [11] (fun i wr => ∃ (k : Nat) (rs : List Nat), k ≤ n ∧ i = .int .i64 k ∧ wr.ownsRow w.heap.size 3 1 (.slice (some ⟨w.heap.size, 0, none⟩) n n) n (natV rs) ∧ Ok rs ∧ rs.length = n ∧ (∀ a b, b < n → bit rs a b = (decide (a < k) && p a b)) ∧ Below w.heap.size w wr) (fun i _ => n - (intOf i).toNat)
  case atStart => exact ⟨0, List.replicate n 0, Nat.zero_le _, rfl, by simpa [toList_madeCells_one, Value.cells, natV] using hown, ok_zero n hlen, by simp, fun a b _ => by rw [bit_zero]; simp, (Below.refl _ _).grown hgrow (Nat.le_refl _) (by simp)⟩
  case round =>
    obtain ⟨k, rs, hk, rfl, hown, hok, hrl, hbits, hbel⟩ := hrel
    have HB := hid hbits
    have HO := hid hok
    have HL := hid hrl
    clear hbits hok hrl hgrow
    by_cases hlt : k < n
    · obtain ⟨wo, rfl⟩ : ∃ wo : World, wo = wr := ⟨_, rfl⟩
      go_wp2
      go_loopw [15] (fun j wr => ∃ (m : Nat) (rs : List Nat), m ≤ n ∧ j = .int .i64 m ∧ wr.ownsRow w.heap.size 3 1 (.slice (some ⟨w.heap.size, 0, none⟩) n n) n (natV rs) ∧ Ok rs ∧ rs.length = n ∧ (∀ a b, b < n → bit rs a b = ((decide (a < k) || (decide (a = k) && decide (b < m))) && p a b)) ∧ Below w.heap.size w wr) (fun j _ => n - (intOf j).toNat)
      case atStart => exact ⟨0, rs, Nat.zero_le _, rfl, hown, HO.out, HL.out, fun a b hb => by rw [HB.out a b hb]; simp, hbel⟩
      case round =>
        clear hown hbel HB HO HL rs
        obtain ⟨m, rs, hm, rfl, hown, hok, hrl, hbits, hbel⟩ := hrel
        have HB := hid hbits
        have HO := hid hok
        have HL := hid hrl
        clear hbits hok hrl
        by_cases hlm : m < n
        · have Cm := hid (C.out wr k m hbel hlt hlm)
          by_cases hbt : p k m = true
          · obtain ⟨x, hx⟩ : ∃ x, rs[k]? = some x := ⟨_, List.getElem?_eq_getElem (by have := HL.out; omega)⟩
            have hcell := (hown.cellAt k (by omega)).trans (at_natV hx)
            have hfo := hown.frozenAt k
            have hst := hown.stored k (.int .i64 (x ||| 2 ^ m : Nat))
            rw [natV_set] at hst
            have hsh := shl_one m (by omega)
            have hbor := or_shl x m (HO.out.at? hx) (by omega)
            have HS := hid hst
            have HX := hid hx
            have hk' : (k : Int) < n := by omega
            clear hst hx hown
            go_wp2_with fail
            refine Cm.out.mono ?_
            rintro e w2 ⟨rfl, rfl⟩
            go_wp2_with fail
            refine wp_region_mix (by kernel_rfl) (by kernel_rfl) ?_
            go_wp2_with (first | (with_reducible refine wpMix_nil ?_) | (with_reducible refine wpMix_rd rfl rfl (fun K hK => ?_); go_simp; (try go_bits); refine hK _ ?_; clear hK K) | (with_reducible refine wpMix_act (o := ⟨_, .store _ _ _, _, _, _, _⟩) rfl rfl (fun K hK => ?_)))
            go_roundw
            case rel =>
              have hkl : k < rs.length := by rw [HL.out]; exact hlt
              have hxl : x < 2 ^ rs.length := HO.out.row x (List.mem_of_getElem? HX.out)
              refine ⟨m + 1, rs.set k (x ||| 2 ^ m), by omega, by go_num, HS.out.1, ok_set HO.out (Nat.or_lt_two_pow hxl (Nat.pow_lt_pow_right (by omega) (by rw [HL.out]; exact hlm))), by rw [List.length_set]; exact HL.out, fun a b hb => ?_, hbel.drew.setCell (Nat.le_refl _) _⟩
              rw [bit_set hkl]
              split
              · rename_i hak
                subst hak
                rw [Nat.testBit_or, ← bit_at HX.out, HB.out _ _ hb, Nat.testBit_two_pow]
                by_cases hbm : m = b
                · subst hbm; simp [hbt]
                · have : (b < m + 1) = (b < m) := by apply propext; omega
                  simp [hbm, this]
              · rename_i hak
                rw [HB.out _ _ hb]
                simp [hak]
            case measure => simp [intOf]; omega
          · have hbt : p k m = false := by simpa using hbt
            go_wp2_with fail
            refine Cm.out.mono ?_
            rintro e w2 ⟨rfl, rfl⟩
            go_wp2
            go_roundw
            case rel =>
              refine ⟨m + 1, rs, by omega, by go_num, hown, HO.out, HL.out, fun a b hb => ?_, hbel⟩
              rw [HB.out _ _ hb]
              by_cases hak : a = k
              · by_cases hbm : b = m
                · subst hak; subst hbm; simp [hbt]
                · have : (b < m + 1) = (b < m) := by apply propext; omega
                  simp [this]
              · simp [hak]
            case measure => simp [intOf]; omega
        · go_wp2
          go_roundw
          case rel =>
            refine ⟨k + 1, rs, by omega, by go_num, hown, HO.out, HL.out, fun a b hb => ?_, hbel⟩
            rw [HB.out _ _ hb]
            have h1 : b < m := by omega
            by_cases hak : a = k
            · subst hak; simp [h1]
            · have : (a < k + 1) = (a < k) := by apply propext; omega
              simp [hak, this]
          case measure => simp [intOf]; omega
    · go_wp2
      go_ret
      have hkn : k = n := by omega
      exact ⟨_, _, rs, rfl, hown, HO.out, HL.out, fun i j hj => by rw [HB.out i j hj, hkn], hbel⟩

theorem specInverse_c (w : World) (a : Option Addr) (cap : Nat) (xs : List Int) (h : Rd w a (ints xs)) (hl : xs.length ≤ 1048576) :
    Calls Try.prog 38 #[.slice a xs.length cap] w (RetI w (lift1 inverseN xs)) := by
  have C1 := hid (relValidS_c w a cap xs h hl)
  by_cases hv : relValid xs = true
  · rw [hv] at C1
    obtain ⟨us, rfl, ho⟩ := ok_of_valid hv
    rw [lift1_yes ho]
    rw [ints_castI] at h
    rw [length_castI] at C1 ⊢
    have C2 := hid (fun w h => l2Inverse_c w a cap us h ho)
    have H1 := hid h
    refine Calls.mono (R := RetN w (inverseN us)) ?_ (fun e w' h => h.castI)
    clear h hv hl ho
    go_enter Try.func38, Try.ntmps38
    go_wp2_with fail
    refine C1.out.mono ?_
    rintro e w1 ⟨rfl, hb1⟩
    go_wp2_with fail
    refine (C2.out _ (H1.out.below hb1)).mono ?_
    rintro e w2 ⟨a2, cap2, rfl, hown2, hb2⟩
    go_wp2
    go_ret
    exact ⟨a2, cap2, rfl, own_after hown2 hb1, hb1.trans (hb2.mono hb1.size)⟩
  · have hv : relValid xs = false := by simpa using hv
    rw [hv] at C1
    rw [lift1_no hv]
    refine Calls.mono (R := fun e w' => ∃ w1, e = .returned (.slice (some ⟨w1.heap.size, 0, none⟩) 0 0) ∧ w' = w1.alloc (.cells #[] 3) ∧ Below w.heap.size w w1) ?_ (fun e w' h => by
      obtain ⟨w1, rfl, rfl, hb⟩ := h
      exact ⟨_, _, rfl, own_lit0 w1 w.heap.size _ hb.size, hb.alloc hb.size _⟩)
    clear hv
    go_enter Try.func38, Try.ntmps38
    go_wp2_with fail
    refine C1.out.mono ?_
    rintro e w1 ⟨rfl, hb1⟩
    go_wp2
    go_ret
    exact ⟨w1, rfl, rfl, hb1⟩

theorem inverseFn_c (w : World) (b : Nat) (a : Option Addr) (cap : Nat) (ns : List Nat) (i k : Nat) (hc : w.cell? ⟨b, 0, none⟩ = some (.slice a ns.length cap)) (h : Rd w a (natV ns)) (ho : Ok ns) (hi : i < ns.length) (hk : k < ns.length) :
    Calls Try.prog 57 #[.int .i64 i, .int .i64 k, .pointer (some ⟨b, 0, none⟩)] w fun e w' => e = .returned (.bool (bit ns k i)) ∧ w = w' := by
  have C := hid (related_c w a cap ns k i h ho hk (by have := ho.len; omega))
  clear h ho
  go_enter Try.func57, Try.ntmps57
  go_wp2_with fail
  refine C.out.mono ?_
  rintro e w1 ⟨rfl, rfl⟩
  go_wp2
  go_ret
  exact ⟨ret_bool (by simp [bit, List.getD, hk]), rfl⟩
theorem callInverse : ∀ args (w : World), (callFunc 57 args).run Try.prog w = .ok (.enter 57 args) w :=
  fun args w => run_callFunc Try.func57 (by kernel_rfl) rfl args w

theorem implInverse_c (w : World) (a : Option Addr) (cap : Nat) (xs : List Int) (h : Rd w a (ints xs)) (hl : xs.length ≤ 1048576) :
    Calls Try.prog 22 #[.slice a xs.length cap] w (RetI w (lift1 inverseN xs)) := by
  by_cases hv : relValid xs = true
  · have C1 := hid (fun (w : World) h => relValidI_c w a cap xs h hl)
    rw [hv] at C1
    obtain ⟨us, rfl, ho⟩ := ok_of_valid hv
    rw [lift1_yes ho]
    rw [ints_castI] at h C1
    rw [length_castI] at C1 ⊢
    have H1 := hid h
    have hw0 := hid (((Below.refl w.heap.size w).alloc (Nat.le_refl _) (.cells #[.slice a us.length cap] 23)))
    have C2 := hid (fun (w1 : World) (hb : Below w.heap.size w w1) (hc : w1.cell? ⟨w.heap.size, 0, none⟩ = some (.slice a us.length cap)) (hs : w.heap.size < w1.heap.size) =>
      pairsOf_c w1 _ (.pointer (some ⟨w.heap.size, 0, none⟩)) (fun i k => bit us k i) us.length ho.len callInverse fun w2 i k hb2 hi hk =>
        inverseFn_c w2 w.heap.size a cap us i k ((hb2.cell (p := ⟨w.heap.size, 0, none⟩) hs).trans hc) ((h.below hb).below hb2) ho hi hk)
    refine Calls.mono (R := RetN w (inverseN us)) ?_ (fun e w' h => h.castI)
    clear h hv hl ho
    go_enter Try.func22, Try.ntmps22
    go_wp2_with fail
    refine (C1.out _ (H1.out.alloc _)).mono ?_
    rintro e w1 ⟨rfl, hb1⟩
    have hcell : w1.cell? ⟨w.heap.size, 0, none⟩ = some (.slice a us.length cap) := (hb1.cell (p := ⟨w.heap.size, 0, none⟩) (by simp)).trans (by simp)
    have hb01 : Below w.heap.size w w1 := hw0.out.trans (hb1.mono (by simp))
    have hs1 : w.heap.size < w1.heap.size := by have := hb1.size; simp at this; omega
    go_wp2_with fail
    refine (C2.out w1 hb01 hcell hs1).mono ?_
    rintro e w2 ⟨a2, cap2, rfl, hown2, hb2⟩
    go_wp2
    go_ret
    refine ⟨a2, cap2, ret_slice (by simp [inverseN, length_ofBits]), own_after hown2 hb01, hb01.trans (hb2.mono hb01.size)⟩
  · have hv : relValid xs = false := by simpa using hv
    have C1 := hid (fun (w : World) h => relValidI_c w a cap xs h hl)
    rw [hv] at C1
    rw [lift1_no hv]
    have H1 := hid h
    refine Calls.mono (R := fun e w' => e = .returned (.slice none 0 0) ∧ Below w.heap.size w w') ?_ (fun e w' h => ⟨none, 0, h.1, own_none _ _ _ _, h.2⟩)
    clear hv h
    go_enter Try.func22, Try.ntmps22
    go_wp2_with fail
    refine (C1.out _ (H1.out.alloc _)).mono ?_
    rintro e w1 ⟨rfl, hb1⟩
    go_wp2
    go_ret
    exact ⟨rfl, ((Below.refl w.heap.size w).alloc (Nat.le_refl _) _).trans (hb1.mono (by simp))⟩
end Go.Proofs.Ytdppidhnlbfpmaa
