/-
  PROVED HERE: words for a map of texts to flags, its look-up and its store at the operation. what slices.Equal does over numbers. what (*seq).after does, with the new state's block and the program's address told. words for the closure of impl.search: the cells that it shares, what it leaves. words for the loop over the moves in the closure of impl.search. CONDITIONS: as each theorem states.
-/
import Derived.Test.YtbncmeggnhggkaaLes
import Derived.Maps.OwnSet
import Derived.Test.YtbncmeggnhggkaaApp
import Derived.Test.YtbncmeggnhggkaaImh
import Derived.Test.YtbncmeggnhggkaaSeb
import Derived.Carry
namespace Go.Proofs.Ytbncmeggnhggkaa
open Go.RowKit Go.Maps
set_option linter.unusedVariables false
set_option linter.unusedSimpArgs false

def boolElem : Value → Option (DataW Unit × List MemPlace)
  | .bool b => some (.lit (.bool b), [])
  | _ => none
theorem boolElem_inv {v : Value} {b : Bool} {ps : List MemPlace} (h : boolElem v = some (.lit (.bool b), ps)) : v = .bool b := by
  unfold boolElem at h
  split at h
  · simp only [Option.some.injEq, Prod.mk.injEq, DataW.lit.injEq, Lit.bool.injEq] at h
    rw [h.1]
  · cases h
/-- The texts that the map holds. -/
def Fm (L : List (List UInt8)) : DataW Unit := L.foldl (fun D l => D.put (.string l) (.lit (.bool true))) (.map [])
theorem Fm_snoc (L : List (List UInt8)) (l : List UInt8) : Fm (L ++ [l]) = (Fm L).put (.string l) (.lit (.bool true)) := by simp [Fm, List.foldl_append]
theorem Fm_map (L : List (List UInt8)) : IsMap (Fm L) := by
  have : ∀ (L : List (List UInt8)) (D : DataW Unit), IsMap D → IsMap (L.foldl (fun D l => D.put (.string l) (.lit (.bool true))) D) := by
    intro L
    induction L with
    | nil => intro D h; exact h
    | cons x L ih => intro D h; exact ih _ (h.put _ _)
  exact this L _ isMap_empty
theorem Fm_at (l : List UInt8) : ∀ (n : Nat) (L : List (List UInt8)), L.length = n → (Fm L).atKey (.string l) (.lit (.bool false)) = .lit (.bool (decide (l ∈ L)))
  | 0, L, hn => by
    have e : L = [] := List.eq_nil_of_length_eq_zero hn
    subst e
    rfl
  | n + 1, L, hn => by
    rcases List.eq_nil_or_concat L with e | ⟨M, x, e⟩
    · subst e
      simp at hn
    · rw [List.concat_eq_append] at e
      subst e
      have ih := Fm_at l n M (by simpa using hn)
      rw [Fm_snoc]
      by_cases h : x = l
      · subst h
        rw [atKey_put_same (k := Lit.string x) (Fm_map M) trivial]
        simp
      · have hk : (Lit.string l) ≠ .string x := fun e => h (Lit.string.inj e).symm
        rw [atKey_put_other hk, ih]
        congr 2
        simp
        intro e
        exact absurd e.symm h
theorem txtLaw : Keyed Try.prog 9 := string_keyed Try.underlying9
theorem zeroBool (w : World) : (zeroValue 4).run Try.prog w = .ok (.bool false) w := by kernel_rfl
/-- The map in block b holds just the texts of L. -/
abbrev BMap (w : World) (b : Nat) (L : List (List UInt8)) : Prop := w.ownsMap Try.prog 9 boolElem b L.length (Fm L)
theorem BMap.keeps {w w' : World} {b : Nat} {L : List (List UInt8)} {S : Nat → Prop} (h : BMap w b L) (hk : Keeps S w w') (hs : ¬ S b) : BMap w' b L := by
  obtain ⟨es, clock, h1, h2⟩ := h
  exact ⟨es, clock, (hk.block b (Array.getElem?_eq_some_iff.1 h1).1 hs).trans h1, h2⟩
theorem BMap.lt {w : World} {b : Nat} {L : List (List UInt8)} (h : BMap w b L) : b < w.heap.size := by
  obtain ⟨es, clock, h1, h2⟩ := h
  exact (Array.getElem?_eq_some_iff.1 h1).1
theorem key_txt (t : ByteArray) (hl : t.size ≤ 2000000) : keyOf Try.prog 9 (.string t) = some (.string t.data.toList) :=
  Go.WideMaps.keyOf_string_mk Try.underlying9 (s := t) (by unfold maxLen; omega)
theorem run_lookB {w : World} {b : Nat} {L : List (List UInt8)} (h : BMap w b L) (t : ByteArray) (hl : t.size ≤ 2000000) : (Instr.lookup 127 (.map (some b)) (.string t) false).run Try.prog w = .ok (.bool (decide (t.data.toList ∈ L))) w := by
  obtain ⟨es, clock, hb, F, _, hD⟩ := h
  have hat := Fm_at t.data.toList _ L rfl
  rcases Maps.fit_look false txtLaw Try.underlying127 (zeroBool w) hb F (key_txt t hl) with ⟨hrun, _, hat'⟩ | ⟨e0, y, _, _, hrun, hRv, hat', _⟩
  · have e := hat' (DataW.lit (Lit.bool false))
    rw [← hD, hat] at e
    have e2 : decide (t.data.toList ∈ L) = false := by simpa using e
    rw [e2]
    exact hrun
  · have e := hat' (DataW.lit (Lit.bool false))
    rw [← hD, hat] at e
    have hv : e0.val = .bool (decide (t.data.toList ∈ L)) := boolElem_inv (ps := y.2) (by rw [e]; exact hRv)
    rw [← hv]
    exact hrun
theorem run_putB {w : World} {b : Nat} {L : List (List UInt8)} (h : BMap w b L) (t : ByteArray) (hl : t.size ≤ 2000000) (hn : L.length < 9000000000000000000) :
    ∃ w', (Instr.mapUpdate 127 (.map (some b)) (.string t) (.bool true)).run Try.prog w = .ok () w' ∧ BMap w' b (L ++ [t.data.toList]) ∧ w.grownBy w' (some b) := by
  obtain ⟨w', h1, h2, h3⟩ := h.update txtLaw Try.underlying127 (by unfold maxLen; omega) (key_txt t hl) (show boolElem (.bool true) = some (.lit (.bool true), []) from rfl)
  rw [← Fm_snoc] at h2
  exact ⟨w', h1, by unfold BMap; rw [List.length_append, List.length_singleton]; exact h2, h3⟩
end Go.Proofs.Ytbncmeggnhggkaa
namespace Go.Proofs.Ytbncmeggnhggkaa
open Go.RowKit
set_option linter.unusedVariables false
set_option linter.unusedSimpArgs false

set_option maxHeartbeats 800000 in
theorem equal_c (w : World) (a a' : Option Addr) (cap cap' : Nat) (xs ys : List Int) (h : Rd w a (ints xs)) (h' : Rd w a' (ints ys)) (hl : xs.length ≤ 1048576) (hl' : ys.length ≤ 1048576) :
    Calls Try.prog 88 #[.slice a xs.length cap, .slice a' ys.length cap'] w fun e w' => e = .returned (.bool (decide (xs = ys))) ∧ Below w.heap.size w w' := by
  by_cases hlen : xs.length = ys.length
  · obtain ⟨n, hn⟩ : ∃ n, n = ys.length := ⟨_, rfl⟩
    have HN : Hid (xs.length = n ∧ ys.length = n) := ⟨hlen.trans hn.symm, hn.symm⟩
    rw [hlen, ← hn]
    rw [← hn] at hl'
    clear hn hlen hl
    go_enter Try.func88, Try.ntmps88
    go_wp2
    go_loopw [13, 5] (fun i _ wr => ∃ k : Nat, k ≤ n ∧ i = .int .i64 k ∧ (∀ j, j < k → xs[j]? = ys[j]?) ∧ Below w.heap.size w wr) (fun i _ _ => n - (intOf i).toNat)
    case atStart => exact ⟨0, Nat.zero_le _, rfl, fun j hj => by omega, Below.refl _ _⟩
    case round =>
      obtain ⟨k, hk, rfl, hsame, hbel⟩ := hrel
      have HS : Hid _ := hsame
      clear hsame
      by_cases hlt : k < n
      · obtain ⟨b, off, rfl, hb, hc⟩ := h.int k (by rw [HN.out.1]; exact hlt)
        obtain ⟨b', off', rfl, hb', hc'⟩ := h'.int k (by rw [HN.out.2]; exact hlt)
        obtain ⟨x, hx⟩ : ∃ x, x = xs[k]'(by rw [HN.out.1]; exact hlt) := ⟨_, rfl⟩
        obtain ⟨y, hy⟩ : ∃ y, y = ys[k]'(by rw [HN.out.2]; exact hlt) := ⟨_, rfl⟩
        rw [← hx] at hc
        rw [← hy] at hc'
        have hX : Hid (xs[k]? = some x ∧ ys[k]? = some y) := ⟨by rw [hx]; exact List.getElem?_eq_getElem _, by rw [hy]; exact List.getElem?_eq_getElem _⟩
        have hcx := (hbel.cell (p := ⟨b, off + k, none⟩) hb).trans hc
        have hcx' := (hbel.cell (p := ⟨b', off' + k, none⟩) hb').trans hc'
        have hlt' : (k : Int) < n := by omega
        clear hc hc' h h' hx hy
        go_wp2_with fail
        go_quiet (fail)
        go_wp2
        · go_ret
          have hne : ¬ x = y := by
            have : (x != y) = true := by assumption
            simpa using this
          refine ⟨ret_bool ?_, below_drewN _ hbel⟩
          symm
          rw [decide_eq_false_iff_not]
          intro e
          subst e
          have := hX.out.1.symm.trans hX.out.2
          simp at this
          exact hne this
        · go_roundw
          case rel =>
            have he : x = y := by
              have : (x != y) = false := by assumption
              simpa using this
            exact ⟨k + 1, by omega, by go_num, fun j hj => by
              by_cases hjk : j = k
              · subst hjk; rw [hX.out.1, hX.out.2, he]
              · exact HS.out j (by omega), below_drewN _ hbel⟩
          case measure => simp [intOf]; omega
      · go_wp2
        go_ret
        refine ⟨ret_bool ?_, hbel⟩
        symm
        rw [decide_eq_true_eq]
        apply List.ext_getElem?
        intro j
        by_cases hj : j < k
        · exact HS.out j hj
        · rw [List.getElem?_eq_none (by rw [HN.out.1]; omega), List.getElem?_eq_none (by rw [HN.out.2]; omega)]
  · have hd : decide (xs = ys) = false := by
      rw [decide_eq_false_iff_not]; intro e; rw [e] at hlen; exact hlen rfl
    have hne : ((xs.length : Int) == ys.length) = false := by simp; omega
    have hne' : ((xs.length : Int) != ys.length) = true := by simp; omega
    rw [hd]
    go_enter Try.func88, Try.ntmps88
    go_wp2
    go_ret
    exact ⟨rfl, Below.refl _ _⟩
end Go.Proofs.Ytbncmeggnhggkaa
namespace Go.Proofs.Ytbncmeggnhggkaa
open Go.RowKit
set_option linter.unusedVariables false
set_option linter.unusedSimpArgs false

set_option maxRecDepth 100000 in
set_option maxHeartbeats 3200000 in
theorem seqAfterK_c (w : World) (g : Nat) (a : Option Addr) (cap : Nat) (p : Prg) (s : St) (t : Nat) (hg : w.heap[g]? = some (.cells (valC a p.length cap s ++ []).toArray 94 (0, 0))) (hrp : RdP w a p) (hgd : Good p s) (hv : Shape p) (hgo : goes p s t = true) :
    Calls Try.prog 118 #[.pointer (some ⟨g, 0, none⟩), .int .i64 t] w fun e w' => e = .returned (.iface 88 (.pointer (some ⟨w.heap.size, 0, none⟩))) ∧ w'.heap[w.heap.size]? = some (.cells (valC a p.length cap (do3 p s t) ++ []).toArray 94 (0, 0)) ∧ Below w.heap.size w w' := by
  have h : MAt 94 [] w g p s := ⟨⟨a, cap, hg, hrp⟩, hgd⟩
  have ht := goes_thr h.good hgo
  obtain ⟨xs, k, x, hxs, hk, hx, hiv, hnx, hk7⟩ := h.good.next hv hgo
  have hvl := h.good.vlen hv
  have HAT := hid h.v
  have HV := hid hv
  have HNX := hid (fun w (h : VAt w g p s) => next_c w g p s t h hv ht)
  have HST := hid (fun w (h : VAt w g p s) => stored_c w g p s t x h hv ht hiv)
  have HRE := hid (fun w => readsI_c w x)
  have HWR := hid (fun w => writesI_c w x)
  have hn3 : p.length ≤ 3 := hv.len
  obtain ⟨ln, hln, hl2⟩ := valid_loc hiv
  obtain ⟨rn, hrn, hr2⟩ := valid_reg hiv
  have hval := valid_val hiv
  have hwb := hgd.wv (t := t) hiv
  obtain ⟨mv, hmv⟩ : ∃ mv, s.mem[ln]? = some mv := ⟨_, List.getElem?_eq_getElem (by rw [hgd.meml]; omega)⟩
  have hil : t * 3 + rn < s.regs.length := by rw [hgd.regl]; omega
  have htl : t < s.pc.length := by rw [hgd.pcl]; exact ht
  have hcm : ∀ wk, Below w.heap.size w wk → wk.cell? ⟨g, 13 + ln, none⟩ = some (.int .u8 mv) := fun wk hb => by
    obtain ⟨_, _, _, _, _, _, hm⟩ := (HAT.out.below hb).cells hv
    exact hm ln mv hmv
  have HCM := hid hcm
  obtain ⟨wv, hwv⟩ : ∃ wv, wv = wval s t x := ⟨_, rfl⟩
  rw [← hwv] at HST hwb
  have HDO := hid (show do3 p s t = { pc := s.pc.set t ((k : Int) + 1), regs := if insReads x then s.regs.set (t * 3 + rn) mv else s.regs, mem := if insWrites x then s.mem.set ln wv else s.mem, buf := s.buf } from by
    unfold do3
    rw [hnx, hwv, hrn, hln]
    simp [List.getD_eq_getElem?_getD, hk, hmv])
  have HGD := hid (hgd.do3 hv hgo)
  have HRP := hid hrp
  rw [hgo, hnx] at HNX
  simp only [↓reduceIte] at HNX
  obtain ⟨op, loc, reg, val⟩ := x
  have hln : loc = ln := hln
  have hrn : reg = rn := hrn
  subst hln
  subst hrn
  have HK := hid hk
  have hvl' := hid hvl
  obtain ⟨V, hV⟩ : ∃ V, V = (valC a p.length cap s ++ []).toArray := ⟨_, rfl⟩
  rw [← hV] at hg
  have HG := hid hg
  have HVV := hid hV
  have HONE := hid (show V.all (·.oneCell') = true from by
    rw [hV, List.append_nil]
    simp [valC, Value.oneCell'])
  have HSZ := hid (show (Try.prog.info? 94).map (·.size) = some V.size from by
    rw [hV, List.append_nil, List.size_toArray, length_valC hvl]
    kernel_rfl)
  have HSZ16 := hid (show z16.size = V.size from by
    have e : V.size = 16 := by rw [hV, List.append_nil, List.size_toArray]; exact length_valC hvl
    rw [e]; rfl)
  have ht3 : (t : Int) < 3 := by omega
  have hl3 : (ln : Int) < 3 := by omega
  have hr3 : (rn : Int) < 3 := by omega
  clear hxs hk hx hiv hnx hmv hwv hcm hgd hrp hg hV hgo hv
  go_enter Try.func118, Try.ntmps118
  go_wp2_with (first | (refine wpList_load_row rfl 94 (.tmp 10) rfl g rfl 94 V (0, 0) _ HG.out Try.underlying94 rfl HSZ.out ?_) | (refine wpList_store_row rfl 94 (.tmp 5) (.tmp 11) rfl w.heap.size V rfl rfl 94 _ (heap_alloc_new w _) HSZ.out HSZ16.out HONE.out ?_))
  have D1 : AfI w w.heap.size a p.length cap [] 94 s ((w.alloc (.cells z16 94)).setRow w.heap.size V) := by
    refine ⟨?_, hvl, ?_, Nat.le_refl _⟩
    · rw [setRow_heap _ _ _ V _ _ (heap_alloc_new w _), HVV.out]
    · exact Proofs.Ytbncmeggnhggkaa.Below.keeps ((Below.refl w.heap.size w).alloc (Nat.le_refl _) (.cells z16 94)) (keeps_setRow _ w.heap.size V) (by simp) (fun k e => by omega)
  obtain ⟨w1, hw1⟩ : ∃ w1, w1 = (w.alloc (.cells z16 94)).setRow w.heap.size V := ⟨_, rfl⟩
  rw [← hw1] at D1 ⊢
  have HD1 := hid D1
  clear D1 hw1
  refine (HNX.out w1 (HAT.out.below HD1.out.below)).mono ?_
  rintro e w2 ⟨rfl, hb2⟩
  have hx2 : Box ((w2.setCell ⟨w.heap.size, 1 + t, none⟩ (.int .u8 ((k : Int) + 1))).alloc (.cells #[.int .i64 op, .int .i64 ln, .int .i64 rn, .int .i64 val] 79)) w2.heap.size ⟨op, ln, rn, val⟩ := by
    have e : (w2.setCell ⟨w.heap.size, 1 + t, none⟩ (.int .u8 ((k : Int) + 1))).heap.size = w2.heap.size := by simp [World.setCell]
    have := Box.new (w2.setCell ⟨w.heap.size, 1 + t, none⟩ (.int .u8 ((k : Int) + 1))) ⟨op, ln, rn, val⟩ 79
    rw [e] at this
    exact this
  have HD2 := hid (HD1.out.later hb2)
  have HD4 := hid ((HD2.out.setpc htl ((k : Int) + 1)).later ((Below.refl _ _).alloc (Nat.le_refl _) (.cells #[.int .i64 op, .int .i64 ln, .int .i64 rn, .int .i64 val] 79)))
  have hlt2 : w.heap.size < w2.heap.size := by have := hb2.size; have := HD1.out.lt; omega
  have p3 := HD2.out.cell (valC_pc HD2.out.len HK.out)
  have f3 := HD2.out.free (1 + t)
  have HX4 := hid hx2
  clear hb2 HD1 hx2
  go_wp2_with fail
  obtain ⟨w4, hw4⟩ : ∃ w4, w4 = (w2.setCell ⟨w.heap.size, 1 + t, none⟩ (.int .u8 ((k : Int) + 1))).alloc (.cells #[.int .i64 op, .int .i64 ln, .int .i64 rn, .int .i64 val] 79) := ⟨_, rfl⟩
  rw [← hw4] at HD4 HX4 ⊢
  have hs4 : w4.heap.size = w2.heap.size + 1 := by rw [hw4]; simp [World.setCell]
  clear p3 f3 HD2 hw4
  obtain ⟨J, hJ⟩ : ∃ J : World → Prop, J = fun w' => Below w4.heap.size w4 w' := ⟨_, rfl⟩
  have HJ := hid (fun w' (h : Below w4.heap.size w4 w') => show J w' by rw [hJ]; exact h)
  have HC := hid (fun w' (h : J w') => show w'.cell? ⟨w2.heap.size, 0, none⟩ = some (.int .i64 op) ∧ w'.cell? ⟨w2.heap.size, 1, none⟩ = some (.int .i64 ln) ∧ w'.cell? ⟨w2.heap.size, 2, none⟩ = some (.int .i64 rn) ∧ w'.cell? ⟨w2.heap.size, 3, none⟩ = some (.int .i64 val) from by
    rw [hJ] at h
    exact HX4.out.below h (by omega))
  have hJ0 : J w4.drew := HJ.out _ (below_drewN 1 (Below.refl _ _))
  clear hJ
  refine MJ.wp_region_mix (J := J) (by kernel_rfl) (by kernel_rfl) ?_
  repeat (first | (refine MJ.wpMix_pure rfl rfl (fun K hK => ?_); go_simp; (first | refine hK _ ?_ | refine ⟨_, fun W hW => rfl, hK _ ?_⟩ | refine ⟨_, fun W hW => ⟨rfl, rfl⟩, hK _ ?_⟩); clear hK K) | (refine MJ.wpMix_held rfl rfl (by assumption) (fun K hK => ?_); go_simp; apply Exists.intro; refine And.intro (fun W hW => ?_) (hK _ ?_); (focus (have hcs := HC.out W hW; go_simp; try rfl)); clear hK K))
  (with_reducible refine MJ.wpMix_make rfl rfl (fun K hK => ?_); go_simp)
  refine (HST.out _ ((HAT.out.below HD4.out.below).below (below_drewN 1 (Below.refl _ _)))).mono ?_
  rintro e w5 ⟨rfl, hb5⟩
  have hb5' : Below w4.heap.size w4 w5 := (below_drewN 1 (Below.refl _ _)).trans hb5
  have hJ5 : J w5 := HJ.out _ hb5'
  have HD5 := hid (HD4.out.later hb5')
  have HX5 := hid (HX4.out.below hb5' (by omega))
  have hs5 := hb5'.size
  refine hK _ _ hJ5 ?_
  clear hK K hb5 hb5' hJ0
  repeat (first | (refine MJ.wpMix_pure rfl rfl (fun K hK => ?_); go_simp; (first | refine hK _ ?_ | refine ⟨_, fun W hW => rfl, hK _ ?_⟩ | refine ⟨_, fun W hW => ⟨rfl, rfl⟩, hK _ ?_⟩); clear hK K) | (refine MJ.wpMix_held rfl rfl (by assumption) (fun K hK => ?_); go_simp; apply Exists.intro; refine And.intro (fun W hW => ?_) (hK _ ?_); (focus (have hcs := HC.out W hW; go_simp; try rfl)); clear hK K))
  refine MJ.wpMix_nil ?_
  have x5 := Box.four HX5.out
  clear HJ HC hJ5 HD4 HX4
  go_wp2_with fail
  refine (HRE.out _).mono ?_
  rintro e w6 ⟨rfl, hb6⟩
  have HD6 := hid (HD5.out.later hb6)
  have HX6 := hid (HX5.out.below hb6 (by omega))
  have hs6 := hb6.size
  clear HD5 HX5 x5 hb6
  by_cases hre : insReads ⟨op, ln, rn, val⟩ = true
  · rw [hre]
    rw [hre, if_pos rfl] at HDO
    have x6 := Box.four HX6.out
    have m6 := HCM.out _ HD6.out.below
    obtain ⟨r6, hr6⟩ : ∃ r6, s.regs[t * 3 + rn]? = some r6 := ⟨_, List.getElem?_eq_getElem hil⟩
    have p6 := HD6.out.cell (valC_reg HD6.out.len hr6)
    have f6 := HD6.out.free (4 + (t * 3 + rn))
    have HD7 := hid (AfI.drew (HD6.out.setreg (i := t * 3 + rn) hil mv))
    have HX7 := hid (Box.drew (HX6.out.set (g := w.heap.size) (j := 4 + (t * 3 + rn)) (v := .int .u8 mv) (by omega)))
    rw [← Nat.add_assoc] at p6 f6 HD7 HX7
    clear hr6
    go_wp2_with fail
    refine wp_region_mix (by kernel_rfl) (by kernel_rfl) ?_
    repeat (with_reducible refine wpMix_rd rfl rfl (fun K hK => ?_); go_simp; (try go_bits); refine hK _ ?_; clear hK K)
    (with_reducible refine wpMix_act (o := ⟨_, .store _ _ _, _, _, _, _⟩) rfl rfl (fun K hK => ?_))
    go_simp
    refine hK _ _ ?_
    clear hK K
    obtain ⟨w7, hw7⟩ : ∃ w7, w7 = (w6.setCell ⟨w.heap.size, 4 + t * 3 + rn, none⟩ (.int .u8 mv)).drew := ⟨_, rfl⟩
    rw [← hw7] at HD7 HX7 ⊢
    have hs7 : w6.heap.size = w7.heap.size := by rw [hw7]; simp [World.setCell]
    clear x6 m6 p6 f6 HD6 HX6 hw7
    (with_reducible refine wpMix_nil ?_)
    have x7 := Box.four HX7.out
    go_wp2_with fail
    refine (HWR.out _).mono ?_
    rintro e w8 ⟨rfl, hb8⟩
    have HD8 := hid (HD7.out.later hb8)
    have HX8 := hid (HX7.out.below hb8 (by omega))
    have hs8 := hb8.size
    clear HD7 HX7 x7 hb8
    by_cases hwr : insWrites ⟨op, ln, rn, val⟩ = true
    · rw [hwr]
      rw [hwr, if_pos rfl] at HDO
      have x8 := Box.four HX8.out
      obtain ⟨m8, hm8⟩ : ∃ m8, (s.mem)[ln]? = some m8 := ⟨_, List.getElem?_eq_getElem (by have := HD8.out.len.mem; dsimp only at this; omega)⟩
      have p8 := HD8.out.cell (valC_mem HD8.out.len hm8)
      have f8 := HD8.out.free (13 + ln)
      have HD9 := hid (HD8.out.setmem (l := ln) (by omega) wv)
      clear hm8
      go_wp2
      go_ret
      refine ⟨rfl, ?_, HD9.out.below⟩
      rw [HDO.out]
      exact HD9.out.cur
    · have hwr : insWrites ⟨op, ln, rn, val⟩ = false := by simpa using hwr
      rw [hwr]
      rw [hwr, if_neg (by decide)] at HDO
      go_wp2
      go_ret
      refine ⟨rfl, ?_, HD8.out.below⟩
      rw [HDO.out]
      exact HD8.out.cur
  · have hre : insReads ⟨op, ln, rn, val⟩ = false := by simpa using hre
    rw [hre]
    rw [hre, if_neg (by decide)] at HDO
    have x7 := Box.four HX6.out
    go_wp2_with fail
    refine (HWR.out _).mono ?_
    rintro e w8 ⟨rfl, hb8⟩
    have HD8 := hid (HD6.out.later hb8)
    have HX8 := hid (HX6.out.below hb8 (by omega))
    have hs8 := hb8.size
    clear HD6 HX6 x7 hb8
    by_cases hwr : insWrites ⟨op, ln, rn, val⟩ = true
    · rw [hwr]
      rw [hwr, if_pos rfl] at HDO
      have x8 := Box.four HX8.out
      obtain ⟨m8, hm8⟩ : ∃ m8, (s.mem)[ln]? = some m8 := ⟨_, List.getElem?_eq_getElem (by have := HD8.out.len.mem; dsimp only at this; omega)⟩
      have p8 := HD8.out.cell (valC_mem HD8.out.len hm8)
      have f8 := HD8.out.free (13 + ln)
      have HD9 := hid (HD8.out.setmem (l := ln) (by omega) wv)
      clear hm8
      go_wp2
      go_ret
      refine ⟨rfl, ?_, HD9.out.below⟩
      rw [HDO.out]
      exact HD9.out.cur
    · have hwr : insWrites ⟨op, ln, rn, val⟩ = false := by simpa using hwr
      rw [hwr]
      rw [hwr, if_neg (by decide)] at HDO
      go_wp2
      go_ret
      refine ⟨rfl, ?_, HD8.out.below⟩
      rw [HDO.out]
      exact HD8.out.cur
end Go.Proofs.Ytbncmeggnhggkaa
namespace Go.Proofs.Ytbncmeggnhggkaa
open Go.RowKit
set_option linter.unusedVariables false
set_option linter.unusedSimpArgs false

/-- The closure: it shares the cells of failed, o, moves and from. -/
abbrev fromV (S0 : Nat) : Value := .func (Fn.func 87) #[] #[.pointer (some ⟨S0 + 2, 0, none⟩), .pointer (some ⟨S0, 0, none⟩), .pointer (some ⟨S0 + 4, 0, none⟩), .pointer (some ⟨S0 + 5, 0, none⟩)]
/-- What the search shares, from block S0 on: o, the map of failed texts and its cell, the moves so far, the closure. -/
structure SrW (w0 w : World) (ao : Option Addr) (no co S0 : Nat) (L : List (List UInt8)) (ra : Option Addr) (rc m : Nat) (ms : List Int) : Prop where
  below : Below w0.heap.size w0 w
  s0 : w0.heap.size ≤ S0
  top : S0 + 6 ≤ w.heap.size
  c0 : w.heap[S0]? = some (.cells #[.slice ao no co] 23 (0, 0))
  mp : BMap w (S0 + 1) L
  c2 : w.heap[S0 + 2]? = some (.cells #[.map (some (S0 + 1))] 127 (0, 0))
  c4 : w.heap[S0 + 4]? = some (.cells #[.slice ra m rc] 23 (0, 0))
  c5 : w.heap[S0 + 5]? = some (.cells #[fromV S0] 128 (0, 0))
  row : w.ownsRow (S0 + 3) 3 1 (.slice ra m rc) m (ints ms)
  rb : ∀ b, blk ra = some b → b = S0 + 3 ∨ S0 + 6 ≤ b
/-- The blocks that the closure turns. -/
def SrS (S0 : Nat) (ra : Option Addr) (k : Nat) : Prop := k = S0 + 1 ∨ k = S0 + 4 ∨ blk ra = some k
/-- A state of the plain machine at block b, beside what the search turns. -/
structure SqA (w : World) (a : Option Addr) (cap : Nat) (p : Prg) (S0 : Nat) (ra : Option Addr) (b : Nat) (s : St) : Prop where
  at_ : w.heap[b]? = some (.cells (valC a p.length cap s ++ []).toArray 94 (0, 0))
  ns : ¬ SrS S0 ra b
section
variable {w0 w w' : World} {ao ra ra' : Option Addr} {no co S0 rc rc' m b cap : Nat} {L L' : List (List UInt8)} {ms : List Int} {a : Option Addr} {p : Prg} {s : St}
theorem SqA.lt (h : SqA w a cap p S0 ra b s) : b < w.heap.size := (Array.getElem?_eq_some_iff.1 h.at_).1
theorem SqA.below (h : SqA w a cap p S0 ra b s) (hb : Below w.heap.size w w') : SqA w' a cap p S0 ra b s := ⟨(hb.block _ h.lt).trans h.at_, h.ns⟩
/-- It stays where the closure has run, the moves' row lying where it lay or in a new block. -/
theorem SqA.turn (h : SqA w a cap p S0 ra b s) (hk : Keeps (SrS S0 ra) w w') (hr : ∀ k, blk ra' = some k → blk ra = some k ∨ w.heap.size ≤ k) : SqA w' a cap p S0 ra' b s := by
  refine ⟨(hk.block _ h.lt h.ns).trans h.at_, fun e => ?_⟩
  rcases e with e | e | e
  · exact h.ns (.inl e)
  · exact h.ns (.inr (.inl e))
  · rcases hr b e with h1 | h1
    · exact h.ns (.inr (.inr h1))
    · have := h.lt; omega
theorem SrW.step (h : SrW w0 w ao no co S0 L ra rc m ms) (hb : Below w.heap.size w w') : SrW w0 w' ao no co S0 L ra rc m ms := by
  have ht := h.top
  have hs := hb.size
  exact ⟨h.below.trans (hb.mono h.below.size), h.s0, by omega, (hb.block _ (by omega)).trans h.c0, h.mp.keeps (S := fun _ => False) (Keeps.of_below hb) (fun e => e), (hb.block _ (by omega)).trans h.c2, (hb.block _ (by omega)).trans h.c4, (hb.block _ (by omega)).trans h.c5, own_below h.row hb, h.rb⟩
theorem SqA.mat (h : SqA w a cap p S0 ra b s) (hp : RdP w a p) (hg : Good p s) : MAt 94 [] w b p s := ⟨⟨a, cap, h.at_, hp⟩, hg⟩
end
/-- What the closure leaves. -/
def FromPost (w0 w : World) (p : Prg) (o : List Int) (ao : Option Addr) (no co S0 : Nat) (L : List (List UInt8)) (ra : Option Addr) (ms : List Int) (s : St) (n : Nat) (e : Ending) (w' : World) : Prop :=
  ∃ (B : Bool) (π : List Int) (L' : List (List UInt8)) (ra' : Option Addr) (rc' m' : Nat), e = .returned (.bool B) ∧ ((bestS p o s = some π ∧ B = true) ∨ (bestS p o s = none ∧ B = false ∧ π = [])) ∧ m' = (ms ++ π).length ∧ SrW w0 w' ao no co S0 L' ra' rc' m' (ms ++ π) ∧ FailOk p o L' ∧ GrowF p L L' (n + 1) ∧
    Keeps (SrS S0 ra) w w' ∧ ∀ k, blk ra' = some k → blk ra = some k ∨ w.heap.size ≤ k
def FromC (w0 : World) (a : Option Addr) (cap : Nat) (p : Prg) (o : List Int) (ao : Option Addr) (no co S0 n : Nat) : Prop :=
  ∀ (w : World) (b : Nat) (s : St) (L : List (List UInt8)) (ra : Option Addr) (rc m : Nat) (ms : List Int), left4 p s = n → G3 p s → m = ms.length → m + left4 p s ≤ 1000 → SrW w0 w ao no co S0 L ra rc m ms → SqA w a cap p S0 ra b s → FailOk p o L →
    Calls Try.prog 87 #[.iface 88 (.pointer (some ⟨b, 0, none⟩)), .pointer (some ⟨S0 + 2, 0, none⟩), .pointer (some ⟨S0, 0, none⟩), .pointer (some ⟨S0 + 4, 0, none⟩), .pointer (some ⟨S0 + 5, 0, none⟩)] w (FromPost w0 w p o ao no co S0 L ra ms s n)
end Go.Proofs.Ytbncmeggnhggkaa
namespace Go.Proofs.Ytbncmeggnhggkaa
open Go.RowKit
set_option linter.unusedVariables false
set_option linter.unusedSimpArgs false

theorem findSome_at {α β : Type} {f : α → Option β} {r : β} : ∀ (xs : List α) (k : Nat) (x : α), xs[k]? = some x → (∀ (i : Nat) (y : α), i < k → xs[i]? = some y → f y = none) → f x = some r → xs.findSome? f = some r
  | [], k, x, h, _, _ => by simp at h
  | y :: ys, 0, x, h, _, hf => by
    simp only [List.getElem?_cons_zero, Option.some.injEq] at h
    subst h
    rw [List.findSome?_cons, hf]
  | y :: ys, k + 1, x, h, hn, hf => by
    rw [List.findSome?_cons, hn 0 y (by omega) rfl]
    exact findSome_at ys k x (by simpa using h) (fun i z hi hz => hn (i + 1) z (by omega) (by simpa using hz)) hf
theorem findSome_no {α β : Type} {f : α → Option β} (xs : List α) (h : ∀ (i : Nat) (y : α), xs[i]? = some y → f y = none) : xs.findSome? f = none := by
  rw [List.findSome?_eq_none_iff]
  intro x hx
  obtain ⟨i, hi⟩ := List.mem_iff_getElem?.1 hx
  exact h i x hi
theorem moves3_at {p : Prg} {s : St} {k : Nat} {x : Int} (h : (moves3 p s)[k]? = some x) : ∃ t : Nat, x = (t : Int) ∧ goes p s t = true := by
  have hm := List.mem_of_getElem? h
  unfold moves3 at hm
  obtain ⟨t, ht, rfl⟩ := List.mem_map.1 hm
  exact ⟨t, rfl, (List.mem_filter.1 ht).2⟩
theorem own_pop {w : World} {base e n cap : Nat} {a : Option Addr} {xs : List Value} {x : Value} (h : w.ownsRow base e 1 (.slice a (n + 1) cap) (n + 1) (xs ++ [x])) : w.ownsRow base e 1 (.slice a n cap) n xs := by
  have hl : xs.length = n := by have := h.1; rw [List.length_append] at this; simp at this; omega
  refine ⟨by omega, ?_⟩
  rcases h.2 with ⟨_, h0⟩ | ⟨g, cap', cur, hv, hb, hg, hn, hc, hs, ht⟩
  · omega
  · simp only [Value.slice.injEq, true_and] at hv
    obtain ⟨rfl, rfl⟩ := hv
    refine .inr ⟨g, cap, cur, rfl, hb, hg, by omega, hc, hs, ?_⟩
    have h2 := congrArg (List.take n) ht
    rw [List.take_take, Nat.min_eq_left (by omega), List.take_append_of_le_length (Nat.le_of_eq hl.symm), List.take_of_length_le (l := xs) (Nat.le_of_eq hl)] at h2
    rw [Nat.mul_one]
    exact h2
theorem own_one1 (w : World) (base : Nat) (x : Value) (e : TypeId) (h : base ≤ w.heap.size) : (w.alloc (.cells #[x] e)).ownsRow base e 1 (.slice (some ⟨w.heap.size, 0, none⟩) 1 1) 1 [x] :=
  ⟨rfl, .inr ⟨w.heap.size, 1, #[x], rfl, h, heap_alloc_new w _, Nat.le_refl _, by decide, rfl, rfl⟩⟩
theorem keeps_trans1 {S S2 : Nat → Prop} {a b c : World} (h : Keeps S a b) (k : Keeps S2 b c) (hs : ∀ j, j < a.heap.size → S2 j → S j) : Keeps S a c :=
  ⟨k.os.trans h.os, k.tape.trans h.tape, k.output.trans h.output, Nat.le_trans h.size k.size, fun j hj hn => (k.block j (Nat.lt_of_lt_of_le hj h.size) fun e => hn (hs j hj e)).trans (h.block j hj hn)⟩
/-- The list of moves: readable, away from what the closure turns. -/
structure LvA (w : World) (S0 : Nat) (ra va : Option Addr) (xs : List Int) : Prop where
  rd : Rd w va (ints xs)
  lt : ∀ k, blk va = some k → k < w.heap.size ∧ ¬ SrS S0 ra k
section
variable {w0 w wr w' : World} {ao ra ra2 ra3 va : Option Addr} {no co S0 rc rc2 rc3 m m' b cap n k : Nat} {L L2 L3 : List (List UInt8)} {ms ms' : List Int} {a : Option Addr} {p : Prg} {s : St} {o : List Int}
theorem LvA.turn {xs : List Int} (h : LvA w S0 ra2 va xs) (hk : Keeps (SrS S0 ra2) w w') (hr : ∀ k, blk ra3 = some k → blk ra2 = some k ∨ w.heap.size ≤ k) : LvA w' S0 ra3 va xs := by
  refine ⟨h.rd.keeps hk fun j hj => (h.lt j hj).2, fun j hj => ⟨Nat.lt_of_lt_of_le (h.lt j hj).1 hk.size, fun e => ?_⟩⟩
  rcases e with e | e | e
  · exact (h.lt j hj).2 (.inl e)
  · exact (h.lt j hj).2 (.inr (.inl e))
  · rcases hr j e with h1 | h1
    · exact (h.lt j hj).2 (.inr (.inr h1))
    · have := (h.lt j hj).1; omega
/-- What the closure holds while it goes through the moves. -/
structure SrL (w0 w wr : World) (a : Option Addr) (cap : Nat) (p : Prg) (o : List Int) (ao : Option Addr) (no co S0 : Nat) (L L2 : List (List UInt8)) (ra ra2 : Option Addr) (rc2 m : Nat) (ms : List Int) (n b : Nat) (s : St) (va : Option Addr) (k : Nat) : Prop where
  sw : SrW w0 wr ao no co S0 L2 ra2 rc2 m ms
  st : SqA wr a cap p S0 ra2 b s
  lv : LvA wr S0 ra2 va (moves3 p s)
  fo : FailOk p o L2
  gr : GrowF p L L2 n
  kp : Keeps (SrS S0 ra) w wr
  nb : ∀ j, blk ra2 = some j → blk ra = some j ∨ w.heap.size ≤ j
  no : ∀ i x, i < k → (moves3 p s)[i]? = some x → bestS p o (do3 p s x.toNat) = none
theorem SrL.turn (h : SrL w0 w wr a cap p o ao no co S0 L L2 ra ra2 rc2 m ms n b s va k) (hw : SrW w0 w' ao no co S0 L3 ra3 rc3 m' ms') (hf : FailOk p o L3) (hg : GrowF p L2 L3 n) (hk : Keeps (SrS S0 ra2) wr w') (hr : ∀ k, blk ra3 = some k → blk ra2 = some k ∨ wr.heap.size ≤ k) :
    SrL w0 w w' a cap p o ao no co S0 L L3 ra ra3 rc3 m' ms' n b s va k := by
  refine ⟨hw, h.st.turn hk hr, h.lv.turn hk hr, hf, h.gr.trans hg (Nat.le_refl _), keeps_trans1 h.kp hk fun j hj e => ?_, fun j hj => ?_, h.no⟩
  · rcases e with e | e | e
    · exact .inl e
    · exact .inr (.inl e)
    · rcases h.nb j e with h1 | h1
      · exact .inr (.inr h1)
      · omega
  · rcases hr j hj with h1 | h1
    · exact h.nb j h1
    · exact .inr (Nat.le_trans h.kp.size h1)
theorem SrL.step (h : SrL w0 w wr a cap p o ao no co S0 L L2 ra ra2 rc2 m ms n b s va k) (hb : Below wr.heap.size wr w') : SrL w0 w w' a cap p o ao no co S0 L L2 ra ra2 rc2 m ms n b s va k :=
  h.turn (h.sw.step hb) h.fo (GrowF.refl _ _ _) (Keeps.of_below hb) fun k hk => .inl hk
theorem SrL.next (h : SrL w0 w wr a cap p o ao no co S0 L L2 ra ra2 rc2 m ms n b s va k) {x : Int} (hx : (moves3 p s)[k]? = some x) (hb : bestS p o (do3 p s x.toNat) = none) : SrL w0 w wr a cap p o ao no co S0 L L2 ra ra2 rc2 m ms n b s va (k + 1) := by
  refine ⟨h.sw, h.st, h.lv, h.fo, h.gr, h.kp, h.nb, fun i y hi hy => ?_⟩
  by_cases he : i = k
  · subst he
    rw [hx] at hy
    cases hy
    exact hb
  · exact h.no i y (by omega) hy
/-- A new row for the moves, written to their cell. -/
theorem SrW.rows {w w' : World} (h : SrW w0 w ao no co S0 L ra2 rc2 m ms) (hk : Keeps (fun j => blk ra2 = some j) w w') (ho : w'.ownsRow (S0 + 3) 3 1 (.slice ra3 m' rc3) m' (ints ms')) (hb : ∀ b, blk ra3 = some b → b = S0 + 3 ∨ S0 + 6 ≤ b) :
    SrW w0 (w'.setCell ⟨S0 + 4, 0, none⟩ (.slice ra3 m' rc3)) ao no co S0 L ra3 rc3 m' ms' ∧ Keeps (SrS S0 ra2) w (w'.setCell ⟨S0 + 4, 0, none⟩ (.slice ra3 m' rc3)) := by
  have ht := h.top
  have hs := hk.size
  have h0 := h.s0
  have oth : ∀ k, k < w.heap.size → k ≠ S0 + 3 → k < S0 + 6 → w'.heap[k]? = w.heap[k]? := fun k hk' hne hlt => hk.block k hk' fun e => by
    rcases h.rb k e with h1 | h1 <;> omega
  have hK : Keeps (SrS S0 ra2) w (w'.setCell ⟨S0 + 4, 0, none⟩ (.slice ra3 m' rc3)) := (hk.mono fun j hj => .inr (.inr hj)).trans ((Keeps.setCell _ _ _).mono fun j hj => .inr (.inl hj))
  have oth2 : ∀ k, k < w.heap.size → k ≠ S0 + 3 → k ≠ S0 + 4 → k < S0 + 6 → (w'.setCell ⟨S0 + 4, 0, none⟩ (.slice ra3 m' rc3)).heap[k]? = w.heap[k]? := fun k hk' hne hne4 hlt => (heap_setCell_other w' ⟨S0 + 4, 0, none⟩ k _ hne4).trans (oth k hk' hne hlt)
  refine ⟨⟨Proofs.Ytbncmeggnhggkaa.Below.keeps (S := SrS S0 ra2) h.below hK h.below.size (fun k e => ?_), h.s0, ?_, (oth2 _ (by omega) (by omega) (by omega) (by omega)).trans h.c0, (h.mp.keeps (S := fun j => blk ra2 = some j) hk (fun e => ?_)).keeps (S := (· = S0 + 4)) (Keeps.setCell w' ⟨S0 + 4, 0, none⟩ _) (fun e => by omega), (oth2 _ (by omega) (by omega) (by omega) (by omega)).trans h.c2, ?_, (oth2 _ (by omega) (by omega) (by omega) (by omega)).trans h.c5, own_keeps ho (Keeps.setCell _ _ _) (fun b hb' e => ?_), hb⟩, hK⟩
  · rcases e with e | e | e
    · omega
    · omega
    · rcases h.rb k e with h1 | h1 <;> omega
  · have := hK.size; omega
  · rcases h.rb _ e with h1 | h1 <;> omega
  · exact heap_setCell_same w' (S0 + 4) 0 _ _ _ ((oth _ (by omega) (by omega) (by omega)).trans h.c4)
  · rcases hb b hb' with h1 | h1 <;> (simp only at e; omega)
end
end Go.Proofs.Ytbncmeggnhggkaa
