/-
  PROVED HERE: what (*views).places does. CONDITIONS: as each theorem states.
-/
import Derived.Test.YthlmfjoiicnomaaWa
import Derived.Test.YthlmfjoiicnomaaWc
import Derived.Test.YthlmfjoiicnomaaArd
namespace Go.Proofs.Ythlmfjoiicnomaa
open Go.RowKit
set_option linter.unusedVariables false
set_option linter.unusedSimpArgs false

/-- The places below k. -/
def plTo (p : Prg) (s : Vs) (t k : Nat) : List Int := ((List.range k).filter (can5 p s t)).map fun (m : Nat) => (m : Int)
theorem plTo_succ (p : Prg) (s : Vs) (t k : Nat) : plTo p s t (k + 1) = plTo p s t k ++ if can5 p s t k then [(k : Int)] else [] := by
  unfold plTo
  rw [List.range_succ, List.filter_append, List.map_append]
  congr 1
  cases h : can5 p s t k <;> simp [h]
theorem plTo_len (p : Prg) (s : Vs) (t k : Nat) : (plTo p s t k).length ≤ k := by
  unfold plTo
  rw [List.length_map]
  have := List.length_filter_le (can5 p s t) (List.range k)
  simpa using this
theorem plTo_nil {p : Prg} {s : Vs} {t k : Nat} (h : ∀ j, j < k → can5 p s t j = false) : plTo p s t k = [] := by
  unfold plTo
  rw [List.filter_eq_nil_iff.2 (fun j hj => by rw [h j (List.mem_range.1 hj)]; decide)]
  rfl
/-- The places of a thread: each once. -/
structure PlOk (p : Prg) (s : Vs) (t : Nat) (ks : List Int) : Prop where
  mem : ∀ m, m ∈ ks ↔ ∃ k : Nat, m = k ∧ can5 p s t k = true
  nodup : ks.Nodup
  len : ks.length ≤ 30
theorem plOk {p : Prg} {s : Vs} {t k : Nat} (hk : k ≤ 30) (h : ∀ j, can5 p s t j = true → j < k) : PlOk p s t (plTo p s t k) := by
  refine ⟨fun m => ?_, ?_, Nat.le_trans (plTo_len p s t k) hk⟩
  · unfold plTo
    rw [List.mem_map]
    constructor
    · rintro ⟨c, hc, rfl⟩
      exact ⟨c, rfl, (List.mem_filter.1 hc).2⟩
    · rintro ⟨c, rfl, hc⟩
      exact ⟨c, List.mem_filter.2 ⟨List.mem_range.2 (h c hc), hc⟩, rfl⟩
  · unfold plTo
    unfold List.Nodup
    rw [List.pairwise_map]
    exact (List.Pairwise.filter _ List.nodup_range).imp fun h e => h (by omega)
theorem rd_oneW (w : World) (x : Int) (e : TypeId) : Rd (w.alloc (.cells #[.int .i64 x] e)) (some ⟨w.heap.size, 0, none⟩) [.int .i64 x] :=
  .inr ⟨_, 0, rfl, by simp, fun j v hj => by
    rw [Nat.zero_add, cell_of_row _ _ j _ _ _ (heap_alloc_new w _)]
    match j, hj with
    | 0, hj => simpa using hj
    | k + 1, hj => simp at hj⟩
theorem own_cap_L {n m : Nat} {x : Option Addr × Nat} (h : n ≤ x.2) (e : m = n) : m ≤ x.2 := by rw [e]; exact h
theorem own_one1 (w : World) (base : Nat) (x : Int) (h : base ≤ w.heap.size) : OwI (w.alloc (.cells #[.int .i64 x] 3)) base (some ⟨w.heap.size, 0, none⟩) 1 [x] :=
  ⟨rfl, .inr ⟨w.heap.size, 1, #[.int .i64 x], rfl, h, heap_alloc_new w _, Nat.le_refl _, by decide, rfl, rfl⟩⟩
set_option maxRecDepth 100000 in
set_option maxHeartbeats 3200000 in
theorem places_c (w : World) (g : Nat) (p : Prg) (s : Vs) (t : Nat) (h : VwAt w g p s) (hv : Shape p) (ht : t < p.length) :
    Calls Try.prog 140 #[.pointer (some ⟨g, 0, none⟩), .int .i64 t] w fun e w' => ∃ ks : List Int, RetL w ks e w' ∧ PlOk p s t ks := by
  have hgd := h.good
  have HAT := hid h
  have HVA := hid h.v
  have HNX := hid (fun w (h : VAt w g p s.st) => next_c w g p s.st t h hv ht)
  have hn3 : p.length ≤ 3 := hv.len
  have ht3 : t < 3 := by omega
  have ht3' : (t : Int) < 3 := by omega
  by_cases hgo : goes p s.st t = true
  · obtain ⟨xs, i, x, hxs, hi, hx, hiv, hnx, hi7⟩ := hgd.good.next hv hgo
    obtain ⟨ln, hln, hl2⟩ := valid_loc hiv
    have HOP := hid (valid_op hiv)
    have hl3 : ln < 3 := by omega
    have HCN := hid (fun k => show can5 p s t k = fits5 s t x k by unfold can5; rw [hgo, hnx, Bool.true_and])
    rw [hgo, hnx] at HNX
    simp only [↓reduceIte] at HNX
    obtain ⟨op, loc, reg, val⟩ := x
    have hln : loc = ln := hln
    subst hln
    obtain ⟨b, hseen, hvb, hbl⟩ := hgd.seen ht hl3
    have hN24 : (row5 s ln).length ≤ 24 := hgd.rowlen hv hl3
    have hrp := (hgd.rpos hl3).1
    have HV3 := hid (hgd.v3 hl3)
    have hu3 := hgd.u3 hv
    have hpv := padV_get (hgd.vrow ht)
    obtain ⟨⟨a, cap, Lz, hg, hrp', hrow⟩, _⟩ := h
    have hgl : g < w.heap.size := (Array.getElem?_eq_some_iff.1 hg).1
    have hhl := length_valC (a := a) (n := p.length) (cap := cap) (hgd.good.vlen hv)
    obtain ⟨N, hN⟩ : ∃ N, N = (row5 s ln).length := ⟨_, rfl⟩
    have HN := hid hN
    obtain ⟨rb, ro, hra, hrbw, hrc⟩ : ∃ rb ro, (Lz ln).1 = some ⟨rb, ro, none⟩ ∧ rb < w.heap.size ∧ ∀ j v, (wcells (row5 s ln))[j]? = some v → w.cell? ⟨rb, ro + j, none⟩ = some v := by
      have h0 := (hrow ln hl3).1
      have hlw := wcells_len HV3.out
      rcases h0 with h | ⟨b, off, e, h1, h2⟩
      · rw [h] at hlw; simp at hlw; omega
      · exact ⟨b, off, e, h1, h2⟩
    have cL := cell_L hg (vwC_l (L := Lz) (N := fun l => (row5 s l).length) (U := padV s.view) hhl hl3)
    have cO := cell_L hg (vwC_o (L := Lz) (N := fun l => (row5 s l).length) hhl hu3 hpv hvb)
    rw [hra, ← hN] at cL
    rw [← Nat.add_assoc] at cO
    have hrcl := own_cap_L (hrow ln hl3).2 hN
    obtain ⟨lc, hlc⟩ : ∃ lc, lc = (Lz ln).2 := ⟨_, rfl⟩
    rw [← hlc] at cL hrcl
    have HLK := hid (fun j (hj : j < N) => show w.cell? ⟨rb, ro + j * 5 + 1, none⟩ = some (.bool ((row5 s ln).getD j msZ).lock) from by
      have hm : (row5 s ln)[j]? = some ((row5 s ln).getD j msZ) := by
        rw [List.getD_eq_getElem?_getD, List.getElem?_eq_getElem (by omega)]; rfl
      have := hrc (j * 5 + 1) _ ((wcells_get HV3.out hm (j := 1) (by decide)).trans (by rw [wcell]; rfl))
      rwa [← Nat.add_assoc] at this)
    have HLL := hid cL
    have HLO := hid cO
    have hbN : b < N := by omega
    have hN24 : N ≤ 24 := by omega
    have HSE := hid hseen
    clear hg hrow hrp' hhl hu3 hpv hvb hseen hN hlc hra hrc cL cO hxs hi hx hiv hnx hgd hv hgo hbl hrp
    go_enter Try.func140, Try.ntmps140
    go_wp2_with fail
    refine (HNX.out w (HVA.out.below (Below.refl _ _))).mono ?_
    rintro e w2 ⟨rfl, hb2⟩
    obtain ⟨Hx, hHx⟩ : ∃ Hx, Hx = w2.heap.size := ⟨_, rfl⟩
    obtain ⟨w3, hw3⟩ : ∃ w3, w3 = w2.alloc (.cells #[.int .i64 op, .int .i64 ln, .int .i64 reg, .int .i64 val] 70) := ⟨_, rfl⟩
    have HX3 := hid (show w3.heap[Hx]? = some (.cells #[.int .i64 op, .int .i64 ln, .int .i64 reg, .int .i64 val] 70 (0, 0)) from by rw [hw3, hHx]; exact heap_alloc_new w2 _)
    have HB3 := hid (show Below w.heap.size w w3 from by rw [hw3]; exact hb2.alloc hb2.size _)
    have x0 := cell_of_row w3 Hx 0 _ _ _ HX3.out
    have x1 := cell_of_row w3 Hx 1 _ _ _ HX3.out
    have c16 := (HB3.out.cell (p := ⟨g, 16 + ln, none⟩) hgl).trans HLL.out
    have cO := (HB3.out.cell (p := ⟨g, 19 + t * 3 + ln, none⟩) hgl).trans HLO.out
    have hl3' : (ln : Int) < 3 := by omega
    rw [hw3] at x0 x1 c16 cO
    rw [hHx] at x0 x1
    by_cases h4 : op = 4
    · subst h4
      have HF := hid (show PlOk p s t [0] from by
        have e : plTo p s t 1 = [0] := by
          rw [plTo_succ, HCN.out 0]
          rfl
        rw [← e]
        refine plOk (by decide) (fun j hj => ?_)
        rw [HCN.out] at hj
        unfold fits5 at hj
        rw [if_pos rfl] at hj
        have : j = 0 := by simpa using hj
        omega)
      go_wp2_with fail
      go_ret
      have hO1 := own_one1 w3 w.heap.size 0 HB3.out.size
      rw [hw3, World.size_alloc] at hO1
      refine ⟨[0], ⟨_, _, rfl, hO1, ?_⟩, HF.out⟩
      rw [← hw3]; exact HB3.out.alloc HB3.out.size _
    · have hd4 : (op == 4) = false := by simpa using h4
      go_wp2_with fail
      rw [← hw3]
      rw [← hw3] at x0 x1 c16 cO
      rw [← hHx] at x0 x1
      rw [← hHx]
      have hd3 : w3.drew.heap.size = w3.heap.size := rfl
      clear hw3 hHx
      refine wp_region_mix (by kernel_rfl) (by kernel_rfl) ?_
      go_wp2_with (first | (with_reducible refine wpMix_nil ?_) | (with_reducible refine wpMix_rd rfl rfl (fun K hK => ?_); go_simp; (try go_bits); refine hK _ ?_; clear hK K))
      have HD3 := hid (show Below w3.heap.size w3 w3.drew from below_drewN 1 (Below.refl _ _))
      clear x0 x1 c16 cO
      go_loopw [9, 10, 11, 64, 70] (fun v i _ _ _ wx => ∃ j : Nat, b ≤ j ∧ j ≤ N + 1 ∧ i = .int .i64 j ∧ Hid (wx.ownsRow w3.heap.size 3 1 v (plTo p s t j).length (ints (plTo p s t j))) ∧ Hid (Below w3.heap.size w3 wx)) (fun _ i _ _ _ _ => N + 1 - (intOf i).toNat)
      case atStart =>
        refine ⟨b, Nat.le_refl _, by omega, rfl, hid ?_, HD3⟩
        rw [plTo_nil (fun j hj => by
          rw [HCN.out]
          have h4' : ¬ (({ op := op, loc := (ln : Int), reg := reg, val := val } : Ins).op = 4) := h4
          unfold fits5
          rw [if_neg h4']
          dsimp only
          rw [Int.toNat_natCast, HSE.out]
          have e1 : decide ((b : Int) ≤ (j : Int)) = false := decide_eq_false (by omega)
          have e2 : decide ((b : Int) < (j : Int)) = false := decide_eq_false (by omega)
          rw [e1, e2]
          simp)]
        exact own_none _ _ _ 1
      case round =>
        clear HD3
        obtain ⟨j, hbj, hjN, rfl, HO, HB⟩ := hrel
        by_cases hle : j ≤ N
        · have hle' : (j : Int) ≤ (N : Int) := by omega
          have hxl : Hx < w3.heap.size := (Array.getElem?_eq_some_iff.1 HX3.out).1
          have HXR := hid ((HB.out.block Hx hxl).trans HX3.out)
          have x0 := cell_of_row wr Hx 0 _ _ _ HXR.out
          have HSK := hid (plTo_succ p s t j)
          have hcl := plTo_len p s t j
          have hCB : can5 p s t j = (if op = 1 then decide (j < N) else if op = 5 then (decide (j < N) && !((row5 s ln).getD j msZ).lock) else (decide (b < j) && !((row5 s ln).getD (j - 1) msZ).lock)) := by
            rw [HCN.out]
            have h4' : ¬ (({ op := op, loc := (ln : Int), reg := reg, val := val } : Ins).op = 4) := h4
            unfold fits5
            rw [if_neg h4']
            dsimp only
            rw [Int.toNat_natCast, HSE.out, ← HN.out]
            have e1 : decide ((b : Int) ≤ (j : Int)) = true := decide_eq_true (by omega)
            have e3 : decide (j ≤ N) = true := decide_eq_true hle
            have e2 : decide ((b : Int) < (j : Int)) = decide (b < j) := by simp
            rw [e1, e2, e3, Bool.true_and, Bool.and_true]
          obtain ⟨C, hC⟩ : ∃ C, C = can5 p s t j := ⟨_, rfl⟩
          rw [← hC] at HSK hCB
          clear hC
          have HBW := hid (HB3.out.trans (HB.out.mono HB3.out.size))
          by_cases h1 : op = 1
          · subst h1
            rw [if_pos rfl] at hCB
            by_cases hlt : j < N
            · have hlt' : decide ((j : Int) < (N : Int)) = true := decide_eq_true (by omega)
              rw [decide_eq_true hlt] at hCB
              subst hCB
              rw [if_pos rfl] at HSK
              have HL := hid (show (plTo p s t (j + 1)).length = (plTo p s t j).length + 1 from by rw [HSK.out, List.length_append]; rfl)
              have hb5 : Below wr.heap.size wr (wr.alloc (.cells #[.int .i64 (j : Int)] 3)) := (Below.refl _ _).alloc (Nat.le_refl _) _
              have HO5 := hid (own_below HO.out hb5)
              have hs4 := HB.out.size
              have HB5 := hid (HB.out.trans (hb5.mono hs4))
              clear hb5
              go_wp2_with (at_builtin; refine wpList_append_rd rfl (.tmp 85) (.tmp 87) 24 rfl w3.heap.size 3 (.int .i64 0) 1 8 Try.underlying24 Try.info_int rfl (by decide) _ _ _ rfl HO5.out _ 1 1 [.int .i64 (j : Int)] rfl (rd_oneW wr _ _) rfl (by simp [Value.oneCell']) (by omega) (by decide) (by simp; omega) ?_)
              intro v6 w6 hown6 hgrow6 _
              have hown7 : w6.ownsRow w3.heap.size 3 1 v6 (plTo p s t (j + 1)).length (ints (plTo p s t (j + 1))) := by
                rw [HL.out, HSK.out]
                have e : ints (plTo p s t j ++ [(j : Int)]) = ints (plTo p s t j) ++ [.int .i64 (j : Int)] := by simp
                rw [e]
                exact hown6
              have HB6 := hid (HB5.out.grown hgrow6 (by simp; omega) (fun b hb => (HO5.out.lt b hb).1))
              have HO7 := hid hown7
              obtain ⟨a6, c6, rfl, _⟩ := own_shape hown7
              clear hown6 hown7 hgrow6
              go_wp2_with fail
              go_roundw
              case rel => exact ⟨j + 1, by omega, by omega, by go_num, HO7, HB6⟩
              case measure => simp [intOf]; omega
            · have hlt' : decide ((j : Int) < (N : Int)) = false := decide_eq_false (by omega)
              rw [decide_eq_false hlt] at hCB
              subst hCB
              rw [if_neg (by decide), List.append_nil] at HSK
              go_wp2_with fail
              go_roundw
              case rel => exact ⟨j + 1, by omega, by omega, by go_num, hid (by rw [HSK.out]; exact HO.out), HB⟩
              case measure => simp [intOf]; omega
          · rw [if_neg h1] at hCB
            by_cases h5 : op = 5
            · subst h5
              rw [if_pos rfl] at hCB
              by_cases hlt : j < N
              · have hltI : (j : Int) < (N : Int) := by omega
                have ck := (HBW.out.cell (p := ⟨rb, ro + j * 5 + 1, none⟩) hrbw).trans (HLK.out j hlt)
                rw [decide_eq_true hlt, Bool.true_and] at hCB
                obtain ⟨K, hK⟩ : ∃ K, K = ((row5 s ln).getD j msZ).lock := ⟨_, rfl⟩
                rw [← hK] at hCB ck
                clear hK
                have hb5 : Below wr.heap.size wr (wr.alloc (.cells #[.int .i64 (j : Int)] 3)) := (Below.refl _ _).alloc (Nat.le_refl _) _
                have HO5 := hid (own_below HO.out hb5)
                have hs4 := HB.out.size
                have HB5 := hid (HB.out.trans (hb5.mono hs4))
                clear hb5
                go_wp2_with (at_builtin; refine wpList_append_rd rfl (.tmp 85) (.tmp 87) 24 rfl w3.heap.size 3 (.int .i64 0) 1 8 Try.underlying24 Try.info_int rfl (by decide) _ _ _ rfl HO5.out _ 1 1 [.int .i64 (j : Int)] rfl (rd_oneW wr _ _) rfl (by simp [Value.oneCell']) (by omega) (by decide) (by simp; omega) ?_)
                · rename_i hK2
                  have hCt : C = true := hCB.trans hK2
                  rw [hCt, if_pos rfl] at HSK
                  have HL := hid (show (plTo p s t (j + 1)).length = (plTo p s t j).length + 1 from by rw [HSK.out, List.length_append]; rfl)
                  clear ck hK2 hCB hCt
                  intro v6 w6 hown6 hgrow6 _
                  have hown7 : w6.ownsRow w3.heap.size 3 1 v6 (plTo p s t (j + 1)).length (ints (plTo p s t (j + 1))) := by
                    rw [HL.out, HSK.out]
                    have e : ints (plTo p s t j ++ [(j : Int)]) = ints (plTo p s t j) ++ [.int .i64 (j : Int)] := by simp
                    rw [e]
                    exact hown6
                  have HB6 := hid (HB5.out.grown hgrow6 (by simp; omega) (fun b hb => (HO5.out.lt b hb).1))
                  have HO7 := hid hown7
                  obtain ⟨a6, c6, rfl, _⟩ := own_shape hown7
                  clear hown6 hown7 hgrow6
                  go_wp2_with fail
                  go_roundw
                  case rel => exact ⟨(j + 1), by omega, by omega, by go_num, HO7, HB6⟩
                  case measure => simp [intOf]; omega
                · rename_i hK2
                  have hCt : C = false := hCB.trans hK2
                  rw [hCt, if_neg (by decide), List.append_nil] at HSK
                  clear ck hK2 hCB hCt
                  refine ⟨⟨(j + 1), by omega, by omega, by go_num, hid (by rw [HSK.out]; exact HO.out), HB⟩, ?_⟩
                  simp [intOf]; omega
              · have hlt' : decide ((j : Int) < (N : Int)) = false := decide_eq_false (by omega)
                rw [decide_eq_false hlt, Bool.false_and] at hCB
                subst hCB
                rw [if_neg (by decide), List.append_nil] at HSK
                go_wp2_with fail
                go_roundw
                case rel => exact ⟨j + 1, by omega, by omega, by go_num, hid (by rw [HSK.out]; exact HO.out), HB⟩
                case measure => simp [intOf]; omega
            · rw [if_neg h5] at hCB
              have d1 : (op == 1) = false := by simpa using h1
              have d5 : (op == 5) = false := by simpa using h5
              by_cases hlt : b < j
              · obtain ⟨j', rfl⟩ : ∃ j', j = j' + 1 := ⟨j - 1, by omega⟩
                have hltb : (b : Int) < (j' : Int) + 1 := by omega
                have hlej : (j' : Int) + 1 ≤ (N : Int) := by omega
                clear hle'
                have hjN1 : (j' : Int) < (N : Int) := by omega
                have ck := (HBW.out.cell (p := ⟨rb, ro + j' * 5 + 1, none⟩) hrbw).trans (HLK.out j' (by omega))
                rw [decide_eq_true hlt, Bool.true_and, Nat.add_sub_cancel] at hCB
                obtain ⟨K, hK⟩ : ∃ K, K = ((row5 s ln).getD j' msZ).lock := ⟨_, rfl⟩
                rw [← hK] at hCB ck
                clear hK
                have hb5 : Below wr.heap.size wr (wr.alloc (.cells #[.int .i64 ((j' : Int) + 1)] 3)) := (Below.refl _ _).alloc (Nat.le_refl _) _
                have HO5 := hid (own_below HO.out hb5)
                have hs4 := HB.out.size
                have HB5 := hid (HB.out.trans (hb5.mono hs4))
                clear hb5
                go_wp2_with (at_builtin; refine wpList_append_rd rfl (.tmp 85) (.tmp 87) 24 rfl w3.heap.size 3 (.int .i64 0) 1 8 Try.underlying24 Try.info_int rfl (by decide) _ _ _ rfl HO5.out _ 1 1 [.int .i64 ((j' : Int) + 1)] rfl (rd_oneW wr _ _) rfl (by simp [Value.oneCell']) (by omega) (by decide) (by simp; omega) ?_)
                · rename_i hK2
                  have hCt : C = true := hCB.trans hK2
                  rw [hCt, if_pos rfl] at HSK
                  have HL := hid (show (plTo p s t (j' + 1 + 1)).length = (plTo p s t (j' + 1)).length + 1 from by rw [HSK.out, List.length_append]; rfl)
                  clear ck hK2 hCB hCt
                  intro v6 w6 hown6 hgrow6 _
                  have hown7 : w6.ownsRow w3.heap.size 3 1 v6 (plTo p s t (j' + 1 + 1)).length (ints (plTo p s t (j' + 1 + 1))) := by
                    rw [HL.out, HSK.out]
                    have e : ints (plTo p s t (j' + 1) ++ [((j' + 1 : Nat) : Int)]) = ints (plTo p s t (j' + 1)) ++ [.int .i64 ((j' : Int) + 1)] := by simp
                    rw [e]
                    exact hown6
                  have HB6 := hid (HB5.out.grown hgrow6 (by simp; omega) (fun b hb => (HO5.out.lt b hb).1))
                  have HO7 := hid hown7
                  obtain ⟨a6, c6, rfl, _⟩ := own_shape hown7
                  clear hown6 hown7 hgrow6
                  go_wp2_with fail
                  go_roundw
                  case rel => exact ⟨(j' + 1 + 1), by omega, by omega, by go_num, HO7, HB6⟩
                  case measure => simp [intOf]; omega
                · rename_i hK2
                  have hCt : C = false := hCB.trans hK2
                  rw [hCt, if_neg (by decide), List.append_nil] at HSK
                  clear ck hK2 hCB hCt
                  refine ⟨⟨(j' + 1 + 1), by omega, by omega, by go_num, hid (by rw [HSK.out]; exact HO.out), HB⟩, ?_⟩
                  simp [intOf]; omega
              · have hlt' : decide ((b : Int) < (j : Int)) = false := decide_eq_false (by omega)
                rw [decide_eq_false hlt, Bool.false_and] at hCB
                subst hCB
                rw [if_neg (by decide), List.append_nil] at HSK
                go_wp2_with fail
                go_roundw
                case rel => exact ⟨j + 1, by omega, by omega, by go_num, hid (by rw [HSK.out]; exact HO.out), HB⟩
                case measure => simp [intOf]; omega
        · obtain rfl : j = N + 1 := by omega
          have hle' : ¬ (((N + 1 : Nat) : Int) ≤ (N : Int)) := by omega
          have HF := hid (show PlOk p s t (plTo p s t (N + 1)) from plOk (by omega) (fun j hj => by
            rw [HCN.out] at hj
            have h4' : ¬ (({ op := op, loc := (ln : Int), reg := reg, val := val } : Ins).op = 4) := h4
            unfold fits5 at hj
            rw [if_neg h4'] at hj
            dsimp only at hj
            rw [Int.toNat_natCast, ← HN.out] at hj
            split at hj
            · simp only [Bool.and_eq_true, decide_eq_true_eq] at hj; omega
            · split at hj
              · simp only [Bool.and_eq_true, decide_eq_true_eq] at hj; omega
              · simp only [Bool.and_eq_true, decide_eq_true_eq] at hj; omega))
          obtain ⟨a6, c6, rfl, _⟩ := own_shape HO.out
          go_wp2_with fail
          go_ret
          exact ⟨plTo p s t (N + 1), ⟨a6, c6, rfl, own_base HO.out HB3.out.size, HB3.out.trans (HB.out.mono HB3.out.size)⟩, HF.out⟩
  · have hgo : goes p s.st t = false := by simpa using hgo
    have HF := hid (show PlOk p s t [] from ⟨fun m => ⟨fun h => (by cases h), fun ⟨k, _, hk⟩ => by unfold can5 at hk; rw [hgo] at hk; cases hk⟩, List.nodup_nil, by decide⟩)
    rw [hgo] at HNX
    clear hgo hgd h hv
    go_enter Try.func140, Try.ntmps140
    go_wp2_with fail
    refine (HNX.out w HVA.out).mono ?_
    rintro e w2 ⟨rfl, hb2⟩
    have HB2 := hid (hb2.alloc hb2.size (.cells #[.int .i64 0, .int .i64 0, .int .i64 0, .int .i64 0] 70))
    clear hb2
    go_wp2_with fail
    go_ret
    exact ⟨[], ⟨none, 0, rfl, own_none _ _ _ 1, HB2.out⟩, HF.out⟩
end Go.Proofs.Ythlmfjoiicnomaa
