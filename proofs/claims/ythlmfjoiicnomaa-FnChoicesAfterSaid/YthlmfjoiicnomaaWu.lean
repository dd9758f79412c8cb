/-
  PROVED HERE: what (*views).places does. what (*views).moves does. CONDITIONS: as each theorem states.
-/
import Derived.Test.YthlmfjoiicnomaaWc
import Derived.Test.YthlmfjoiicnomaaArd
import Derived.Test.YthlmfjoiicnomaaShs
namespace Go.Proofs.Ythlmfjoiicnomaa
open Go.RowKit
set_option linter.unusedVariables false
set_option linter.unusedSimpArgs false

/-- The places below k. -/
def plTo (p : Prg) (s : Vs) (t k : Nat) : List Int := ((List.range k).filter (can5 p s t)).map fun (m : Nat) => (m : Int)
theorem plTo_succ (p : Prg) (s : Vs) (t k : Nat) : plTo p s t (k + 1) = plTo p s t k ++ if can5 p s t k then [(k : Int)] else [] := by
  unfold plTo
  rw [List.range_succ, List.filter_append, List.map_append]
  congr 1
  cases h : can5 p s t k <;> simp [h]
theorem plTo_len (p : Prg) (s : Vs) (t k : Nat) : (plTo p s t k).length ≤ k := by
  unfold plTo
  rw [List.length_map]
  have := List.length_filter_le (can5 p s t) (List.range k)
  simpa using this
theorem plTo_nil {p : Prg} {s : Vs} {t k : Nat} (h : ∀ j, j < k → can5 p s t j = false) : plTo p s t k = [] := by
  unfold plTo
  rw [List.filter_eq_nil_iff.2 (fun j hj => by rw [h j (List.mem_range.1 hj)]; decide)]
  rfl
/-- The places of a thread: each once. -/
structure PlOk (p : Prg) (s : Vs) (t : Nat) (ks : List Int) : Prop where
  mem : ∀ m, m ∈ ks ↔ ∃ k : Nat, m = k ∧ can5 p s t k = true
  nodup : ks.Nodup
  len : ks.length ≤ 30
theorem plOk {p : Prg} {s : Vs} {t k : Nat} (hk : k ≤ 30) (h : ∀ j, can5 p s t j = true → j < k) : PlOk p s t (plTo p s t k) := by
  refine ⟨fun m => ?_, ?_, Nat.le_trans (plTo_len p s t k) hk⟩
  · unfold plTo
    rw [List.mem_map]
    constructor
    · rintro ⟨c, hc, rfl⟩
      exact ⟨c, rfl, (List.mem_filter.1 hc).2⟩
    · rintro ⟨c, rfl, hc⟩
      exact ⟨c, List.mem_filter.2 ⟨List.mem_range.2 (h c hc), hc⟩, rfl⟩
  · unfold plTo
    unfold List.Nodup
    rw [List.pairwise_map]
    exact (List.Pairwise.filter _ List.nodup_range).imp fun h e => h (by omega)
theorem rd_oneW (w : World) (x : Int) (e : TypeId) : Rd (w.alloc (.cells #[.int .i64 x] e)) (some ⟨w.heap.size, 0, none⟩) [.int .i64 x] :=
  .inr ⟨_, 0, rfl, by simp, fun j v hj => by
    rw [Nat.zero_add, cell_of_row _ _ j _ _ _ (heap_alloc_new w _)]
    match j, hj with
    | 0, hj => simpa using hj
    | k + 1, hj => simp at hj⟩
theorem own_cap_L {n m : Nat} {x : Option Addr × Nat} (h : n ≤ x.2) (e : m = n) : m ≤ x.2 := by rw [e]; exact h
theorem own_one1 (w : World) (base : Nat) (x : Int) (h : base ≤ w.heap.size) : OwI (w.alloc (.cells #[.int .i64 x] 3)) base (some ⟨w.heap.size, 0, none⟩) 1 [x] :=
  ⟨rfl, .inr ⟨w.heap.size, 1, #[.int .i64 x], rfl, h, heap_alloc_new w _, Nat.le_refl _, by decide, rfl, rfl⟩⟩
set_option maxRecDepth 100000 in
set_option maxHeartbeats 3200000 in
theorem places_c (w : World) (g : Nat) (p : Prg) (s : Vs) (t : Nat) (h : VwAt w g p s) (hv : Shape p) (ht : t < p.length) :
    Calls Try.prog 140 #[.pointer (some ⟨g, 0, none⟩), .int .i64 t] w fun e w' => ∃ ks : List Int, RetL w ks e w' ∧ PlOk p s t ks := by
  have hgd := h.good
  have HAT := hid h
  have HVA := hid h.v
  have HNX := hid (fun w (h : VAt w g p s.st) => next_c w g p s.st t h hv ht)
  have hn3 : p.length ≤ 3 := hv.len
  have ht3 : t < 3 := by omega
  have ht3' : (t : Int) < 3 := by omega
  by_cases hgo : goes p s.st t = true
  · obtain ⟨xs, i, x, hxs, hi, hx, hiv, hnx, hi7⟩ := hgd.good.next hv hgo
    obtain ⟨ln, hln, hl2⟩ := valid_loc hiv
    have HOP := hid (valid_op hiv)
    have hl3 : ln < 3 := by omega
    have HCN := hid (fun k => show can5 p s t k = fits5 s t x k by unfold can5; rw [hgo, hnx, Bool.true_and])
    rw [hgo, hnx] at HNX
    simp only [↓reduceIte] at HNX
    obtain ⟨op, loc, reg, val⟩ := x
    have hln : loc = ln := hln
    subst hln
    obtain ⟨b, hseen, hvb, hbl⟩ := hgd.seen ht hl3
    have hN24 : (row5 s ln).length ≤ 24 := hgd.rowlen hv hl3
    have hrp := (hgd.rpos hl3).1
    have HV3 := hid (hgd.v3 hl3)
    have hu3 := hgd.u3 hv
    have hpv := padV_get (hgd.vrow ht)
    obtain ⟨⟨a, cap, Lz, hg, hrp', hrow⟩, _⟩ := h
    have hgl : g < w.heap.size := (Array.getElem?_eq_some_iff.1 hg).1
    have hhl := length_valC (a := a) (n := p.length) (cap := cap) (hgd.good.vlen hv)
    obtain ⟨N, hN⟩ : ∃ N, N = (row5 s ln).length := ⟨_, rfl⟩
    have HN := hid hN
    obtain ⟨rb, ro, hra, hrbw, hrc⟩ : ∃ rb ro, (Lz ln).1 = some ⟨rb, ro, none⟩ ∧ rb < w.heap.size ∧ ∀ j v, (wcells (row5 s ln))[j]? = some v → w.cell? ⟨rb, ro + j, none⟩ = some v := by
      have h0 := (hrow ln hl3).1
      have hlw := wcells_len HV3.out
      rcases h0 with h | ⟨b, off, e, h1, h2⟩
      · rw [h] at hlw; simp at hlw; omega
      · exact ⟨b, off, e, h1, h2⟩
    have cL := cell_L hg (vwC_l (L := Lz) (N := fun l => (row5 s l).length) (U := padV s.view) hhl hl3)
    have cO := cell_L hg (vwC_o (L := Lz) (N := fun l => (row5 s l).length) hhl hu3 hpv hvb)
    rw [hra, ← hN] at cL
    rw [← Nat.add_assoc] at cO
    have hrcl := own_cap_L (hrow ln hl3).2 hN
    obtain ⟨lc, hlc⟩ : ∃ lc, lc = (Lz ln).2 := ⟨_, rfl⟩
    rw [← hlc] at cL hrcl
    have HLK := hid (fun j (hj : j < N) => show w.cell? ⟨rb, ro + j * 5 + 1, none⟩ = some (.bool ((row5 s ln).getD j msZ).lock) from by
      have hm : (row5 s ln)[j]? = some ((row5 s ln).getD j msZ) := by
        rw [List.getD_eq_getElem?_getD, List.getElem?_eq_getElem (by omega)]; rfl
      have := hrc (j * 5 + 1) _ ((wcells_get HV3.out hm (j := 1) (by decide)).trans (by rw [wcell]; rfl))
      rwa [← Nat.add_assoc] at this)
    have HLL := hid cL
    have HLO := hid cO
    have hbN : b < N := by omega
    have hN24 : N ≤ 24 := by omega
    have HSE := hid hseen
    clear hg hrow hrp' hhl hu3 hpv hvb hseen hN hlc hra hrc cL cO hxs hi hx hiv hnx hgd hv hgo hbl hrp
    go_enter Try.func140, Try.ntmps140
    go_wp2_with fail
    refine (HNX.out w (HVA.out.below (Below.refl _ _))).mono ?_
    rintro e w2 ⟨rfl, hb2⟩
    obtain ⟨Hx, hHx⟩ : ∃ Hx, Hx = w2.heap.size := ⟨_, rfl⟩
    obtain ⟨w3, hw3⟩ : ∃ w3, w3 = w2.alloc (.cells #[.int .i64 op, .int .i64 ln, .int .i64 reg, .int .i64 val] 70) := ⟨_, rfl⟩
    have HX3 := hid (show w3.heap[Hx]? = some (.cells #[.int .i64 op, .int .i64 ln, .int .i64 reg, .int .i64 val] 70 (0, 0)) from by rw [hw3, hHx]; exact heap_alloc_new w2 _)
    have HB3 := hid (show Below w.heap.size w w3 from by rw [hw3]; exact hb2.alloc hb2.size _)
    have x0 := cell_of_row w3 Hx 0 _ _ _ HX3.out
    have x1 := cell_of_row w3 Hx 1 _ _ _ HX3.out
    have c16 := (HB3.out.cell (p := ⟨g, 16 + ln, none⟩) hgl).trans HLL.out
    have cO := (HB3.out.cell (p := ⟨g, 19 + t * 3 + ln, none⟩) hgl).trans HLO.out
    have hl3' : (ln : Int) < 3 := by omega
    rw [hw3] at x0 x1 c16 cO
    rw [hHx] at x0 x1
    by_cases h4 : op = 4
    · subst h4
      have HF := hid (show PlOk p s t [0] from by
        have e : plTo p s t 1 = [0] := by
          rw [plTo_succ, HCN.out 0]
          rfl
        rw [← e]
        refine plOk (by decide) (fun j hj => ?_)
        rw [HCN.out] at hj
        unfold fits5 at hj
        rw [if_pos rfl] at hj
        have : j = 0 := by simpa using hj
        omega)
      go_wp2_with fail
      go_ret
      have hO1 := own_one1 w3 w.heap.size 0 HB3.out.size
      rw [hw3, World.size_alloc] at hO1
      refine ⟨[0], ⟨_, _, rfl, hO1, ?_⟩, HF.out⟩
      rw [← hw3]; exact HB3.out.alloc HB3.out.size _
    · have hd4 : (op == 4) = false := by simpa using h4
      go_wp2_with fail
      rw [← hw3]
      rw [← hw3] at x0 x1 c16 cO
      rw [← hHx] at x0 x1
      rw [← hHx]
      have hd3 : w3.drew.heap.size = w3.heap.size := rfl
      clear hw3 hHx
      refine wp_region_mix (by kernel_rfl) (by kernel_rfl) ?_
      go_wp2_with (first | (with_reducible refine wpMix_nil ?_) | (with_reducible refine wpMix_rd rfl rfl (fun K hK => ?_); go_simp; (try go_bits); refine hK _ ?_; clear hK K))
      have HD3 := hid (show Below w3.heap.size w3 w3.drew from below_drewN 1 (Below.refl _ _))
      clear x0 x1 c16 cO
      go_loopw [9, 10, 11, 64, 70] (fun v i _ _ _ wx => ∃ j : Nat, b ≤ j ∧ j ≤ N + 1 ∧ i = .int .i64 j ∧ Hid (wx.ownsRow w3.heap.size 3 1 v (plTo p s t j).length (ints (plTo p s t j))) ∧ Hid (Below w3.heap.size w3 wx)) (fun _ i _ _ _ _ => N + 1 - (intOf i).toNat)
      case atStart =>
        refine ⟨b, Nat.le_refl _, by omega, rfl, hid ?_, HD3⟩
        rw [plTo_nil (fun j hj => by
          rw [HCN.out]
          have h4' : ¬ (({ op := op, loc := (ln : Int), reg := reg, val := val } : Ins).op = 4) := h4
          unfold fits5
          rw [if_neg h4']
          dsimp only
          rw [Int.toNat_natCast, HSE.out]
          have e1 : decide ((b : Int) ≤ (j : Int)) = false := decide_eq_false (by omega)
          have e2 : decide ((b : Int) < (j : Int)) = false := decide_eq_false (by omega)
          rw [e1, e2]
          simp)]
        exact own_none _ _ _ 1
      case round =>
        clear HD3
        obtain ⟨j, hbj, hjN, rfl, HO, HB⟩ := hrel
        by_cases hle : j ≤ N
        · have hle' : (j : Int) ≤ (N : Int) := by omega
          have hxl : Hx < w3.heap.size := (Array.getElem?_eq_some_iff.1 HX3.out).1
          have HXR := hid ((HB.out.block Hx hxl).trans HX3.out)
          have x0 := cell_of_row wr Hx 0 _ _ _ HXR.out
          have HSK := hid (plTo_succ p s t j)
          have hcl := plTo_len p s t j
          have hCB : can5 p s t j = (if op = 1 then decide (j < N) else if op = 5 then (decide (j < N) && !((row5 s ln).getD j msZ).lock) else (decide (b < j) && !((row5 s ln).getD (j - 1) msZ).lock)) := by
            rw [HCN.out]
            have h4' : ¬ (({ op := op, loc := (ln : Int), reg := reg, val := val } : Ins).op = 4) := h4
            unfold fits5
            rw [if_neg h4']
            dsimp only
            rw [Int.toNat_natCast, HSE.out, ← HN.out]
            have e1 : decide ((b : Int) ≤ (j : Int)) = true := decide_eq_true (by omega)
            have e3 : decide (j ≤ N) = true := decide_eq_true hle
            have e2 : decide ((b : Int) < (j : Int)) = decide (b < j) := by simp
            rw [e1, e2, e3, Bool.true_and, Bool.and_true]
          obtain ⟨C, hC⟩ : ∃ C, C = can5 p s t j := ⟨_, rfl⟩
          rw [← hC] at HSK hCB
          clear hC
          have HBW := hid (HB3.out.trans (HB.out.mono HB3.out.size))
          by_cases h1 : op = 1
          · subst h1
            rw [if_pos rfl] at hCB
            by_cases hlt : j < N
            · have hlt' : decide ((j : Int) < (N : Int)) = true := decide_eq_true (by omega)
              rw [decide_eq_true hlt] at hCB
              subst hCB
              rw [if_pos rfl] at HSK
              have HL := hid (show (plTo p s t (j + 1)).length = (plTo p s t j).length + 1 from by rw [HSK.out, List.length_append]; rfl)
              have hb5 : Below wr.heap.size wr (wr.alloc (.cells #[.int .i64 (j : Int)] 3)) := (Below.refl _ _).alloc (Nat.le_refl _) _
              have HO5 := hid (own_below HO.out hb5)
              have hs4 := HB.out.size
              have HB5 := hid (HB.out.trans (hb5.mono hs4))
              clear hb5
              go_wp2_with (at_builtin; refine wpList_append_rd rfl (.tmp 85) (.tmp 87) 24 rfl w3.heap.size 3 (.int .i64 0) 1 8 Try.underlying24 Try.info_int rfl (by decide) _ _ _ rfl HO5.out _ 1 1 [.int .i64 (j : Int)] rfl (rd_oneW wr _ _) rfl (by simp [Value.oneCell']) (by omega) (by decide) (by simp; omega) ?_)
              intro v6 w6 hown6 hgrow6 _
              have hown7 : w6.ownsRow w3.heap.size 3 1 v6 (plTo p s t (j + 1)).length (ints (plTo p s t (j + 1))) := by
                rw [HL.out, HSK.out]
                have e : ints (plTo p s t j ++ [(j : Int)]) = ints (plTo p s t j) ++ [.int .i64 (j : Int)] := by simp
                rw [e]
                exact hown6
              have HB6 := hid (HB5.out.grown hgrow6 (by simp; omega) (fun b hb => (HO5.out.lt b hb).1))
              have HO7 := hid hown7
              obtain ⟨a6, c6, rfl, _⟩ := own_shape hown7
              clear hown6 hown7 hgrow6
              go_wp2_with fail
              go_roundw
              case rel => exact ⟨j + 1, by omega, by omega, by go_num, HO7, HB6⟩
              case measure => simp [intOf]; omega
            · have hlt' : decide ((j : Int) < (N : Int)) = false := decide_eq_false (by omega)
              rw [decide_eq_false hlt] at hCB
              subst hCB
              rw [if_neg (by decide), List.append_nil] at HSK
              go_wp2_with fail
              go_roundw
              case rel => exact ⟨j + 1, by omega, by omega, by go_num, hid (by rw [HSK.out]; exact HO.out), HB⟩
              case measure => simp [intOf]; omega
          · rw [if_neg h1] at hCB
            by_cases h5 : op = 5
            · subst h5
              rw [if_pos rfl] at hCB
              by_cases hlt : j < N
              · have hltI : (j : Int) < (N : Int) := by omega
                have ck := (HBW.out.cell (p := ⟨rb, ro + j * 5 + 1, none⟩) hrbw).trans (HLK.out j hlt)
                rw [decide_eq_true hlt, Bool.true_and] at hCB
                obtain ⟨K, hK⟩ : ∃ K, K = ((row5 s ln).getD j msZ).lock := ⟨_, rfl⟩
                rw [← hK] at hCB ck
                clear hK
                have hb5 : Below wr.heap.size wr (wr.alloc (.cells #[.int .i64 (j : Int)] 3)) := (Below.refl _ _).alloc (Nat.le_refl _) _
                have HO5 := hid (own_below HO.out hb5)
                have hs4 := HB.out.size
                have HB5 := hid (HB.out.trans (hb5.mono hs4))
                clear hb5
                go_wp2_with (at_builtin; refine wpList_append_rd rfl (.tmp 85) (.tmp 87) 24 rfl w3.heap.size 3 (.int .i64 0) 1 8 Try.underlying24 Try.info_int rfl (by decide) _ _ _ rfl HO5.out _ 1 1 [.int .i64 (j : Int)] rfl (rd_oneW wr _ _) rfl (by simp [Value.oneCell']) (by omega) (by decide) (by simp; omega) ?_)
                · rename_i hK2
                  have hCt : C = true := hCB.trans hK2
                  rw [hCt, if_pos rfl] at HSK
                  have HL := hid (show (plTo p s t (j + 1)).length = (plTo p s t j).length + 1 from by rw [HSK.out, List.length_append]; rfl)
                  clear ck hK2 hCB hCt
                  intro v6 w6 hown6 hgrow6 _
                  have hown7 : w6.ownsRow w3.heap.size 3 1 v6 (plTo p s t (j + 1)).length (ints (plTo p s t (j + 1))) := by
                    rw [HL.out, HSK.out]
                    have e : ints (plTo p s t j ++ [(j : Int)]) = ints (plTo p s t j) ++ [.int .i64 (j : Int)] := by simp
                    rw [e]
                    exact hown6
                  have HB6 := hid (HB5.out.grown hgrow6 (by simp; omega) (fun b hb => (HO5.out.lt b hb).1))
                  have HO7 := hid hown7
                  obtain ⟨a6, c6, rfl, _⟩ := own_shape hown7
                  clear hown6 hown7 hgrow6
                  go_wp2_with fail
                  go_roundw
                  case rel => exact ⟨(j + 1), by omega, by omega, by go_num, HO7, HB6⟩
                  case measure => simp [intOf]; omega
                · rename_i hK2
                  have hCt : C = false := hCB.trans hK2
                  rw [hCt, if_neg (by decide), List.append_nil] at HSK
                  clear ck hK2 hCB hCt
                  refine ⟨⟨(j + 1), by omega, by omega, by go_num, hid (by rw [HSK.out]; exact HO.out), HB⟩, ?_⟩
                  simp [intOf]; omega
              · have hlt' : decide ((j : Int) < (N : Int)) = false := decide_eq_false (by omega)
                rw [decide_eq_false hlt, Bool.false_and] at hCB
                subst hCB
                rw [if_neg (by decide), List.append_nil] at HSK
                go_wp2_with fail
                go_roundw
                case rel => exact ⟨j + 1, by omega, by omega, by go_num, hid (by rw [HSK.out]; exact HO.out), HB⟩
                case measure => simp [intOf]; omega
            · rw [if_neg h5] at hCB
              have d1 : (op == 1) = false := by simpa using h1
              have d5 : (op == 5) = false := by simpa using h5
              by_cases hlt : b < j
              · obtain ⟨j', rfl⟩ : ∃ j', j = j' + 1 := ⟨j - 1, by omega⟩
                have hltb : (b : Int) < (j' : Int) + 1 := by omega
                have hlej : (j' : Int) + 1 ≤ (N : Int) := by omega
                clear hle'
                have hjN1 : (j' : Int) < (N : Int) := by omega
                have ck := (HBW.out.cell (p := ⟨rb, ro + j' * 5 + 1, none⟩) hrbw).trans (HLK.out j' (by omega))
                rw [decide_eq_true hlt, Bool.true_and, Nat.add_sub_cancel] at hCB
                obtain ⟨K, hK⟩ : ∃ K, K = ((row5 s ln).getD j' msZ).lock := ⟨_, rfl⟩
                rw [← hK] at hCB ck
                clear hK
                have hb5 : Below wr.heap.size wr (wr.alloc (.cells #[.int .i64 ((j' : Int) + 1)] 3)) := (Below.refl _ _).alloc (Nat.le_refl _) _
                have HO5 := hid (own_below HO.out hb5)
                have hs4 := HB.out.size
                have HB5 := hid (HB.out.trans (hb5.mono hs4))
                clear hb5
                go_wp2_with (at_builtin; refine wpList_append_rd rfl (.tmp 85) (.tmp 87) 24 rfl w3.heap.size 3 (.int .i64 0) 1 8 Try.underlying24 Try.info_int rfl (by decide) _ _ _ rfl HO5.out _ 1 1 [.int .i64 ((j' : Int) + 1)] rfl (rd_oneW wr _ _) rfl (by simp [Value.oneCell']) (by omega) (by decide) (by simp; omega) ?_)
                · rename_i hK2
                  have hCt : C = true := hCB.trans hK2
                  rw [hCt, if_pos rfl] at HSK
                  have HL := hid (show (plTo p s t (j' + 1 + 1)).length = (plTo p s t (j' + 1)).length + 1 from by rw [HSK.out, List.length_append]; rfl)
                  clear ck hK2 hCB hCt
                  intro v6 w6 hown6 hgrow6 _
                  have hown7 : w6.ownsRow w3.heap.size 3 1 v6 (plTo p s t (j' + 1 + 1)).length (ints (plTo p s t (j' + 1 + 1))) := by
                    rw [HL.out, HSK.out]
                    have e : ints (plTo p s t (j' + 1) ++ [((j' + 1 : Nat) : Int)]) = ints (plTo p s t (j' + 1)) ++ [.int .i64 ((j' : Int) + 1)] := by simp
                    rw [e]
                    exact hown6
                  have HB6 := hid (HB5.out.grown hgrow6 (by simp; omega) (fun b hb => (HO5.out.lt b hb).1))
                  have HO7 := hid hown7
                  obtain ⟨a6, c6, rfl, _⟩ := own_shape hown7
                  clear hown6 hown7 hgrow6
                  go_wp2_with fail
                  go_roundw
                  case rel => exact ⟨(j' + 1 + 1), by omega, by omega, by go_num, HO7, HB6⟩
                  case measure => simp [intOf]; omega
                · rename_i hK2
                  have hCt : C = false := hCB.trans hK2
                  rw [hCt, if_neg (by decide), List.append_nil] at HSK
                  clear ck hK2 hCB hCt
                  refine ⟨⟨(j' + 1 + 1), by omega, by omega, by go_num, hid (by rw [HSK.out]; exact HO.out), HB⟩, ?_⟩
                  simp [intOf]; omega
              · have hlt' : decide ((b : Int) < (j : Int)) = false := decide_eq_false (by omega)
                rw [decide_eq_false hlt, Bool.false_and] at hCB
                subst hCB
                rw [if_neg (by decide), List.append_nil] at HSK
                go_wp2_with fail
                go_roundw
                case rel => exact ⟨j + 1, by omega, by omega, by go_num, hid (by rw [HSK.out]; exact HO.out), HB⟩
                case measure => simp [intOf]; omega
        · obtain rfl : j = N + 1 := by omega
          have hle' : ¬ (((N + 1 : Nat) : Int) ≤ (N : Int)) := by omega
          have HF := hid (show PlOk p s t (plTo p s t (N + 1)) from plOk (by omega) (fun j hj => by
            rw [HCN.out] at hj
            have h4' : ¬ (({ op := op, loc := (ln : Int), reg := reg, val := val } : Ins).op = 4) := h4
            unfold fits5 at hj
            rw [if_neg h4'] at hj
            dsimp only at hj
            rw [Int.toNat_natCast, ← HN.out] at hj
            split at hj
            · simp only [Bool.and_eq_true, decide_eq_true_eq] at hj; omega
            · split at hj
              · simp only [Bool.and_eq_true, decide_eq_true_eq] at hj; omega
              · simp only [Bool.and_eq_true, decide_eq_true_eq] at hj; omega))
          obtain ⟨a6, c6, rfl, _⟩ := own_shape HO.out
          go_wp2_with fail
          go_ret
          exact ⟨plTo p s t (N + 1), ⟨a6, c6, rfl, own_base HO.out HB3.out.size, HB3.out.trans (HB.out.mono HB3.out.size)⟩, HF.out⟩
  · have hgo : goes p s.st t = false := by simpa using hgo
    have HF := hid (show PlOk p s t [] from ⟨fun m => ⟨fun h => (by cases h), fun ⟨k, _, hk⟩ => by unfold can5 at hk; rw [hgo] at hk; cases hk⟩, List.nodup_nil, by decide⟩)
    rw [hgo] at HNX
    clear hgo hgd h hv
    go_enter Try.func140, Try.ntmps140
    go_wp2_with fail
    refine (HNX.out w HVA.out).mono ?_
    rintro e w2 ⟨rfl, hb2⟩
    have HB2 := hid (hb2.alloc hb2.size (.cells #[.int .i64 0, .int .i64 0, .int .i64 0, .int .i64 0] 70))
    clear hb2
    go_wp2_with fail
    go_ret
    exact ⟨[], ⟨none, 0, rfl, own_none _ _ _ 1, HB2.out⟩, HF.out⟩
end Go.Proofs.Ythlmfjoiicnomaa
namespace Go.Proofs.Ythlmfjoiicnomaa
open Go.RowKit
set_option linter.unusedVariables false
set_option linter.unusedSimpArgs false

open Go.Sort in
theorem sortW_c (w : World) (base cap : Nat) (a : Option Addr) (zs : List Int) (h : OwI w base a cap zs) (hl : zs.length ≤ 1000000) :
    Calls Try.prog 141 #[.slice a zs.length cap] w fun e w' => e = .returned (.tuple #[]) ∧ OwI w' base a cap (zs.mergeSort fun x y => decide (x ≤ y)) ∧ Keeps (fun b => base ≤ b) w w' := by
  have hlen : (zs.mergeSort fun x y => decide (x ≤ y)).length = zs.length := List.length_mergeSort _
  rcases h.2 with ⟨hv, h0⟩ | ⟨g, cap', cur, hv, hg, hb, hc, hm, hs, ht⟩
  · simp only [Value.slice.injEq] at hv
    obtain ⟨rfl, _, rfl⟩ := hv
    have e : zs = [] := List.eq_nil_of_length_eq_zero h0
    subst e
    refine (Try.slices_Sort_int_none none 0 w).mono ?_
    rintro e w' ⟨rfl, rfl⟩
    exact ⟨rfl, by simpa using h, Keeps.refl _ _⟩
  · simp only [Value.slice.injEq, true_and] at hv
    obtain ⟨rfl, rfl⟩ := hv
    rw [Nat.mul_one] at ht
    refine (Try.slices_Sort_int g 0 cap zs w (holds_of_blockI hb ht) (Array.getElem?_eq_some_iff.1 hb).1 (by omega)).mono ?_
    rintro e w' ⟨rfl, n, os, rfl⟩
    refine ⟨rfl, ?_, Keeps.of_grown (grownBy_sortedI _) (fun k hk => by simp only [Option.some.injEq] at hk; omega)⟩
    unfold OwI
    rw [hlen]
    exact ownsRow_sortedI hlen hg hb hc hm hs
/-- The moves of the threads below t, each once. -/
structure MvOk (p : Prg) (s : Vs) (t : Nat) (ml : List Int) : Prop where
  mem : ∀ m, m ∈ ml ↔ ∃ c : Nat, m = c ∧ c % 3 < t ∧ can5 p s (c % 3) (c / 3) = true
  nodup : ml.Nodup
  len : ml.length ≤ 30 * t
/-- And those of thread t out of the first j places. -/
structure MvIn (p : Prg) (s : Vs) (t : Nat) (ks : List Int) (j : Nat) (ml : List Int) : Prop where
  mem : ∀ m, m ∈ ml ↔ (∃ c : Nat, m = c ∧ c % 3 < t ∧ can5 p s (c % 3) (c / 3) = true) ∨ ∃ (i : Nat) (k : Nat), i < j ∧ ks[i]? = some (k : Int) ∧ m = ((3 * k + t : Nat) : Int)
  nodup : ml.Nodup
  len : ml.length ≤ 30 * t + j
theorem MvOk.start (p : Prg) (s : Vs) : MvOk p s 0 [] := ⟨fun m => ⟨fun h => (by cases h), fun ⟨c, _, h, _⟩ => by omega⟩, List.nodup_nil, by decide⟩
theorem MvOk.inn {p : Prg} {s : Vs} {t : Nat} {ml : List Int} (h : MvOk p s t ml) (ks : List Int) : MvIn p s t ks 0 ml :=
  ⟨fun m => (h.mem m).trans ⟨.inl, fun e => e.elim id fun ⟨i, k, hi, _⟩ => by omega⟩, h.nodup, h.len⟩
theorem MvIn.step {p : Prg} {s : Vs} {t : Nat} {ks ml : List Int} {j k : Nat} (h : MvIn p s t ks j ml) (ht : t < 3) (hk : PlOk p s t ks) (hj : ks[j]? = some (k : Int)) : MvIn p s t ks (j + 1) (ml ++ [((3 * k + t : Nat) : Int)]) := by
  refine ⟨fun m => ?_, ?_, ?_⟩
  · rw [List.mem_append, h.mem, List.mem_singleton]
    constructor
    · rintro ((h1 | ⟨i, k', hi, h1, h2⟩) | rfl)
      · exact .inl h1
      · exact .inr ⟨i, k', by omega, h1, h2⟩
      · exact .inr ⟨j, k, by omega, hj, rfl⟩
    · rintro (h1 | ⟨i, k', hi, h1, h2⟩)
      · exact .inl (.inl h1)
      · by_cases e : i = j
        · subst e
          rw [hj] at h1
          have := Option.some.inj h1
          right
          rw [h2]
          omega
        · exact .inl (.inr ⟨i, k', by omega, h1, h2⟩)
  · rw [List.nodup_append]
    refine ⟨h.nodup, by simp, fun a ha b hb => ?_⟩
    rw [List.mem_singleton] at hb
    subst hb
    rintro rfl
    rcases (h.mem _).1 ha with ⟨c, hc, h1, _⟩ | ⟨i, k', hi, h1, h2⟩
    · omega
    · have e : k' = k := by omega
      subst e
      have hlt := (List.getElem?_eq_some_iff.1 hj).1
      have := (List.getElem?_inj (by omega) hk.nodup).1 (h1.trans hj.symm)
      omega
  · rw [List.length_append]
    have := h.len
    simp
    omega
theorem MvIn.out {p : Prg} {s : Vs} {t : Nat} {ks ml : List Int} (h : MvIn p s t ks ks.length ml) (ht : t < 3) (hk : PlOk p s t ks) : MvOk p s (t + 1) ml := by
  refine ⟨fun m => (h.mem m).trans ⟨?_, ?_⟩, h.nodup, by have := h.len; have := hk.len; omega⟩
  · rintro (⟨c, rfl, h1, h2⟩ | ⟨i, k, hi, h1, rfl⟩)
    · exact ⟨c, rfl, by omega, h2⟩
    · obtain ⟨k', e, hc⟩ := (hk.mem _).1 (List.mem_of_getElem? h1)
      have e : k = k' := by omega
      subst e
      refine ⟨3 * k + t, rfl, by omega, ?_⟩
      rw [show (3 * k + t) % 3 = t by omega, show (3 * k + t) / 3 = k by omega]
      exact hc
  · rintro ⟨c, rfl, h1, h2⟩
    by_cases e : c % 3 < t
    · exact .inl ⟨c, rfl, e, h2⟩
    · have e : c % 3 = t := by omega
      rw [e] at h2
      obtain ⟨i, hi⟩ := List.mem_iff_getElem?.1 ((hk.mem ((c / 3 : Nat) : Int)).2 ⟨c / 3, rfl, h2⟩)
      exact .inr ⟨i, c / 3, (List.getElem?_eq_some_iff.1 hi).1, hi, by omega⟩
theorem moves5_asc (p : Prg) (s : Vs) : (moves5 p s).Pairwise (· < ·) := by
  unfold moves5
  rw [List.pairwise_map]
  exact (List.Pairwise.filter _ List.pairwise_lt_range).imp fun h => by omega
theorem sort_moves5 {p : Prg} {s : Vs} {ml : List Int} (h : MvOk p s p.length ml) (hg : Good5 p s) (hv : Shape p) : ml.mergeSort (fun x y => decide (x ≤ y)) = moves5 p s := by
  have hp : ml.Perm (moves5 p s) := by
    refine (List.perm_ext_iff_of_nodup h.nodup ((moves5_asc p s).imp fun h => by omega)).2 fun m => ?_
    rw [h.mem, mem_moves5 hg hv]
    constructor
    · rintro ⟨c, e, _, hc⟩
      exact ⟨c, e, hc⟩
    · rintro ⟨c, e, hc⟩
      refine ⟨c, e, ?_, hc⟩
      unfold can5 at hc
      simp only [Bool.and_eq_true] at hc
      exact goes_thr hg.good hc.1
  refine List.Perm.eq_of_pairwise (le := (· ≤ ·)) (fun a b _ _ h1 h2 => by omega) ?_ ((moves5_asc p s).imp fun h => by omega) ((List.mergeSort_perm ml _).trans hp)
  have := List.pairwise_mergeSort (le := fun x y : Int => decide (x ≤ y)) (fun a b c h1 h2 => by simp at *; omega) (fun a b => by simp; omega) ml
  exact this.imp fun h => by simpa using h
set_option maxRecDepth 100000 in
set_option maxHeartbeats 1600000 in
theorem vMoves_c (w : World) (g : Nat) (p : Prg) (s : Vs) (h : VwAt w g p s) (hv : Shape p) :
    Calls Try.prog 133 #[.pointer (some ⟨g, 0, none⟩)] w (RetL w (moves5 p s)) := by
  have HAT := hid h
  have HPL := hid (fun w (h : VwAt w g p s) t (ht : t < p.length) => places_c w g p s t h hv ht)
  have HVS := hid hv
  have HMX := hid (fun m (hm : m ∈ moves5 p s) => show m < 75 + 3 from by
    have h1 := HAT.out.good.most_le hv
    unfold moves5 at hm
    obtain ⟨c, hc, rfl⟩ := List.mem_map.1 hm
    have := List.mem_range.1 (List.mem_filter.1 hc).1
    omega)
  have HSO := hid (fun ml (h : MvOk p s p.length ml) => sort_moves5 h HAT.out.good hv)
  obtain ⟨a, cap, hrp, h0, _, _, _⟩ := h.v.cells hv
  have hgl : g < w.heap.size := World.block_lt_of_cell? w ⟨g, 0, none⟩ h0
  obtain ⟨n, hn⟩ : ∃ n, n = p.length := ⟨_, rfl⟩
  have hn3 : n ≤ 3 := by rw [hn]; exact hv.len
  rw [← hn] at h0 HPL HSO
  clear hn h hv hrp
  go_enter Try.func133, Try.ntmps133
  go_wp2_with fail
  go_loopw [3, 4, 6, 13] (fun v _ _ i wx => ∃ (t : Nat) (ml : List Int), t ≤ n ∧ i = .int .i64 t ∧ Hid (MvOk p s t ml) ∧ Hid (wx.ownsRow w.heap.size 3 1 v ml.length (ints ml)) ∧ Hid (Below w.heap.size w wx)) (fun _ _ _ i _ => n - (intOf i).toNat)
  case atStart => exact ⟨0, [], Nat.zero_le _, rfl, hid (MvOk.start p s), hid (own_none _ _ _ 1), hid (Below.refl _ _)⟩
  case round =>
    obtain ⟨t, ml, ht, rfl, HMO, HO, HB⟩ := hrel
    by_cases hlt : t < n
    · have hlt' : (t : Int) < (n : Int) := by omega
      have HPC := hid (HPL.out wr (HAT.out.below HB.out) t hlt)
      clear h0
      go_wp2_with fail
      refine HPC.out.mono ?_
      rintro e w2 ⟨ks, ⟨ka, kc, rfl, hown, hb2⟩, hok⟩
      have HOK := hid hok
      have HKR := hid (Rd.own hown)
      have HO2 := hid (own_below HO.out hb2)
      have HB2 := hid (HB.out.trans (hb2.mono HB.out.size))
      have hkl := hok.len
      have hkb := hid (fun b hb => Nat.le_trans HB.out.size (own_blk hown b hb).1)
      have HKO := hid (fun b hb => (own_blk hown b hb).1)
      have HVB := hid (fun b hb => (HO.out.lt b hb).2)
      obtain ⟨l, hll⟩ : ∃ l, l = ks.length := ⟨_, rfl⟩
      rw [← hll] at hkl ⊢
      have HLL := hid hll
      clear hok hown hb2 hll
      go_wp2_with fail
      go_loopw [3, 6, 20] (fun v _ i wx => ∃ (j : Nat) (ml' : List Int), j ≤ l ∧ i = .int .i64 j ∧ Hid (MvIn p s t ks j ml') ∧ Hid (wx.ownsRow w.heap.size 3 1 v ml'.length (ints ml')) ∧ Hid (Below w.heap.size w wx) ∧ Hid (Rd wx ka (ints ks)) ∧ Hid (∀ b, v.ownBlock = some b → blk ka ≠ some b)) (fun _ _ i _ => l - (intOf i).toNat)
      case atStart => exact ⟨0, ml, Nat.zero_le _, rfl, hid (HMO.out.inn ks), HO2, HB2, HKR, hid (fun b hb e => by have := HVB.out b hb; have := HKO.out b e; omega)⟩
      case round =>
        clear HKR HO2 HB2 HVB HPC HO HB
        obtain ⟨j, ml', hj, rfl, HMI, HO, HB, HKR, HVB⟩ := hrel
        have hml := HMI.out.len
        by_cases hjl : j < l
        · obtain ⟨kb, ko, hab, hbl, hc⟩ := HKR.out.int j (by rw [← HLL.out]; exact hjl)
          subst hab
          have hjk : j < ks.length := by rw [← HLL.out]; exact hjl
          obtain ⟨kk, hkk, hcan⟩ := (HOK.out.mem ks[j]).1 (List.getElem_mem _)
          rw [hkk] at hc
          have HKJ := hid (show ks[j]? = some (kk : Int) by rw [List.getElem?_eq_getElem hjk, hkk])
          have hkk25 : kk ≤ 30 := by
            obtain ⟨hf⟩ : Nonempty (((kk * 3 + t : Nat) : Int) ∈ moves5 p s) := ⟨(mem_moves5 HAT.out.good HVS.out _).2 ⟨kk * 3 + t, rfl, by
              rw [show (kk * 3 + t) % 3 = t by omega, show (kk * 3 + t) / 3 = kk by omega]; exact hcan⟩⟩
            have h1 := HMX.out _ hf
            omega
          clear hkk hcan hjk
          obtain ⟨x, hx⟩ : ∃ x : Int, x = ((3 * kk + t : Nat) : Int) := ⟨_, rfl⟩
          have hx3 : 3 * (kk : Int) + (t : Int) = x := by omega
          have HST := hid (HMI.out.step (by omega) HOK.out HKJ.out)
          rw [← hx] at HST
          have hxb : 0 ≤ x ∧ x ≤ 1000 := by omega
          clear hx
          have hjl' : (j : Int) < (l : Int) := by omega
          have hb5 : Below wr.heap.size wr (wr.alloc (.cells #[.int .i64 x] 3)) := (Below.refl _ _).alloc (Nat.le_refl _) _
          have HO5 := hid (own_below HO.out hb5)
          have hs4 := HB.out.size
          have HB5 := hid (HB.out.trans (hb5.mono hs4))
          have HK5 := hid (HKR.out.below hb5)
          clear hb5
          go_wp2_with (at_builtin; refine wpList_append_rd rfl (.tmp 24) (.tmp 29) 24 rfl w.heap.size 3 (.int .i64 0) 1 8 Try.underlying24 Try.info_int rfl (by decide) _ _ _ rfl HO5.out _ 1 1 [.int .i64 x] rfl (rd_oneW wr _ _) rfl (by simp [Value.oneCell']) (by omega) (by decide) (by simp; omega) ?_)
          intro v6 w6 hown6 hgrow6 hat6
          have HO7 := hid (own_snoc (w := w) hown6)
          have HB6 := hid (HB5.out.grown hgrow6 (by simp; omega) (fun b hb => (HO5.out.lt b hb).1))
          have HK6 := hid (HK5.out.keeps (Keeps.of_grown hgrow6 fun k hk => hk) (fun b hb e => HVB.out b e hb))
          have HV6 := hid (show ∀ b, v6.ownBlock = some b → blk (some (⟨kb, ko, none⟩ : Addr)) ≠ some b from fun b hb e => by
            rcases hat6 with h | h
            · exact HVB.out b (by rw [← h]; exact hb) e
            · rw [h] at hb
              have h1 := Option.some.inj hb
              have h2 : kb = b := by simpa [blk] using e
              (try simp at h1)
              omega)
          obtain ⟨a6, c6, rfl, _⟩ := own_shape hown6
          clear hown6 hgrow6 hat6
          go_wp2_with fail
          go_roundw
          case rel => exact ⟨j + 1, ml' ++ [x], by omega, by go_num, HST, HO7, HB6, HK6, HV6⟩
          case measure => simp [intOf]; omega
        · obtain rfl : j = l := by omega
          have HMO2 := hid (MvIn.out (by have h := HMI.out; rw [HLL.out] at h; exact h) (by omega) HOK.out)
          go_wp2_with fail
          go_roundw
          case rel => exact ⟨t + 1, ml', by omega, by go_num, HMO2, HO, HB⟩
          case measure => simp [intOf]; omega
    · obtain rfl : t = n := by omega
      have hlt' : ¬ ((t : Int) < (t : Int)) := by omega
      have hml := HMO.out.len
      obtain ⟨a1, c1, rfl, _⟩ := own_shape HO.out
      have HSC := hid (sortW_c wr w.heap.size c1 a1 ml HO.out (by omega))
      rw [HSO.out ml HMO.out] at HSC
      have HLN := hid (show ml.length = (moves5 p s).length from by rw [← HSO.out ml HMO.out]; exact (List.length_mergeSort _).symm)
      obtain ⟨ll, hl⟩ : ∃ ll, ll = ml.length := ⟨_, rfl⟩
      rw [← hl] at HSC HLN
      rw [← hl]
      clear hl
      clear h0
      go_wp2_with fail
      refine HSC.out.mono ?_
      rintro e w3 ⟨rfl, ho3, hk3⟩
      have HO3 := hid ho3
      have HB3 := hid (Proofs.Ythlmfjoiicnomaa.Below.keeps HB.out hk3 HB.out.size (fun b hb => hb))
      clear ho3 hk3
      go_wp2_with fail
      go_ret
      exact ⟨a1, c1, by rw [← HLN.out]; rfl, HO3.out, HB3.out⟩
end Go.Proofs.Ythlmfjoiicnomaa
