/-
  PROVED HERE: what spec.l2Path and impl.cycleFrom do. CONDITIONS: as each theorem states.
-/
import Derived.Test.YtdppidhnlbfpmaaCyc
namespace Go.Proofs.Ytdppidhnlbfpmaa
open Go.RowKit
set_option linter.unusedVariables false
set_option linter.unusedSimpArgs false

theorem seen_i64 (seen k : Nat) (hs : seen < 65536) : (bits .and .i64 ((seen : Int) / 2 ^ k) 1 == 0) = !seen.testBit k := by
  have h := bit_i64 seen k hs
  have e : (seen : Int) / 2 ^ k = ((seen >>> k : Nat) : Int) := by rw [Nat.shiftRight_eq_div_pow]; simp
  rw [e] at h ⊢
  have hlt : seen >>> k < 65536 := Nat.lt_of_le_of_lt (by rw [Nat.shiftRight_eq_div_pow]; exact Nat.div_le_self _ _) hs
  have h1 := bits_and_i64 (seen >>> k) 1 hlt (by decide)
  rw [show ((1 : Nat) : Int) = 1 from rfl] at h1
  rw [h1] at h ⊢
  have h2 : seen >>> k &&& 1 = 0 ∨ seen >>> k &&& 1 = 1 := by
    have : seen >>> k &&& 1 ≤ 1 := Nat.and_le_right
    omega
  rcases h2 with h2 | h2 <;> rw [h2] at h ⊢ <;> rw [← h] <;> rfl

theorem ext_no {r p : List Nat} {k : Nat} {st : List (List Nat) × Nat} (h : (bit r (lastD p) k && !st.2.testBit k) = false) : extStep r p st k = st := by
  unfold extStep; rw [h]; rfl
theorem ext_yes {r p : List Nat} {k : Nat} {st : List (List Nat) × Nat} (h1 : bit r (lastD p) k = true) (h2 : st.2.testBit k = false) : extStep r p st k = (st.1 ++ [p ++ [k]], st.2 ||| 2 ^ k) := by
  unfold extStep; rw [h1, h2]; rfl

theorem own_mono {w : World} {base base' e size n : Nat} {v : Value} {cs : List Value} (h : w.ownsRow base e size v n cs) (hb : base' ≤ base) : w.ownsRow base' e size v n cs := by
  refine ⟨h.1, h.2.imp id ?_⟩
  rintro ⟨g, c, cur, hv, hg, r⟩
  exact ⟨g, c, cur, hv, Nat.le_trans hb hg, r⟩
theorem below_grown {w w1 w2 : World} {N : Nat} {row : Option Nat} (h : Below N w w1) (hg : w1.grownBy w2 row) (hN : N ≤ w1.heap.size) (hr : ∀ k, row = some k → N ≤ k) : Below N w w2 := h.grown hg hN hr

set_option maxHeartbeats 3200000 in
theorem l2Path_c (w : World) (a : Option Addr) (cap : Nat) (ns : List Nat) (start : Nat) (h : Rd w a (natV ns)) (ho : Ok ns) (hs : start < ns.length) :
    Calls Try.prog 85 #[.slice a ns.length cap, .int .i64 start] w (RetN w (pathN ns start)) := by
  have C := hid (fun (w : World) (i k : Nat) h hi hk => l2Has_c w a cap ns i k h ho hi hk)
  have hlen := ho.len
  obtain ⟨n, hn⟩ : ∃ n, n = ns.length := ⟨_, rfl⟩
  have HGO := hid (show pathN ns start = bfsGo ns start (20 - 0) 0 [[start]] 0 from rfl)
  obtain ⟨res, hres⟩ : ∃ res, res = pathN ns start := ⟨_, rfl⟩
  rw [← hres] at HGO ⊢
  rw [← hn] at C hlen hs ⊢
  have HR := hid h
  have HN := hid hn
  have HS0 := hid (bfs_start hs)
  clear h ho hn hres
  go_enter Try.func85, Try.ntmps85
  go_wp2
  go_loopw [5, 6, 7] (fun v s i wr => ∃ (k seen : Nat) (ps : List (List Nat)) (g c : Nat) (vs : List Value), k ≤ ps.length ∧ i = .int .i64 k ∧ s = .int .i64 seen ∧ v = .slice (some ⟨g, 0, none⟩) ps.length c ∧ wr.ownsRow w.heap.size 23 1 (.slice (some ⟨g, 0, none⟩) ps.length c) ps.length vs ∧ Cells wr w.heap.size vs ps ∧ Bfs n ps seen ∧ bfsGo ns start (20 - k) k ps seen = res ∧ Below w.heap.size w wr) (fun _ _ i _ => 20 - (intOf i).toNat)
  case atStart =>
    refine ⟨0, 0, [[start]], w.heap.size + 1, 1, [.slice (some ⟨w.heap.size, 0, none⟩) 1 1], by simp, rfl, rfl, by simp, ?_, ?_, HS0.out, HGO.out.symm, ?_⟩
    · simpa using World.ownsRow_lit (e := 23) (size := 1) (base := w.heap.size) (w.alloc (.cells #[.int .i64 start] 3)) #[.slice (some ⟨w.heap.size, 0, none⟩) 1 1] 1 (by simp) (by decide) rfl
    · refine Cells.below (w := w.alloc (.cells #[.int .i64 start] 3)) ?_ ((Below.refl _ _).alloc (Nat.le_refl _) _)
      refine ⟨rfl, fun j u p hu hp => ?_⟩
      match j, hu, hp with
      | 0, hu, hp =>
        simp at hu hp
        subst hu hp
        exact ⟨_, _, rfl, World.ownsRow_lit (e := 3) (size := 1) (base := w.heap.size) w #[.int .i64 start] 1 (Nat.le_refl _) (by decide) rfl⟩
    · exact ((Below.refl _ _).alloc (Nat.le_refl _) _).alloc (by simp) _
  case round =>
    obtain ⟨k, seen, ps, g, c, vs, hk, rfl, rfl, rfl, hown, hcells, hbfs, hgo, hbel⟩ := hrel
    have hL17 := hbfs.le hlen
    obtain ⟨L, hL⟩ : ∃ L, L = ps.length := ⟨_, rfl⟩
    rw [← hL] at hown hk hL17 ⊢
    have HL := hid hL
    have HB := hid hbfs
    have HGO' := hid hgo
    clear hL hbfs hgo HGO HS0
    by_cases hlt : k < L
    · obtain ⟨p, hp⟩ : ∃ p, ps[k]? = some p := ⟨_, List.getElem?_eq_getElem (by have := HL.out; omega)⟩
      obtain ⟨hp1, hp2, hp3⟩ := HB.out.path k p hp
      obtain ⟨pa, pc, hvk, hpo⟩ := hcells.at hp
      have hcell := (hown.cellAt k (by omega)).trans hvk
      obtain ⟨t, ht⟩ : ∃ t, t = lastD p := ⟨_, rfl⟩
      have htn : t < n := by rw [ht]; exact hp3 _ (lastD_mem hp2)
      have hlast := lastD_at hp2
      rw [← ht] at hlast
      obtain ⟨pg, rfl, hpg1, hpg2⟩ := own_some hpo (by omega)
      have hcl := (hpo.cellAt (p.length - 1) (by omega)).trans (at_natV hlast)
      obtain ⟨m, hm⟩ : ∃ m, m = p.length := ⟨_, rfl⟩
      rw [← hm] at hcell hcl hp1 hp2 hpo
      have HM := hid hm
      have HP := hid hp
      have HT := hid ht
      have hkL : (k : Int) < L := by omega
      have hm1 : (1 : Int) ≤ m := by omega
      have Ct := hid (fun w1 (hb : Below w.heap.size w w1) => C.out w1 t start (HR.out.below hb) htn (by omega))
      clear hm hp ht hp3 hlast hvk
      have hi1 : (m : Int) - 1 < m := by omega
      have hi0 : (0 : Int) ≤ (m : Int) - 1 := by omega
      by_cases hbt : bit ns t start = true
      · rw [show (ns.getD t 0).testBit start = true from hbt] at Ct
        go_wp2_with fail
        refine wp_region_mix (by kernel_rfl) (by kernel_rfl) ?_
        go_wp2_with (first | (with_reducible refine wpMix_nil ?_) | (with_reducible refine wpMix_rd rfl rfl (fun K hK => ?_); go_simp; (try go_bits); refine hK _ ?_; clear hK K))
        refine (Ct.out _ hbel.drew).mono ?_
        rintro e w1 ⟨rfl, rfl⟩
        go_wp2
        go_ret
        have hr : p = res := by
          rw [← HGO'.out, show 20 - k = (19 - k) + 1 by omega, go_hit HP.out (by rw [← HT.out]; exact hbt)]
        subst hr
        exact ⟨_, _, ret_slice HM.out, by rw [← HM.out]; exact hpo, hbel.drew⟩
      · have hbt : bit ns t start = false := by simpa using hbt
        rw [show (ns.getD t 0).testBit start = false from hbt] at Ct
        obtain ⟨wo, rfl⟩ : ∃ wo : World, wo = wr := ⟨_, rfl⟩
        go_wp2_with fail
        refine wp_region_mix (by kernel_rfl) (by kernel_rfl) ?_
        go_wp2_with (first | (with_reducible refine wpMix_nil ?_) | (with_reducible refine wpMix_rd rfl rfl (fun K hK => ?_); go_simp; (try go_bits); refine hK _ ?_; clear hK K))
        refine (Ct.out _ hbel.drew).mono ?_
        rintro e w1 ⟨rfl, rfl⟩
        go_wp2
        clear hcell hcl hpo
        go_loopw [5, 6, 9] (fun v s jv wr => ∃ (j seen' : Nat) (qs : List (List Nat)) (g c : Nat) (vs : List Value), j ≤ n ∧ jv = .int .i64 j ∧ s = .int .i64 seen' ∧ v = .slice (some ⟨g, 0, none⟩) qs.length c ∧ wr.ownsRow w.heap.size 23 1 (.slice (some ⟨g, 0, none⟩) qs.length c) qs.length vs ∧ Cells wr w.heap.size vs qs ∧ Bfs n qs seen' ∧ (qs, seen') = extUpto ns p j (ps, seen) ∧ qs[k]? = some p ∧ Below w.heap.size w wr) (fun _ _ jv _ => n - (intOf jv).toNat)
        case atStart => exact ⟨0, seen, ps, g, c, vs, Nat.zero_le _, rfl, rfl, by rw [HL.out], by rw [← HL.out]; exact hown.drew, hcells.below (Below.refl _ _).drew, HB.out, rfl, HP.out, hbel.drew⟩
        case round =>
          clear hown hcells hbel HB hpg1 hpg2
          obtain ⟨j, seen', qs, g, c, vs, hj, rfl, rfl, rfl, hown, hcells, hbfs, heq, hqk, hbel⟩ := hrel
          have hq17 := hbfs.le hlen
          obtain ⟨K, hK⟩ : ∃ K, K = qs.length := ⟨_, rfl⟩
          rw [← hK] at hown hq17 ⊢
          have HK := hid hK
          have HB := hid hbfs
          have HEQ := hid heq
          have HQK := hid hqk
          have hs16 : seen' < 65536 := Nat.lt_of_lt_of_le hbfs.lt (Nat.pow_le_pow_right (n := 2) (by omega) hlen)
          clear hK hbfs heq
          by_cases hjn : j < n
          · have Cj := hid (fun w1 (hb : Below w.heap.size w w1) => C.out w1 t j (HR.out.below hb) htn (by omega))
            by_cases hb1 : bit ns t j = true
            · rw [show (ns.getD t 0).testBit j = true from hb1] at Cj
              have hseen := seen_i64 seen' j hs16
              by_cases hb2 : seen'.testBit j = true
              · rw [hb2] at hseen
                have hseen' : (bits .and .i64 ((seen' : Int) / 2 ^ j) 1 == 0) = false := hseen
                clear hseen
                go_wp2_with fail
                refine (Cj.out _ hbel).mono ?_
                rintro e w1 ⟨rfl, rfl⟩
                go_wp2
                go_roundw
                case rel => exact ⟨j + 1, seen', qs, g, c, vs, by omega, by go_num, rfl, by rw [HK.out], by rw [← HK.out]; exact hown, hcells, HB.out, by rw [ext_succ, ← HEQ.out, ext_no (by simp [hb2])], HQK.out, hbel⟩
                case measure => simp [intOf]; omega
              · have hb2 : seen'.testBit j = false := by simpa using hb2
                rw [hb2] at hseen
                have hseen' : (bits .and .i64 ((seen' : Int) / 2 ^ j) 1 == 0) = true := hseen
                clear hseen
                have hsh := shl_one j (by omega)
                have hor := or_shl seen' j hs16 (by omega)
                obtain ⟨pa, pc, hvk, hpo⟩ := hcells.at hqk
                have hkK : k < K := by have := (List.getElem?_eq_some_iff.1 HQK.out).1; have := HK.out; omega
                have hkK' : (k : Int) < K := by omega
                have hcell := (hown.cellAt k (by omega)).trans hvk
                rw [← HM.out] at hcell hpo
                have hm18 : m ≤ 18 := by omega
                have hgb : g < wr.heap.size := (own_blk hown g rfl).2
                have hcell' : (wr.alloc (.cells #[] 3)).cell? ⟨g, k, none⟩ = some (.slice pa m pc) := (((Below.refl wr.heap.size wr).alloc (Nat.le_refl _) _).cell (p := ⟨g, k, none⟩) hgb).trans hcell
                have HLN := hid (show (natV p).length = m by rw [length_natV]; exact HM.out.symm)
                clear hvk hqk
                go_wp2_with fail
                refine (Cj.out _ hbel).mono ?_
                rintro e w1 ⟨rfl, rfl⟩
                go_wp2_with (at_builtin; refine wpList_append_rd rfl (.tmp 61) (.tmp 65) 23 rfl wr.heap.size 3 (.int .i64 0) 8 Try.underlying23 Try.info_int rfl _ _ _ rfl (own_lit0 wr wr.heap.size 3 (Nat.le_refl _)) _ m pc (natV p) rfl ((Rd.own hpo).alloc _) HLN.out (natV_oneCell p) (by omega) (by omega) (by simp) ?_)
                intro v1 w1 hown1 hgrow1
                have hb01 : Below wr.heap.size wr w1 := ((Below.refl _ _).alloc (Nat.le_refl _) _).grown hgrow1 (by simp) (fun b hb => by simp [Value.ownBlock] at hb; omega)
                obtain ⟨a1, c1, rfl, hl1⟩ := own_shape hown1
                have hz1 := hb01.size
                clear hgrow1 hcell hcell' hpo
                go_wp2_with (at_builtin; refine wpList_append_one rfl (.tmp 66) (.tmp 68) 23 rfl wr.heap.size 3 (.int .i64 0) 8 Try.underlying23 Try.info_int rfl _ _ _ rfl (hown1.alloc _) _ (.int .i64 (j : Nat)) rfl (by simp) rfl (by omega) (by omega) (by simp; omega) ?_)
                intro v2 w2 hown2 hgrow2
                have hb02 : Below wr.heap.size wr w2 := (hb01.alloc hz1 _).grown hgrow2 (by simp; omega) (fun b hb => (hown1.lt b hb).1)
                have hnat : natV p ++ [Value.int .i64 (j : Nat)] = natV (p ++ [j]) := by simp [natV]
                have hown2 : w2.ownsRow wr.heap.size 3 1 v2 (m + 1) (natV (p ++ [j])) := by rw [← hnat]; exact hown2
                obtain ⟨a2, c2, rfl, hl2⟩ := own_shape hown2
                have hz2 := hb02.size
                have hownO := own_below hown hb02
                have hcellsO := hcells.below hb02
                clear hgrow2 hown1 hown hcells hb01 hnat hl1
                go_wp2_with (at_builtin; refine wpList_append_one rfl (.tmp 60) (.tmp 70) 58 rfl w.heap.size 23 (.slice none 0 0) 24 Try.underlying58 Try.info_ints rfl _ _ _ rfl (hownO.alloc _) _ (.slice a2 (m + 1) c2) rfl (by simp) rfl (by omega) (by omega) (by have := hbel.size; simp; omega) ?_)
                intro v3 w3 hown3 hgrow3
                have hmp : (p ++ [j]).length = m + 1 := by rw [List.length_append, ← HM.out]; rfl
                have hbel3 : Below w.heap.size w w3 := ((hbel.trans (hb02.mono hbel.size)).alloc (by have := hbel.size; omega) _).grown hgrow3 (by have := hbel.size; simp; omega) (fun b hb => (hownO.lt b hb).1)
                have hcells3 : Cells w3 w.heap.size (vs ++ [.slice a2 (m + 1) c2]) (qs ++ [p ++ [j]]) := by
                  have h1 : Cells (w2.alloc (.cells #[.slice a2 (m + 1) c2] 23)) w.heap.size (vs ++ [.slice a2 (m + 1) c2]) (qs ++ [p ++ [j]]) := by
                    have := (hcellsO.below ((Below.refl _ _).alloc (Nat.le_refl _) (.cells #[.slice a2 (m + 1) c2] 23))).snoc (p := p ++ [j]) (a := a2) (cap := c2) (by rw [hmp]; exact own_mono (hown2.alloc _) (by have := hbel.size; omega))
                    rw [hmp] at this
                    exact this
                  refine h1.grown hgrow3 fun b hb => .inl ?_
                  have := hb
                  simp only [Value.ownBlock, Option.some.injEq] at this
                  subst this
                  rcases hownO.2 with ⟨hv, _⟩ | ⟨g', cap', cur', hv, _, hg', _⟩
                  · simp at hv
                  · simp only [Value.slice.injEq, Option.some.injEq, Addr.mk.injEq, and_true, true_and] at hv
                    obtain ⟨rfl, rfl⟩ := hv
                    exact ⟨cur', (0, 0), by rw [Below.heap_alloc _ _ _ (Array.getElem?_eq_some_iff.1 hg').1]; exact hg'⟩
                obtain ⟨a3, c3, rfl, hl3⟩ := own_shape hown3
                obtain ⟨g3, rfl, _, _⟩ := own_some hown3 (by omega)
                clear hgrow3 hownO hcellsO hown2 hb02 hl2 hl3
                go_wp2
                go_roundw
                case rel =>
                  refine ⟨j + 1, seen' ||| 2 ^ j, qs ++ [p ++ [j]], g3, c3, _, by omega, by go_num, rfl, by rw [List.length_append, ← HK.out]; rfl, by rw [List.length_append, ← HK.out]; exact hown3, hcells3, bfs_step HB.out HQK.out hjn hb2, ?_, ?_, hbel3⟩
                  · rw [ext_succ, ← HEQ.out, ext_yes (by rw [← HT.out]; exact hb1) hb2]
                  · rw [List.getElem?_append_left (List.getElem?_eq_some_iff.1 HQK.out).1]; exact HQK.out
                case measure => simp [intOf]; omega
            · have hb1 : bit ns t j = false := by simpa using hb1
              rw [show (ns.getD t 0).testBit j = false from hb1] at Cj
              go_wp2_with fail
              refine (Cj.out _ hbel).mono ?_
              rintro e w1 ⟨rfl, rfl⟩
              go_wp2
              go_roundw
              case rel => exact ⟨j + 1, seen', qs, g, c, vs, by omega, by go_num, rfl, by rw [HK.out], by rw [← HK.out]; exact hown, hcells, HB.out, by rw [ext_succ, ← HEQ.out, ext_no (by rw [← HT.out, hb1]; rfl)], HQK.out, hbel⟩
              case measure => simp [intOf]; omega
          · have HE := hid (show j = n by omega)
            go_wp2
            go_roundw
            case rel =>
              refine ⟨k + 1, seen', qs, g, c, vs, by have := (List.getElem?_eq_some_iff.1 HQK.out).1; omega, by go_num, rfl, by rw [HK.out], by rw [← HK.out]; exact hown, hcells, HB.out, ?_, hbel⟩
              rw [← HGO'.out, show 20 - k = (20 - (k + 1)) + 1 by omega, go_miss HP.out (by rw [← HT.out]; exact hbt), ← HN.out, ← HE.out, ← HEQ.out]
            case measure => simp [intOf]; omega
    · have HE := hid (show k = L by omega)
      go_wp2
      go_ret
      have hnone : ps[k]? = none := List.getElem?_eq_none (by have := HL.out; have := HE.out; omega)
      have hr : res = [] := by
        rw [← HGO'.out, show 20 - k = (19 - k) + 1 by omega, go_end hnone]
      subst hr
      exact ⟨_, _, rfl, own_mono (own_lit0 wr wr.heap.size 3 (Nat.le_refl _)) hbel.size, hbel.alloc hbel.size _⟩
end Go.Proofs.Ytdppidhnlbfpmaa
