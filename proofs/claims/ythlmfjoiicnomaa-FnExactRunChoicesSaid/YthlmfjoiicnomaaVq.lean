/-
  PROVED HERE: what spec.l5Choices, l5Outcome do. CONDITIONS: as each theorem states.
-/
import Derived.Test.YthlmfjoiicnomaaVp
namespace Go.Proofs.Ythlmfjoiicnomaa
open Go.RowKit
set_option linter.unusedVariables false
set_option linter.unusedSimpArgs false

def choTo (p : Prg) (s : Vs) (k : Nat) : List Int := ((List.range k).filter fun c => can5 p s (c % 3) (c / 3)).map fun (c : Nat) => (c : Int)
theorem choTo_succ (p : Prg) (s : Vs) (k : Nat) : choTo p s (k + 1) = choTo p s k ++ if can5 p s (k % 3) (k / 3) then [(k : Int)] else [] := by
  unfold choTo
  rw [List.range_succ, List.filter_append, List.map_append]
  congr 1
  by_cases h : can5 p s (k % 3) (k / 3) = true
  · simp [h]
  · simp [h]
theorem choTo_len (p : Prg) (s : Vs) (k : Nat) : (choTo p s k).length ≤ k := by
  unfold choTo
  rw [List.length_map]
  exact Nat.le_trans (List.length_filter_le _ _) (Nat.le_of_eq List.length_range)
theorem own_casV {w : World} {base e size n n' : Nat} {v : Value} {cs cs' : List Value} (h : w.ownsRow base e size v n cs) (hn : n' = n) (hc : cs' = cs) : w.ownsRow base e size v n' cs' := by
  subst hn hc
  exact h
theorem rd_oneV (w : World) (x : Int) (e : TypeId) : Rd (w.alloc (.cells #[.int .i64 x] e)) (some ⟨w.heap.size, 0, none⟩) [.int .i64 x] :=
  .inr ⟨_, 0, rfl, by simp, fun j u hj => by
    rw [Nat.zero_add, cell_of_row _ _ j _ _ _ (heap_alloc_new w _)]
    match j, hj with
    | 0, hj => simpa using hj
    | j + 1, hj => simp at hj⟩
set_option maxRecDepth 100000 in
set_option maxHeartbeats 3200000 in
theorem l5Choices_c (w : World) (a : Option Addr) (cap : Nat) (p : Prg) (q : Sp) (s : Vs) (hp : RdP w a p) (h : RdV w q s) (hv : Shape p) (hg : Good5 p s) :
    Calls Try.prog 41 #[.slice a p.length cap, q.v5 s] w (RetL w (moves5 p s)) := by
  have HMO := hid (fun w (h : RdV w q s) => l5Most_c w q s p h hv hg)
  have HCA := hid (fun w t k (hp : RdP w a p) (h : RdV w q s) (hk : k ≤ 9223372036854775807) => l5Can_c w a cap p q s t k hp h hv hg hk)
  have HP := hid hp
  have HS := hid h
  have hm25 := hg.most_le hv
  have HMV := hid (show moves5 p s = choTo p s (3 * most5 s) from rfl)
  obtain ⟨M, hM⟩ : ∃ M, M = most5 s := ⟨_, rfl⟩
  rw [← hM] at HMO hm25 HMV
  rw [HMV.out]
  obtain ⟨a0, c0, a1, c1, a2, c2, a3, c3⟩ := q
  unfold Sp.v5 Sp.hd5 at HMO HCA ⊢
  dsimp only at HMO HCA ⊢
  obtain ⟨n0, hn0⟩ : ∃ n, n = s.st.pc.length := ⟨_, rfl⟩
  obtain ⟨n1, hn1⟩ : ∃ n, n = s.st.regs.length := ⟨_, rfl⟩
  obtain ⟨n2, hn2⟩ : ∃ n, n = s.view.length := ⟨_, rfl⟩
  obtain ⟨n3, hn3⟩ : ∃ n, n = s.list.length := ⟨_, rfl⟩
  obtain ⟨n, hn⟩ : ∃ n, n = p.length := ⟨_, rfl⟩
  rw [← hn0, ← hn1, ← hn2, ← hn3] at HMO HCA
  rw [← hn0, ← hn1, ← hn2, ← hn3, ← hn]
  rw [← hn] at HCA
  clear hn0 hn1 hn2 hn3 hn hM hp h hv hg HMV
  have HB0 := hid (((Below.refl w.heap.size w).alloc (Nat.le_refl _) (.cells #[.slice a0 n0 c0, .slice a1 n1 c1, .slice a2 n2 c2, .slice a3 n3 c3] 59)).alloc (by simp) (.cells #[] 3))
  have HO0 := hid (own_lit0 (w.alloc (.cells #[.slice a0 n0 c0, .slice a1 n1 c1, .slice a2 n2 c2, .slice a3 n3 c3] 59)) w.heap.size 3 1 (by simp))
  obtain ⟨w1, hw1⟩ : ∃ w1, w1 = (w.alloc (.cells #[.slice a0 n0 c0, .slice a1 n1 c1, .slice a2 n2 c2, .slice a3 n3 c3] 59)).alloc (.cells #[] 3) := ⟨_, rfl⟩
  rw [← hw1, World.size_alloc] at HO0
  rw [← hw1] at HB0
  have hs1 : w1.heap.size = w.heap.size + 2 := by rw [hw1]; simp
  have HBX := hid (show w1.heap[w.heap.size]? = some (.cells #[.slice a0 n0 c0, .slice a1 n1 c1, .slice a2 n2 c2, .slice a3 n3 c3] 59 (0, 0)) from by
    rw [hw1, heap_alloc_old _ _ (by simp)]
    exact heap_alloc_new w _)
  go_enter Try.func41, Try.ntmps41
  go_wp2_with fail
  rw [← hw1]
  clear hw1
  go_loopw [5, 6] (fun v i wr => ∃ k : Nat, k ≤ 3 * M ∧ i = .int .i64 k ∧ Hid (wr.ownsRow w.heap.size 3 1 v (choTo p s k).length (ints (choTo p s k))) ∧ Hid (Below w.heap.size w wr) ∧ Hid (wr.heap[w.heap.size]? = some (.cells #[.slice a0 n0 c0, .slice a1 n1 c1, .slice a2 n2 c2, .slice a3 n3 c3] 59 (0, 0)))) (fun _ i _ => 3 * M - (intOf i).toNat)
  case atStart => exact ⟨0, Nat.zero_le _, rfl, hid HO0.out, HB0, HBX⟩
  case round =>
    obtain ⟨k, hk, rfl, HO, HB, HX⟩ := hrel
    have x0 := cell_of_row wr w.heap.size 0 _ _ _ HX.out
    have x1 := cell_of_row wr w.heap.size 1 _ _ _ HX.out
    have x2 := cell_of_row wr w.heap.size 2 _ _ _ HX.out
    have x3 := cell_of_row wr w.heap.size 3 _ _ _ HX.out
    have HM1 := hid (HMO.out wr (HS.out.below HB.out))
    go_wp2_with fail
    refine HM1.out.mono ?_
    rintro e w2 ⟨rfl, hb2⟩
    have HO2 := hid (own_below HO.out hb2)
    have hlt0 : w.heap.size < wr.heap.size := (Array.getElem?_eq_some_iff.1 HX.out).1
    have HX2 := hid ((hb2.block _ hlt0).trans HX.out)
    have HB2 := hid (HB.out.trans (hb2.mono HB.out.size))
    clear x0 x1 x2 x3 HO HB HX hb2 HM1
    have x0 := cell_of_row w2 w.heap.size 0 _ _ _ HX2.out
    have x1 := cell_of_row w2 w.heap.size 1 _ _ _ HX2.out
    have x2 := cell_of_row w2 w.heap.size 2 _ _ _ HX2.out
    have x3 := cell_of_row w2 w.heap.size 3 _ _ _ HX2.out
    by_cases hlt : k < 3 * M
    · have HSK := hid (choTo_succ p s k)
      have e3 : ((k % 3 : Nat) : Int) = (k : Int) % 3 := by omega
      have e4 : ((k / 3 : Nat) : Int) = (k : Int) / 3 := by omega
      have HC3 := hid (HCA.out w2 (k % 3) (k / 3) (HP.out.below HB2.out) (HS.out.below HB2.out) (by omega))
      rw [e3, e4] at HC3
      obtain ⟨B, hB⟩ : ∃ B, B = can5 p s (k % 3) (k / 3) := ⟨_, rfl⟩
      rw [← hB] at HC3 HSK
      have hlt' : (k : Int) < 3 * (M : Int) := by omega
      have hcl := choTo_len p s k
      clear hB e3 e4
      go_wp2_with fail
      refine HC3.out.mono ?_
      rintro e w4 ⟨rfl, hb4⟩
      have HO4 := hid (own_below HO2.out hb4)
      have hlt2 : w.heap.size < w2.heap.size := (Array.getElem?_eq_some_iff.1 HX2.out).1
      have HX4 := hid ((hb4.block _ hlt2).trans HX2.out)
      have HB4 := hid (HB2.out.trans (hb4.mono HB2.out.size))
      clear x0 x1 x2 x3 HO2 HB2 HX2 hb4 HC3
      cases B
      · rw [if_neg (by decide), List.append_nil] at HSK
        go_wp2_with fail
        go_roundw
        case rel => exact ⟨k + 1, by omega, by go_num, hid (by rw [HSK.out]; exact HO4.out), HB4, HX4⟩
        case measure => simp [intOf]; omega
      · rw [if_pos rfl] at HSK
        have HL := hid (show (choTo p s (k + 1)).length = (choTo p s k).length + 1 from by rw [HSK.out, List.length_append]; rfl)
        have hb5 : Below w4.heap.size w4 (w4.alloc (.cells #[.int .i64 (k : Int)] 3)) := (Below.refl _ _).alloc (Nat.le_refl _) _
        have HO5 := hid (own_below HO4.out hb5)
        have hs4 := HB4.out.size
        have HB5 := hid (HB4.out.trans (hb5.mono hs4))
        have hlt4 : w.heap.size < w4.heap.size := (Array.getElem?_eq_some_iff.1 HX4.out).1
        have HX5 := hid ((hb5.block _ hlt4).trans HX4.out)
        clear hb5
        go_wp2_with (at_builtin; refine wpList_append_rd rfl (.tmp 22) (.tmp 24) 24 rfl w.heap.size 3 (.int .i64 0) 1 8 Try.underlying24 Try.info_int rfl (by decide) _ _ _ rfl HO5.out _ 1 1 [.int .i64 (k : Int)] rfl (rd_oneV w4 _ _) rfl (by simp [Value.oneCell']) (by omega) (by decide) (by simp; omega) ?_)
        intro v6 w6 hown6 hgrow6 _
        have hown7 : w6.ownsRow w.heap.size 3 1 v6 (choTo p s (k + 1)).length (ints (choTo p s (k + 1))) := by
          rw [HL.out, HSK.out]
          have e : ints (choTo p s k ++ [(k : Int)]) = ints (choTo p s k) ++ [.int .i64 (k : Int)] := by simp
          rw [e]
          exact hown6
        have hne : ∀ x, u5.ownBlock = some x → x ≠ w.heap.size := fun x hx e => by
          obtain ⟨a', c', rfl, _⟩ := own_shape HO5.out
          rw [ownBlock_slice] at hx
          subst e
          have h1 := own_blk HO5.out _ hx
          obtain h2 := HO5.out
          rcases h2.2 with ⟨hv, _⟩ | ⟨g, cp, cur, hv, _, hg, _⟩
          · simp only [Value.slice.injEq] at hv
            rw [hv.1] at hx
            cases hx
          · simp only [Value.slice.injEq, true_and] at hv
            rw [hv.1] at hx
            simp only [blk, Option.some.injEq] at hx
            rw [hx, HX5.out] at hg
            simp only [Option.some.injEq, Obj.cells.injEq] at hg
            exact absurd hg.2.1 (by decide)
        have HX6 := hid ((hgrow6.block _ (by simp; omega) (fun e => hne _ e.symm rfl)).trans HX5.out)
        have HB6 := hid (HB5.out.grown hgrow6 (by simp; omega) (fun b hb => (HO5.out.lt b hb).1))
        have HO7 := hid hown7
        obtain ⟨a6, c6, rfl, _⟩ := own_shape hown7
        clear hown6 hown7 hgrow6 hne
        go_wp2_with fail
        go_roundw
        case rel => exact ⟨k + 1, by omega, by go_num, HO7, HB6, HX6⟩
        case measure => simp [intOf]; omega
    · obtain rfl : k = 3 * M := by omega
      have hlt' : ¬ ((3 * M : Nat) : Int) < 3 * (M : Int) := by omega
      obtain ⟨a6, c6, rfl, _⟩ := own_shape HO2.out
      clear x0 x1 x2 x3
      go_wp2_with fail
      go_ret
      exact ⟨a6, c6, rfl, HO2.out, HB2.out⟩
def lastV (r : List Ms) : Int := (r.getD (r.length - 1) msZ).val
def outTo5 (s : Vs) (k : Nat) : List Int := s.st.regs ++ (s.list.take k).map lastV
theorem outTo5_succ {s : Vs} {k : Nat} {r : List Ms} (h : s.list[k]? = some r) : outTo5 s (k + 1) = outTo5 s k ++ [lastV r] := by
  unfold outTo5
  rw [List.take_add_one, h, List.map_append, List.append_assoc]
  rfl
set_option maxRecDepth 100000 in
set_option maxHeartbeats 3200000 in
theorem l5Outcome_c (w : World) (q : Sp) (s : Vs) (p : Prg) (h : RdV w q s) (hv : Shape p) (hg : Good5 p s) :
    Calls Try.prog 39 #[q.v5 s] w (RetL w (out5 s)) := by
  obtain ⟨y, h⟩ := h
  obtain ⟨a0, c0, a1, c1, a2, c2, a3, c3⟩ := q
  have HS := hid h
  have hl3 := hg.ll
  have HG := hid hg
  have HV := hid hv
  have hrl : s.st.regs.length ≤ 9 := by have := hg.good.regl; have := hv.len; omega
  have HR := hid (fun k (hk : k < 3) => hg.row hk)
  have HOT := hid (show out5 s = outTo5 s 3 from by unfold out5 outTo5 last5; rw [List.take_of_length_le (by rw [hl3]; exact Nat.le_refl _)]; rfl)
  have HL5 := hid (fun k => show (outTo5 s k).length ≤ 12 from by
    unfold outTo5
    rw [List.length_append, List.length_map, List.length_take]
    omega)
  have HL0 := hid (show outTo5 s 0 = s.st.regs from by simp [outTo5])
  have HREG := hid (h.int (0, 1) (dom1 _)).1
  rw [h.h1] at HREG
  have HREG := hid (show Rd w a1 (ints s.st.regs) from HREG.out)
  obtain ⟨n1, hn1⟩ : ∃ n, n = s.st.regs.length := ⟨_, rfl⟩
  have HN1 := hid hn1
  have HLEN := hid hl3
  rw [HOT.out]
  unfold Sp.v5 Sp.hd5
  dsimp only
  rw [← hn1] at hrl ⊢
  rw [hl3]
  clear h hv hg hl3 hn1
  go_enter Try.func39, Try.ntmps39
  have hb0 : Below w.heap.size w ((w.alloc (.cells #[.slice a0 s.st.pc.length c0, .slice a1 n1 c1, .slice a2 s.view.length c2, .slice a3 3 c3] 59)).alloc (.cells #[] 3)) := ((Below.refl _ _).alloc (Nat.le_refl _) _).alloc (by simp) _
  have HO0 := hid (own_lit0 (w.alloc (.cells #[.slice a0 s.st.pc.length c0, .slice a1 n1 c1, .slice a2 s.view.length c2, .slice a3 3 c3] 59)) w.heap.size 3 1 (by simp))
  have HR0 := hid (HREG.out.below hb0)
  have HB0 := hid hb0
  have hsz0 := hb0.size
  rw [World.size_alloc] at HO0
  clear hb0
  go_wp2_with (at_builtin; refine wpList_append_rd rfl (.tmp 5) (.tmp 7) 24 rfl w.heap.size 3 (.int .i64 0) 1 8 Try.underlying24 Try.info_int rfl (by decide) _ _ _ rfl HO0.out a1 n1 c1 (ints s.st.regs) rfl HR0.out (by rw [List.length_map, HN1.out, Nat.mul_one]) (ints_one _ _) (by omega) (by decide) hsz0 ?_)
  intro v2 w2 hown2 hgrow2 _
  have HO2 := hid (show w2.ownsRow w.heap.size 3 1 v2 (outTo5 s 0).length (ints (outTo5 s 0)) from by
    rw [HL0.out, ← HN1.out]
    exact own_casV hown2 (by omega) (by simp))
  have HB2 := hid (HB0.out.grown hgrow2 hsz0 (fun b hb => (HO0.out.lt b hb).1))
  have hlt : w.heap.size < ((w.alloc (.cells #[.slice a0 s.st.pc.length c0, .slice a1 n1 c1, .slice a2 s.view.length c2, .slice a3 3 c3] 59)).alloc (.cells #[] 3)).heap.size := by rw [World.size_alloc, World.size_alloc]; omega
  have HX2 := hid (show w2.heap[w.heap.size]? = some (.cells #[.slice a0 s.st.pc.length c0, .slice a1 n1 c1, .slice a2 s.view.length c2, .slice a3 3 c3] 59 (0, 0)) from by
    rw [hgrow2.block _ hlt (fun e => by simp [Value.ownBlock] at e), heap_alloc_old _ _ (by simp)]
    exact heap_alloc_new w _)
  clear hown2 hgrow2 HO0 HR0 HB0 hlt hsz0
  go_wp2_with fail
  go_loopw [3, 4] (fun v i wr => ∃ k : Nat, k ≤ 3 ∧ i = .int .i64 k ∧ Hid (wr.ownsRow w.heap.size 3 1 v (outTo5 s k).length (ints (outTo5 s k))) ∧ Hid (Below w.heap.size w wr) ∧ Hid (wr.heap[w.heap.size]? = some (.cells #[.slice a0 s.st.pc.length c0, .slice a1 n1 c1, .slice a2 s.view.length c2, .slice a3 3 c3] 59 (0, 0)))) (fun _ i _ => 3 - (intOf i).toNat)
  case atStart => exact ⟨0, Nat.zero_le _, rfl, HO2, HB2, HX2⟩
  case round =>
    clear HO2 HB2 HX2
    obtain ⟨k, hk, rfl, HO, HB, HX⟩ := hrel
    have x3 := cell_of_row wr w.heap.size 3 _ _ _ HX.out
    by_cases hlt : k < 3
    · have hki : (k : Int) < 3 := by omega
      obtain ⟨lb, lo, hla, hllt, hlc, hlcap⟩ := HS.out.rowAt (l := k) (show k < s.list.length by rw [HLEN.out]; exact hlt)
      have hla : a3 = some ⟨lb, lo, none⟩ := hla
      subst hla
      have hpos := (HG.out.rpos hlt).1
      obtain ⟨N, hN⟩ : ∃ N, (row5 s k).length = N + 1 := ⟨(row5 s k).length - 1, by omega⟩
      obtain ⟨mb, mo, _, _, hma, hmlt, hmv, _⟩ := HS.out.msgAt (l := k) (k := N) (show k < s.list.length by rw [HLEN.out]; exact hlt) (show N < (row5 s k).length by omega)
      replace hlc : w.cell? ⟨lb, lo + k, none⟩ = some (.slice (y.L k).1 (row5 s k).length (y.L k).2) := hlc
      replace hmv : w.cell? ⟨mb, mo + N * 3, none⟩ = some (.int .i64 ((row5 s k).getD N msZ).val) := hmv
      rw [hma, hN] at hlc
      have HSK := hid (outTo5_succ (HR.out k hlt))
      have HLV := hid (show lastV (row5 s k) = ((row5 s k).getD N msZ).val from by unfold lastV; rw [hN, Nat.add_sub_cancel])
      obtain ⟨x, hx⟩ : ∃ x, x = ((row5 s k).getD N msZ).val := ⟨_, rfl⟩
      rw [HLV.out, ← hx] at HSK
      rw [← hx] at hmv
      have hN24 : N + 1 ≤ 24 := by rw [← hN]; exact HG.out.rowlen HV.out hlt
      obtain ⟨mc, hmc⟩ : ∃ mc, mc = (y.L k).2 := ⟨_, rfl⟩
      rw [← hmc] at hlc
      have y1 := (HB.out.cell (p := ⟨lb, lo + k, none⟩) hllt).trans hlc
      have y2 := (HB.out.cell (p := ⟨mb, mo + N * 3, none⟩) hmlt).trans hmv
      have hl12 := HL5.out k
      have HL1 := hid (show (outTo5 s (k + 1)).length = (outTo5 s k).length + 1 from by rw [HSK.out, List.length_append]; rfl)
      have hbs := HB.out.size
      have hNN : (N : Int) < (N : Int) + 1 := by omega
      clear hllt hlc hlcap hpos hN hma hmlt hmv hx hmc HLV
      go_wp2_with fail
      refine wp_region_mix (by kernel_rfl) (by kernel_rfl) ?_
      go_wp2_with (first | (with_reducible refine wpMix_rd rfl rfl (fun K hK => ?_); go_simp; (try go_bits); refine hK _ ?_; clear hK K) | (with_reducible refine wpMix_act (o := ⟨_, .buildSlice _ _ _, _, _, _, _⟩) rfl rfl (fun K hK => ?_)))
      refine wpMix_append_one rfl (.tmp 16) (.tmp 32) 24 rfl w.heap.size 3 (.int .i64 0) 8 Try.underlying24 Try.info_int rfl _ _ _ rfl (HO.out.drew.alloc _) _ (.int .i64 x) rfl (by simp) rfl (by omega) (by omega) (by simp; omega) ?_
      intro v1 w1 hown1 hgrow1
      have hsA : w.heap.size ≤ (wr.drew.alloc (.cells #[.int .i64 x] 3)).heap.size := by simp; omega
      have hne : ∀ b, u3.ownBlock = some b → b ≠ w.heap.size := fun b hb e => by
        obtain ⟨a', c', rfl, _⟩ := own_shape HO.out
        rw [ownBlock_slice] at hb
        subst e
        rcases HO.out.2 with ⟨hv, _⟩ | ⟨g, cp, cur, hv, _, hg, _⟩
        · simp only [Value.slice.injEq] at hv
          rw [hv.1] at hb
          cases hb
        · simp only [Value.slice.injEq, true_and] at hv
          rw [hv.1] at hb
          simp only [blk, Option.some.injEq] at hb
          rw [hb, HX.out] at hg
          simp only [Option.some.injEq, Obj.cells.injEq] at hg
          exact absurd hg.2.1 (by decide)
      have hlt0 : w.heap.size < wr.heap.size := (Array.getElem?_eq_some_iff.1 HX.out).1
      have HX1 := hid (show w1.heap[w.heap.size]? = some (.cells #[.slice a0 s.st.pc.length c0, .slice a1 n1 c1, .slice a2 s.view.length c2, .slice (some ⟨lb, lo, none⟩) 3 c3] 59 (0, 0)) from by
        rw [hgrow1.block _ (by simp; omega) (fun e => hne _ e.symm rfl)]
        exact (heap_alloc_old wr (.cells #[.int .i64 x] 3) hlt0).trans HX.out)
      have HB1 := hid ((HB.out.drew.alloc HB.out.size (.cells #[.int .i64 x] 3)).grown hgrow1 hsA (fun b hb => (HO.out.lt b hb).1))
      have HO1 := hid (show w1.ownsRow w.heap.size 3 1 v1 (outTo5 s (k + 1)).length (ints (outTo5 s (k + 1))) from by
        rw [HL1.out, HSK.out]
        have e : ints (outTo5 s k ++ [x]) = ints (outTo5 s k) ++ [.int .i64 x] := by simp
        rw [e]
        exact hown1)
      clear hown1 hgrow1 hne hlt0 hsA y1 y2 x3
      go_wp2_with (first | (with_reducible refine wpMix_nil ?_) | (with_reducible refine wpMix_rd rfl rfl (fun K hK => ?_); go_simp; (try go_bits); refine hK _ ?_; clear hK K))
      go_roundw
      case rel => exact ⟨k + 1, by omega, by go_num, HO1, HB1, HX1⟩
      case measure => simp [intOf]; omega
    · obtain rfl : k = 3 := by omega
      have h33 : ¬ ((3 : Nat) : Int) < 3 := by omega
      obtain ⟨a6, c6, rfl, _⟩ := own_shape HO.out
      go_wp2_with fail
      go_ret
      exact ⟨a6, c6, rfl, HO.out, HB.out⟩
end Go.Proofs.Ythlmfjoiicnomaa
